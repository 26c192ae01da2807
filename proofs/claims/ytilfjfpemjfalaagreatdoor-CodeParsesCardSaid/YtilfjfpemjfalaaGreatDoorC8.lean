/- Plain law of chapter 31: Print and Text; lines, words and numbers read back; Parse. -/
import Derived.Test.YtilfjfpemjfalaaGreatDoorC3
import Derived.Test.YtilfjfpemjfalaaGreatDoorFCh
namespace Go.Proofs.YtilfjfpemjfalaaGreatDoor
open Go Go.RowKit Kx
set_option maxRecDepth 100000

/-! ### Numbers as texts -/
def D (n : Int) : List UInt8 := (itoaF n).getD []
theorem D_all : ((List.range 199).all fun i => match itoaF ((i : Int) - 99) with | some r => decide (1 ≤ r.length) && decide (r.length ≤ 3) | none => false) = true := by kernel_rfl
theorem D_eq {n : Int} (h0 : -99 ≤ n) (h1 : n ≤ 99) : itoaF n = some (D n) ∧ 1 ≤ (D n).length ∧ (D n).length ≤ 3 := by
  have h := List.all_eq_true.mp D_all (n + 99).toNat (List.mem_range.mpr (by omega))
  have e : (((n + 99).toNat : Nat) : Int) - 99 = n := by omega
  rw [e] at h
  unfold D
  cases hi : itoaF n with
  | none => rw [hi] at h; cases h
  | some r =>
    rw [hi] at h
    simp only [Bool.and_eq_true, decide_eq_true_eq] at h
    exact ⟨rfl, h⟩
def wordS (op : Int) : List UInt8 := ((geti [[], [101, 113], [108, 101], [103, 101], [103, 111], [97, 99, 116]] op).getD [])
def fieldsL (x : T_api_Instr) : List Int := bif x.Op == 4 then [x.Go] else bif x.Op == 5 then [x.Val] else [x.Var, x.Val, x.Go]
def flS : List Int → List UInt8
  | [] => []
  | f :: l => 32 :: (D f ++ flS l)
def lineS (x : T_api_Instr) : List UInt8 := wordS x.Op ++ (flS (fieldsL x) ++ [10])
def textS : List T_api_Instr → List UInt8
  | [] => []
  | x :: l => lineS x ++ textS l
/-- What a valid instruction's fields are. -/
theorem fields_ok {n i : Nat} {x : T_api_Instr} (hx : okI n i x = true) (hn : n ≤ 40) : (∀ f ∈ fieldsL x, -99 ≤ f ∧ f ≤ 99) ∧ 1 ≤ (fieldsL x).length ∧ (fieldsL x).length ≤ 3 := by
  unfold fieldsL
  rcases okI_dest hx with ⟨h1, h2, h3, h4, h5⟩ | ⟨h1, h2, h3, h4, h5⟩ | ⟨h1, h2, h3, h4⟩
  · rw [show (x.Op == 4) = false from beq_false_of_ne (by omega), show (x.Op == 5) = false from beq_false_of_ne (by omega), cond_false, cond_false]
    refine ⟨fun f hf => ?_, by simp, by simp⟩
    simp only [List.mem_cons, List.mem_nil_iff, or_false] at hf
    rcases hf with rfl | rfl | rfl <;> omega
  · rw [show (x.Op == 4) = true by rw [h1]; rfl, cond_true]
    refine ⟨fun f hf => ?_, by simp, by simp⟩
    simp only [List.mem_cons, List.mem_nil_iff, or_false] at hf
    subst hf; omega
  · rw [show (x.Op == 4) = false by rw [h1]; rfl, show (x.Op == 5) = true by rw [h1]; rfl, cond_false, cond_true]
    refine ⟨fun f hf => ?_, by simp, by simp⟩
    simp only [List.mem_cons, List.mem_nil_iff, or_false] at hf
    subst hf; omega
theorem flS_len : ∀ (l : List Int), (∀ f ∈ l, -99 ≤ f ∧ f ≤ 99) → (flS l).length ≤ 4 * l.length
  | [], _ => Nat.le_refl _
  | f :: l, h => by
    have h1 := D_eq (h f List.mem_cons_self).1 (h f List.mem_cons_self).2
    have ih := flS_len l (fun g hg => h g (List.mem_cons_of_mem _ hg))
    simp only [flS, List.length_cons, List.length_append]
    omega
theorem word_op {n i : Nat} {x : T_api_Instr} (hx : okI n i x = true) : geti [[], [101, 113], [108, 101], [103, 101], [103, 111], [97, 99, 116]] x.Op = some (wordS x.Op) ∧ 2 ≤ (wordS x.Op).length ∧ (wordS x.Op).length ≤ 3 := by
  have : x.Op = 1 ∨ x.Op = 2 ∨ x.Op = 3 ∨ x.Op = 4 ∨ x.Op = 5 := by
    rcases okI_dest hx with ⟨h1, _⟩ | ⟨h1, _⟩ | ⟨h1, _⟩ <;> omega
  rcases this with h | h | h | h | h <;> (rw [h]; exact ⟨rfl, by decide, by decide⟩)
theorem lineS_len {n i : Nat} {x : T_api_Instr} (hx : okI n i x = true) (hn : n ≤ 40) : (lineS x).length ≤ 20 := by
  have h1 := fields_ok hx hn
  have h2 := flS_len _ h1.1
  have h3 := (word_op hx).2
  unfold lineS
  simp only [List.length_append, List.length_cons, List.length_nil]
  omega
/-! ### The code's Print -/
theorem toI_app (s t : List UInt8) : (s.map toI) ++ (t.map toI) = (s ++ t).map toI := by rw [List.map_append]
theorem wr_eq (s t : List UInt8) (h : s.length + t.length ≤ 2147483648) : F47a t (s.map toI) = some ((t.length : Int), false, (s ++ t).map toI) := by
  unfold F47a F83a
  rw [Option.bind_some, app_n _ _ (by simpa using h), Option.bind_some, toI_app]
theorem wb_eq (s : List UInt8) (h : s.length + 1 ≤ 2147483648) : F50 10 (s.map toI) = some (false, (s ++ [10]).map toI) := by
  unfold F50 F83a
  rw [Option.bind_some, app_n _ _ (by simpa using h), Option.bind_some, List.map_append]; rfl
theorem str_eq (s : List UInt8) (h0 : 1 ≤ s.length) (h : s.length ≤ 2147483648) : F51 (s.map toI) = some s := by
  unfold F51
  rw [List.length_map, List.length_map, ass_t (decide_eq_true (by omega))]
  unfold ustr
  rw [List.length_map, decide_eq_true (show (0 : Int) < (s.length : Int) by omega), decide_eq_true (show 0 + (s.length : Int).toNat ≤ s.length by omega), decide_eq_true (show (s.length : Int) ≤ 2147483648 by omega)]
  simp only [Bool.and_self, cond_true, Option.bind_some, List.drop_zero, Int.toNat_natCast]
  congr 1
  rw [List.take_of_length_le (by simp), List.map_map]
  have : ∀ b : UInt8, (Function.comp (fun x : Int => x.toNat.toUInt8) toI) b = b := fun b => by
    show ((b.toNat : Int).toNat).toUInt8 = b
    rw [Int.toNat_natCast]
    simp
  rw [List.map_congr_left (fun b _ => this b), List.map_id']
theorem fld_eq (x : T_api_Instr) : F48 x = some (fieldsL x) := by
  unfold F48 fieldsL
  cases x.Op == 4 with
  | true => rfl
  | false => cases x.Op == 5 <;> rfl
theorem pr_L3 {v : Int} {fl : List Int} {rec : Int → List Int → Option (List UInt8 × Int)} (hf : ∀ f ∈ fl, -99 ≤ f ∧ f ≤ 99) (hfl : fl.length ≤ 3) : ∀ (k j : Nat) (s : List UInt8), fl.length + 1 ≤ k + j → j ≤ fl.length → s.length ≤ 1000000 + 10 * j → F18_L3 v fl rec k j (s.map toI) = rec (IntKind.i64.wrap (v + 1)) ((s ++ (flS (fl.drop j) ++ [10])).map toI)
  | 0, j, s, h, h', _ => by omega
  | k + 1, j, s, h, h', hs => by
    rw [F18_L3]
    by_cases hj : j < fl.length
    · have hd : fl.drop j = fl[j] :: fl.drop (j + 1) := List.drop_eq_getElem_cons hj
      have hg : geti fl (j : Int) = some fl[j] := by rw [geti_k]; exact List.getElem?_eq_getElem hj
      have hb := hf fl[j] (List.getElem_mem hj)
      obtain ⟨e1, e2, e3⟩ := D_eq hb.1 hb.2
      unfold F49
      rw [dlt hj, cond_true, hg, Option.bind_some, e1, Option.bind_some, ass_t (decide_eq_true (by simp; omega)), wr_eq _ _ (by simp; omega), Option.bind_some, wi j (by omega)]
      rw [pr_L3 hf hfl k (j + 1) _ (by omega) (by omega) (by simp; omega), hd, flS]
      simp
    · have : j = fl.length := by omega
      subst this
      rw [dge (Nat.le_refl _), cond_false, wb_eq _ (by omega), Option.bind_some, List.drop_length, flS]; rfl
theorem pr_L2 {fuel : Nat} (hfu : 5 ≤ fuel) {l : List T_api_Instr} (hg : good l = true) : ∀ (k i : Nat) (s : List UInt8), l.length + 1 ≤ k + i → i ≤ l.length → 1 ≤ i → i ≤ s.length → s.length ≤ 20 * i → F18_L2 fuel l k i (s.map toI) = some (s ++ textS (l.drop i), 0)
  | 0, i, s, h, h', _, _, _ => by omega
  | k + 1, i, s, h, h', h1, h2, h3 => by
    have hl := good_len hg
    rw [F18_L2]
    by_cases hi : i < l.length
    · have hd : l.drop i = l[i] :: l.drop (i + 1) := List.drop_eq_getElem_cons hi
      have hgi : geti l (i : Int) = some l[i] := by rw [geti_k]; exact List.getElem?_eq_getElem hi
      have hx := good_at hg (List.getElem?_eq_getElem hi)
      have hw := word_op hx
      have hf := fields_ok hx hl.2
      have hfl := flS_len _ hf.1
      have hll := lineS_len hx hl.2
      rw [dlt hi, cond_true, hgi, Option.bind_some, hw.1, Option.bind_some, wr_eq _ _ (by omega), Option.bind_some, fld_eq, Option.bind_some]
      have := pr_L3 (v := (i : Int)) (rec := F18_L2 fuel l k) hf.1 hf.2.2 fuel 0 (s ++ wordS (l[i]).Op) (by omega) (by omega) (by simp; omega)
      rw [List.drop_zero] at this
      refine Eq.trans this ?_
      rw [wi i (by omega), List.append_assoc]
      show F18_L2 fuel l k ((i + 1 : Nat) : Int) ((s ++ lineS l[i]).map toI) = _
      rw [pr_L2 hfu hg k (i + 1) _ (by omega) (by omega) (by omega) (by rw [List.length_append]; unfold lineS; simp; omega) (by rw [List.length_append]; omega), hd, textS, List.append_assoc]
    · have : i = l.length := by omega
      subst this
      rw [dge (Nat.le_refl _), cond_false, str_eq _ (by omega) (by omega), Option.bind_some, List.drop_length, textS, List.append_nil]
theorem pr_L1 {fuel : Nat} {l : List T_api_Instr} {fl : List Int} (hf : ∀ f ∈ fl, -99 ≤ f ∧ f ≤ 99) (hfl : fl.length ≤ 3) : ∀ (k j : Nat) (s : List UInt8), fl.length + 1 ≤ k + j → j ≤ fl.length → s.length ≤ 1000000 + 10 * j → F18_L1 fuel l fl k j (s.map toI) = F18_L2 fuel l fuel 1 ((s ++ (flS (fl.drop j) ++ [10])).map toI)
  | 0, j, s, h, h', _ => by omega
  | k + 1, j, s, h, h', hs => by
    rw [F18_L1]
    by_cases hj : j < fl.length
    · have hd : fl.drop j = fl[j] :: fl.drop (j + 1) := List.drop_eq_getElem_cons hj
      have hg : geti fl (j : Int) = some fl[j] := by rw [geti_k]; exact List.getElem?_eq_getElem hj
      have hb := hf fl[j] (List.getElem_mem hj)
      obtain ⟨e1, e2, e3⟩ := D_eq hb.1 hb.2
      unfold F49
      rw [dlt hj, cond_true, hg, Option.bind_some, e1, Option.bind_some, ass_t (decide_eq_true (by simp; omega)), wr_eq _ _ (by simp; omega), Option.bind_some, wi j (by omega)]
      rw [pr_L1 hf hfl k (j + 1) _ (by omega) (by omega) (by simp; omega), hd, flS]
      simp
    · have : j = fl.length := by omega
      subst this
      rw [dge (Nat.le_refl _), cond_false, wb_eq _ (by omega), Option.bind_some, List.drop_length, flS]; rfl
theorem print_eq {fuel : Nat} {l : List T_api_Instr} (hg : good l = true) (hf : 50 ≤ fuel) : F18 fuel l = some (textS l, 0) := by
  have hl := good_len hg
  have h0 : 0 < l.length := by omega
  have hd : l = l[0] :: l.drop 1 := by
    have := List.drop_eq_getElem_cons h0
    simpa using this
  have hx := good_at hg (List.getElem?_eq_getElem h0)
  have hw := word_op hx
  have hfo := fields_ok hx hl.2
  have hll := lineS_len hx hl.2
  unfold F18 F47 F83
  rw [valid_eq (by omega) (by omega), hg, Option.bind_some, show (!true) = false from rfl, cond_false, List.length_map, decide_eq_true (show (0 : Int) < (l.length : Int) by omega), cond_true, geti_0, List.getElem?_eq_getElem h0, Option.bind_some, hw.1, Option.bind_some, Option.bind_some, app_n _ _ (by simp; omega), Option.bind_some, Option.bind_some, fld_eq, Option.bind_some, List.nil_append]
  have := pr_L1 (fuel := fuel) (l := l) hfo.1 hfo.2.2 fuel 0 (wordS (l[0]).Op) (by omega) (by omega) (by omega)
  rw [List.drop_zero] at this
  refine Eq.trans this ?_
  show F18_L2 fuel l fuel ((1 : Nat) : Int) ((lineS l[0]).map toI) = _
  rw [pr_L2 (by omega) hg fuel 1 _ (by omega) (by omega) (by omega) (by unfold lineS; simp; omega) (by omega)]
  conv => rhs; rw [hd]
  rfl
theorem print_bad {fuel : Nat} {l : List T_api_Instr} (hg : good l = false) (hl : l.length < 1000000) (hf : l.length + 1 ≤ fuel) : F18 fuel l = some ([], 310) := by
  unfold F18
  rw [valid_eq hl hf, hg]; rfl
/-! ### The reference's text -/
theorem of01_eq {n : Int} (h0 : -99 ≤ n) (h1 : n ≤ 99) : F74 n = some (D n) := by
  unfold F74 F49
  rw [(D_eq h0 h1).1]; rfl
theorem ass_s {α : Type} {m : Nat} {x : Option α} (h : m ≤ 1000000) : ass (decide (m ≤ 4611686018427387904)) x = x := ass_t (decide_eq_true (by omega))
theorem line_eq {n i : Nat} {x : T_api_Instr} (hx : okI n i x = true) (hn : n ≤ 40) : F42 x = some (lineS x) := by
  unfold F42
  rcases okI_dest hx with ⟨h1, h2, h3, h4, h5⟩ | ⟨h1, h2, h3, h4, h5⟩ | ⟨h1, h2, h3, h4⟩
  · obtain ⟨_, a1, a2⟩ := D_eq (n := x.Var) (by omega) (by omega)
    obtain ⟨_, b1, b2⟩ := D_eq (n := x.Val) (by omega) (by omega)
    obtain ⟨_, c1, c2⟩ := D_eq (n := x.Go) (by omega) (by omega)
    have hfl : fieldsL x = [x.Var, x.Val, x.Go] := by
      unfold fieldsL
      rw [show (x.Op == 4) = false from beq_false_of_ne (by omega), show (x.Op == 5) = false from beq_false_of_ne (by omega)]; rfl
    unfold lineS
    rw [hfl, of01_eq (n := x.Var) (by omega) (by omega), of01_eq (n := x.Val) (by omega) (by omega), of01_eq (n := x.Go) (by omega) (by omega)]
    simp only [Option.bind_some, flS]
    rcases h1 with h1 | h1 | h1
    · rw [h1]
      simp only [show ((1 : Int) == 4) = false from rfl, show ((1 : Int) == 5) = false from rfl, show ((1 : Int) == 2) = false from rfl, show ((1 : Int) == 3) = false from rfl, cond_false]
      repeat rw [ass_s (by simp only [List.length_append, List.length_cons, List.length_nil]; omega)]
      simp [wordS, geti]
    · rw [h1]
      simp only [show ((2 : Int) == 4) = false from rfl, show ((2 : Int) == 5) = false from rfl, show ((2 : Int) == 2) = true from rfl, cond_false, cond_true]
      repeat rw [ass_s (by simp only [List.length_append, List.length_cons, List.length_nil]; omega)]
      simp [wordS, geti]
    · rw [h1]
      simp only [show ((3 : Int) == 4) = false from rfl, show ((3 : Int) == 5) = false from rfl, show ((3 : Int) == 2) = false from rfl, show ((3 : Int) == 3) = true from rfl, cond_false, cond_true]
      repeat rw [ass_s (by simp only [List.length_append, List.length_cons, List.length_nil]; omega)]
      simp [wordS, geti]
  · obtain ⟨_, c1, c2⟩ := D_eq (n := x.Go) (by omega) (by omega)
    have hfl : fieldsL x = [x.Go] := by unfold fieldsL; rw [h1]; rfl
    unfold lineS
    rw [hfl, of01_eq (n := x.Go) (by omega) (by omega), h1]
    simp only [Option.bind_some, flS, show ((4 : Int) == 4) = true from rfl, cond_true]
    repeat rw [ass_s (by simp only [List.length_append, List.length_cons, List.length_nil]; omega)]
    simp [wordS, geti]
  · obtain ⟨_, c1, c2⟩ := D_eq (n := x.Val) (by omega) (by omega)
    have hfl : fieldsL x = [x.Val] := by unfold fieldsL; rw [h1]; rfl
    unfold lineS
    rw [hfl, of01_eq (n := x.Val) (by omega) (by omega), h1]
    simp only [Option.bind_some, flS, show ((5 : Int) == 4) = false from rfl, show ((5 : Int) == 5) = true from rfl, cond_false, cond_true]
    repeat rw [ass_s (by simp only [List.length_append, List.length_cons, List.length_nil]; omega)]
    simp [wordS, geti]
theorem text_L {l : List T_api_Instr} (hg : good l = true) : ∀ (k i : Nat) (s : List UInt8), l.length + 1 ≤ k + i → i ≤ l.length → s.length ≤ 20 * i → F13_L1 l k s i = some (s ++ textS (l.drop i))
  | 0, i, s, h, h', _ => by omega
  | k + 1, i, s, h, h', hs => by
    have hl := good_len hg
    rw [F13_L1]
    by_cases hi : i < l.length
    · have hd : l.drop i = l[i] :: l.drop (i + 1) := List.drop_eq_getElem_cons hi
      have hgi : geti l (i : Int) = some l[i] := by rw [geti_k]; exact List.getElem?_eq_getElem hi
      have hx := good_at hg (List.getElem?_eq_getElem hi)
      have hll := lineS_len hx hl.2
      rw [dlt hi, cond_true, hgi, Option.bind_some, line_eq hx hl.2, Option.bind_some, ass_s (by omega), wi i (by omega), text_L hg k (i + 1) _ (by omega) (by omega) (by rw [List.length_append]; omega), hd, textS, List.append_assoc]
    · have : i = l.length := by omega
      subst this
      rw [dge (Nat.le_refl _), cond_false, List.drop_length, textS, List.append_nil]
theorem text_eq {fuel : Nat} {l : List T_api_Instr} (hg : good l = true) (hf : 50 ≤ fuel) : F13 fuel l = some (textS l) := by
  have hl := good_len hg
  unfold F13
  have := text_L hg fuel 0 [] (by omega) (by omega) (by simp)
  simpa using this

/-! ### Lines -/
def bodyS (x : T_api_Instr) : List UInt8 := wordS x.Op ++ flS (fieldsL x)
theorem lineS_body (x : T_api_Instr) : lineS x = bodyS x ++ [10] := by unfold lineS bodyS; rw [List.append_assoc]
theorem cut1_hit {c : UInt8} : ∀ {a b : List UInt8}, (∀ u ∈ a, u ≠ c) → cut1 c (a ++ c :: b) = (a, b, true)
  | [], b, _ => by rw [List.nil_append, cut1, show (c == c) = true from beq_self_eq_true c]
  | u :: a, b, h => by
    have ih := cut1_hit (a := a) (b := b) (fun v hv => h v (List.mem_cons_of_mem _ hv))
    rw [List.cons_append, cut1, show (u == c) = false from beq_false_of_ne (h u List.mem_cons_self), ih]
theorem cut1_true {c : UInt8} : ∀ {s x y : List UInt8}, cut1 c s = (x, y, true) → s = x ++ c :: y
  | [], x, y, h => by simp [cut1] at h
  | u :: s, x, y, h => by
    rw [cut1] at h
    cases hb : u == c with
    | true =>
      rw [hb] at h
      simp only [Prod.mk.injEq] at h
      obtain ⟨rfl, rfl, _⟩ := h
      rw [eq_of_beq hb]; rfl
    | false =>
      rw [hb] at h
      obtain ⟨x', y', t', e⟩ : ∃ x' y' t', cut1 c s = (x', y', t') := ⟨_, _, _, rfl⟩
      rw [e] at h
      simp only [Prod.mk.injEq] at h
      obtain ⟨rfl, rfl, rfl⟩ := h
      rw [cut1_true e]; rfl
theorem cutF_n (c : UInt8) {s : List UInt8} (h : s.length ≤ 2147483648) : cutF s [c] = some (cut1 c s) := by
  show (bif decide (s.length ≤ 2147483648) then some (cut1 c s) else none) = _
  rw [decide_eq_true h]; rfl
theorem splitF_n (c : UInt8) {s : List UInt8} (h : s.length ≤ 2147483648) : splitF s [c] = some (split1 c s) := by
  show (bif decide (s.length ≤ 2147483648) then some (split1 c s) else none) = _
  rw [decide_eq_true h]; rfl
def unl (ls : List (List UInt8)) : List UInt8 := ls.flatMap (fun l => l ++ [10])
theorem unl_cons (l : List UInt8) (ls : List (List UInt8)) : unl (l :: ls) = l ++ 10 :: unl ls := by unfold unl; simp
theorem lines_L : ∀ (k : Nat) (s : List UInt8), s.length + 1 ≤ k → s.length ≤ 2000000 → ∃ ls b, F75_L1 k s = some (ls, b) ∧ (b = false → s = unl ls) ∧ (∀ l ∈ ls, l.length ≤ 2000000) ∧ ls.length ≤ s.length
  | 0, s, h, _ => by omega
  | k + 1, s, h, h2 => by
    rw [F75_L1]
    cases hs : (s == []) with
    | true =>
      have e : s = [] := eq_of_beq hs
      subst e
      exact ⟨[], false, rfl, fun _ => rfl, by simp, by simp⟩
    | false =>
      unfold F76
      rw [cutF_n 10 (show s.length ≤ 2147483648 by omega)]
      obtain ⟨x, y, t, e⟩ : ∃ x y t, cut1 10 s = (x, y, t) := ⟨_, _, _, rfl⟩
      rw [e]
      cases t with
      | false => exact ⟨[], true, rfl, (fun h => by cases h), by simp, by simp⟩
      | true =>
        have hs := cut1_true e
        have hl : s.length = x.length + 1 + y.length := by rw [hs]; simp; omega
        obtain ⟨ls, b, e1, e2, e3, e4⟩ := lines_L k y (by omega) (by omega)
        refine ⟨x :: ls, b, ?_, fun hb => ?_, fun l hl' => ?_, by simp; omega⟩
        · simp only [Bool.not_false, cond_true, Option.bind_some, Bool.not_true, cond_false, e1]
        · rw [unl_cons, ← e2 hb]; exact hs
        · rcases List.mem_cons.mp hl' with rfl | h
          · omega
          · exact e3 l h
theorem lines_of : ∀ (ls : List (List UInt8)) (k : Nat), (∀ l ∈ ls, (∀ u ∈ l, u ≠ 10)) → (unl ls).length + 1 ≤ k → (unl ls).length ≤ 2000000 → F75_L1 k (unl ls) = some (ls, false)
  | [], 0, _, h, _ => by omega
  | [], k + 1, _, _, _ => rfl
  | l :: ls, 0, _, h, _ => by omega
  | l :: ls, k + 1, hn, h, h2 => by
    have hu := unl_cons l ls
    have hl : (unl (l :: ls)).length = l.length + 1 + (unl ls).length := by rw [hu]; simp; omega
    have ih := lines_of ls k (fun m hm => hn m (List.mem_cons_of_mem _ hm)) (by omega) (by omega)
    rw [F75_L1]
    have hne : (unl (l :: ls) == []) = false := by rw [hu]; cases l <;> rfl
    unfold F76
    rw [hne, cutF_n 10 (show (unl (l :: ls)).length ≤ 2147483648 by omega), hu, cut1_hit (hn l List.mem_cons_self)]
    simp only [Bool.not_false, cond_true, Option.bind_some, Bool.not_true, cond_false, ih]
/-! ### Words -/
def joinS : List (List UInt8) → List UInt8
  | [] => []
  | w :: ws => w ++ ws.flatMap (fun v => 32 :: v)
theorem join_split : ∀ (s : List UInt8), ∃ w ws, split1 32 s = w :: ws ∧ joinS (w :: ws) = s ∧ ∀ v ∈ w :: ws, v.length ≤ s.length
  | [] => ⟨[], [], rfl, rfl, by simp⟩
  | b :: s => by
    obtain ⟨w, ws, e1, e2, e3⟩ := join_split s
    rw [split1]
    cases hb : b == 32 with
    | true =>
      refine ⟨[], w :: ws, by rw [e1], ?_, fun v hv => ?_⟩
      · rw [eq_of_beq hb, ← e2]; simp [joinS]
      · rcases List.mem_cons.mp hv with rfl | h
        · simp
        · have := e3 v h; simp; omega
    | false =>
      refine ⟨b :: w, ws, by rw [e1], ?_, fun v hv => ?_⟩
      · conv => rhs; rw [← e2]
        simp [joinS]
      · rcases List.mem_cons.mp hv with rfl | h
        · have := e3 w List.mem_cons_self; simp; omega
        · have := e3 v (List.mem_cons_of_mem _ h); simp; omega
theorem split_w : ∀ (w : List UInt8), (∀ u ∈ w, u ≠ 32) → split1 32 w = [w]
  | [], _ => rfl
  | b :: w, h => by
    rw [split1, show (b == 32) = false from beq_false_of_ne (h b List.mem_cons_self), split_w w (fun u hu => h u (List.mem_cons_of_mem _ hu))]
theorem split_app : ∀ (w r : List UInt8), (∀ u ∈ w, u ≠ 32) → split1 32 (w ++ 32 :: r) = w :: split1 32 r
  | [], r, _ => by rw [List.nil_append, split1, show ((32 : UInt8) == 32) = true from rfl]
  | b :: w, r, h => by
    rw [List.cons_append, split1, show (b == 32) = false from beq_false_of_ne (h b List.mem_cons_self), split_app w r (fun u hu => h u (List.mem_cons_of_mem _ hu))]
theorem split_join : ∀ (ws : List (List UInt8)) (w : List UInt8), (∀ v ∈ w :: ws, ∀ u ∈ v, u ≠ 32) → split1 32 (joinS (w :: ws)) = w :: ws
  | [], w, h => by simp only [joinS, List.flatMap_nil, List.append_nil]; exact split_w w (h w List.mem_cons_self)
  | v :: ws, w, h => by
    have ih := split_join ws v (fun z hz => h z (List.mem_cons_of_mem _ hz))
    have : joinS (w :: v :: ws) = w ++ 32 :: joinS (v :: ws) := by simp [joinS]
    rw [this, split_app w _ (h w List.mem_cons_self), ih]
theorem flS_join (w : List UInt8) (l : List Int) : w ++ flS l = joinS (w :: l.map D) := by
  unfold joinS
  congr 1
  induction l with
  | nil => rfl
  | cons f l ih => simp [flS, ih]
/-! ### Numbers -/
theorem all_bounds {s : List UInt8} {v : Int} (h : Lib.atoiAll s = .ok v) : -9223372036854775808 ≤ v ∧ v ≤ 9223372036854775807 := by
  unfold Lib.atoiAll at h
  split at h
  · cases h
  · dsimp only at h
    split at h
    · cases h
    · cases h
    · rename_i u _
      split at h
      · cases h
      · split at h
        · cases h
        · rename_i h1 h2
          cases h
          split <;> omega
theorem itoaF_tot {v : Int} (h : -9223372036854775808 ≤ v ∧ v ≤ 9223372036854775807) : ∃ r, itoaF v = some r := by
  unfold itoaF
  rw [decide_eq_true h.1, decide_eq_true h.2]
  exact ⟨_, rfl⟩
theorem num_tot (w : List UInt8) (h : w.length ≤ 2000000) : ∃ o, F79 w = some o ∧ ∀ n, o = some n → itoaF n = some w := by
  unfold F79 F98 atoiF F49
  rw [decide_eq_true (show w.length ≤ 2147483648 by omega), cond_true, Option.bind_some]
  cases hx : Lib.atoiAll w with
  | ok v =>
    obtain ⟨r, hr⟩ := itoaF_tot (all_bounds hx)
    dsimp only
    rw [hr]
    cases hb : r == w with
    | true =>
      refine ⟨some v, by simp [hb], fun n hn => ?_⟩
      cases hn
      rw [hr, eq_of_beq hb]
    | false => exact ⟨none, by simp [hb], fun n hn => by cases hn⟩
  | range => exact ⟨none, rfl, fun n hn => by cases hn⟩
  | _ => exact ⟨none, rfl, fun n hn => by cases hn⟩
theorem num_tab : ((List.range 199).all fun i => (match F79 (D ((i : Int) - 99)) with | some (some n) => decide (n = (i : Int) - 99) | _ => false) && ((D ((i : Int) - 99)).all fun u => !(u == 32) && !(u == 10))) = true := by kernel_rfl
theorem num_D {n : Int} (h0 : -99 ≤ n) (h1 : n ≤ 99) : F79 (D n) = some (some n) ∧ ∀ u ∈ D n, u ≠ 32 ∧ u ≠ 10 := by
  have h := List.all_eq_true.mp num_tab (n + 99).toNat (List.mem_range.mpr (by omega))
  have e : (((n + 99).toNat : Nat) : Int) - 99 = n := by omega
  rw [e, Bool.and_eq_true] at h
  refine ⟨?_, fun u hu => ?_⟩
  · have h2 := h.1
    split at h2
    · rename_i m hm; rw [hm, of_decide_eq_true h2]
    · cases h2
  · have := List.all_eq_true.mp h.2 u hu
    simp only [Bool.and_eq_true, Bool.not_eq_true', beq_eq_false_iff_ne] at this
    exact this

def nmL : List (List UInt8) := [[101, 113], [108, 101], [103, 101], [103, 111], [97, 99, 116]]
theorem nm_slc : slc ([[], [101, 113], [108, 101], [103, 101], [103, 111], [97, 99, 116]] : List (List UInt8)) 1 (6 : Int) = some nmL := rfl
theorem nm_idx (w : List UInt8) : idxF1 w nmL 0 = -1 ∨ (idxF1 w nmL 0 = 0 ∧ w = wordS 1) ∨ (idxF1 w nmL 0 = 1 ∧ w = wordS 2) ∨ (idxF1 w nmL 0 = 2 ∧ w = wordS 3) ∨ (idxF1 w nmL 0 = 3 ∧ w = wordS 4) ∨ (idxF1 w nmL 0 = 4 ∧ w = wordS 5) := by
  unfold nmL
  simp only [idxF1]
  cases h1 : ([101, 113] : List UInt8) == w with
  | true => exact .inr (.inl ⟨rfl, (eq_of_beq h1).symm⟩)
  | false =>
    cases h2 : ([108, 101] : List UInt8) == w with
    | true => exact .inr (.inr (.inl ⟨rfl, (eq_of_beq h2).symm⟩))
    | false =>
      cases h3 : ([103, 101] : List UInt8) == w with
      | true => exact .inr (.inr (.inr (.inl ⟨rfl, (eq_of_beq h3).symm⟩)))
      | false =>
        cases h4 : ([103, 111] : List UInt8) == w with
        | true => exact .inr (.inr (.inr (.inr (.inl ⟨rfl, (eq_of_beq h4).symm⟩))))
        | false =>
          cases h5 : ([97, 99, 116] : List UInt8) == w with
          | true => exact .inr (.inr (.inr (.inr (.inr ⟨rfl, (eq_of_beq h5).symm⟩))))
          | false => exact .inl rfl
theorem D_of {n : Int} {w : List UInt8} (h : itoaF n = some w) : D n = w := by unfold D; rw [h]; rfl
/-- What is read of three numbers, of one. -/
theorem three {a b c : List UInt8} (f : Int → Int → Int → T_api_Instr) {l : List UInt8} (ha : a.length ≤ 2000000) (hb : b.length ≤ 2000000) (hc : c.length ≤ 2000000) (hl : ∀ p q r, itoaF p = some a → itoaF q = some b → itoaF r = some c → lineS (f p q r) = l) :
    ∃ o, (pbind (F79 a) fun p => pbind (F79 b) fun q => pbind (F79 c) fun r => some (some (f p q r))) = some o ∧ ∀ x, o = some x → lineS x = l := by
  obtain ⟨oa, ea, ha⟩ := num_tot a ha
  obtain ⟨ob, eb, hb⟩ := num_tot b hb
  obtain ⟨oc, ec, hc⟩ := num_tot c hc
  rw [ea]
  cases oa with
  | none => exact ⟨none, rfl, fun x hx => by cases hx⟩
  | some p =>
    rw [eb]
    cases ob with
    | none => exact ⟨none, rfl, fun x hx => by cases hx⟩
    | some q =>
      rw [ec]
      cases oc with
      | none => exact ⟨none, rfl, fun x hx => by cases hx⟩
      | some r => exact ⟨_, rfl, fun x hx => by cases hx; exact hl p q r (ha p rfl) (hb q rfl) (hc r rfl)⟩
theorem one {a : List UInt8} (f : Int → T_api_Instr) {l : List UInt8} (ha : a.length ≤ 2000000) (hl : ∀ p, itoaF p = some a → lineS (f p) = l) :
    ∃ o, (pbind (F79 a) fun p => some (some (f p))) = some o ∧ ∀ x, o = some x → lineS x = l := by
  obtain ⟨oa, ea, ha⟩ := num_tot a ha
  rw [ea]
  cases oa with
  | none => exact ⟨none, rfl, fun x hx => by cases hx⟩
  | some p => exact ⟨_, rfl, fun x hx => by cases hx; exact hl p (ha p rfl)⟩
theorem l3 {op : Int} (h : op = 1 ∨ op = 2 ∨ op = 3) {p q r : Int} {a b c : List UInt8} (ha : itoaF p = some a) (hb : itoaF q = some b) (hc : itoaF r = some c) : lineS (⟨op, p, q, r⟩ : T_api_Instr) = joinS [wordS op, a, b, c] ++ [10] := by
  have hfl : fieldsL (⟨op, p, q, r⟩ : T_api_Instr) = [p, q, r] := by
    unfold fieldsL
    rcases h with h | h | h <;> (rw [h]; rfl)
  unfold lineS
  rw [hfl]
  simp [flS, D_of ha, D_of hb, D_of hc, joinS]
theorem instr_spec (l : List UInt8) (hl : l.length ≤ 2000000) : ∃ o, F45 l = some o ∧ ∀ x, o = some x → lineS x = l ++ [10] := by
  obtain ⟨w, ws, e1, e2, e3⟩ := join_split l
  unfold F45 F77
  rw [splitF_n 32 (show l.length ≤ 2147483648 by omega), e1, Option.bind_some, nm_slc, Option.bind_some, geti_0, List.getElem?_cons_zero, Option.bind_some]
  have hidx : F78 nmL w = some (idxF1 w nmL 0) := rfl
  rw [hidx, Option.bind_some, List.length_map]
  have hw : ∀ v ∈ ws, v.length ≤ 2000000 := fun v hv => by have := e3 v (List.mem_cons_of_mem _ hv); omega
  have bad : ∃ o : Option T_api_Instr, some none = some o ∧ ∀ x, o = some x → lineS x = l ++ [10] := ⟨none, rfl, fun x hx => by cases hx⟩
  have k3 : ∀ (op : Int), (op = 1 ∨ op = 2 ∨ op = 3) → w = wordS op → ∃ o, (bif ((w :: ws).length : Int) != 4 then some none else
      (Option.bind (geti (w :: ws) 1) fun y18 => Option.bind (geti (w :: ws) 2) fun y19 => Option.bind (geti (w :: ws) 3) fun y20 =>
        pbind (F79 y18) fun y21 => pbind (F79 y19) fun y22 => pbind (F79 y20) fun y23 => some (some (⟨op, y21, y22, y23⟩ : T_api_Instr)))) = some o ∧ ∀ x, o = some x → lineS x = l ++ [10] := fun op hop hwo => by
    match ws, hw, e2 with
    | [a, b, c], hw, e2 =>
      obtain ⟨o, h1, h2⟩ := three (fun p q r => (⟨op, p, q, r⟩ : T_api_Instr)) (l := l ++ [10]) (hw a (by simp)) (hw b (by simp)) (hw c (by simp)) (fun p q r ha hb hc => by rw [l3 hop ha hb hc, ← hwo, e2])
      exact ⟨o, h1, h2⟩
    | [], _, _ => exact bad
    | [_], _, _ => exact bad
    | [_, _], _, _ => exact bad
    | _ :: _ :: _ :: _ :: m, _, _ =>
      rw [show (((w :: _ :: _ :: _ :: _ :: m).length : Int) != 4) = true by simp; omega]
      exact bad
  have k1 : ∀ (op : Int) (f : Int → T_api_Instr), w = wordS op → (∀ p, (f p).Op = op ∧ fieldsL (f p) = [p]) → ∃ o, (bif ((w :: ws).length : Int) != 2 then some none else
      (Option.bind (geti (w :: ws) 1) fun y4 => pbind (F79 y4) fun y5 => some (some (f y5)))) = some o ∧ ∀ x, o = some x → lineS x = l ++ [10] := fun op f hwo hf => by
    match ws, hw, e2 with
    | [a], hw, e2 =>
      obtain ⟨o, h1, h2⟩ := one f (l := l ++ [10]) (hw a (by simp)) (fun p ha => by
        unfold lineS
        rw [(hf p).1, (hf p).2, ← e2, ← hwo]
        simp [flS, D_of ha, joinS])
      exact ⟨o, h1, h2⟩
    | [], _, _ => exact bad
    | _ :: _ :: m, _, _ =>
      rw [show (((w :: _ :: _ :: m).length : Int) != 2) = true by simp; omega]
      exact bad
  rcases nm_idx w with h | ⟨h, hwo⟩ | ⟨h, hwo⟩ | ⟨h, hwo⟩ | ⟨h, hwo⟩ | ⟨h, hwo⟩
  · rw [h]; exact bad
  · rw [h]; exact k3 1 (.inl rfl) hwo
  · rw [h]; exact k3 2 (.inr (.inl rfl)) hwo
  · rw [h]; exact k3 3 (.inr (.inr rfl)) hwo
  · rw [h]; exact k1 4 (fun p => ⟨4, 0, 0, p⟩) hwo (fun p => ⟨rfl, rfl⟩)
  · rw [h]; exact k1 5 (fun p => ⟨5, 0, p, 0⟩) hwo (fun p => ⟨rfl, rfl⟩)
theorem word_no : ([1, 2, 3, 4, 5].all fun op => ((wordS op).all fun u => !(u == 32) && !(u == 10))) = true := by kernel_rfl
theorem op_mem {n i : Nat} {x : T_api_Instr} (hx : okI n i x = true) : x.Op = 1 ∨ x.Op = 2 ∨ x.Op = 3 ∨ x.Op = 4 ∨ x.Op = 5 := by
  rcases okI_dest hx with ⟨h, _⟩ | ⟨h, _⟩ | ⟨h, _⟩ <;> omega
theorem word_clean {n i : Nat} {x : T_api_Instr} (hx : okI n i x = true) : ∀ u ∈ wordS x.Op, u ≠ 32 ∧ u ≠ 10 := fun u hu => by
  have h := List.all_eq_true.mp word_no x.Op (by rcases op_mem hx with h | h | h | h | h <;> simp [h])
  have := List.all_eq_true.mp h u hu
  simp only [Bool.and_eq_true, Bool.not_eq_true', beq_eq_false_iff_ne] at this
  exact this
theorem body_join (x : T_api_Instr) : bodyS x = joinS (wordS x.Op :: (fieldsL x).map D) := flS_join _ _
theorem body_no10 {n i : Nat} {x : T_api_Instr} (hx : okI n i x = true) (hn : n ≤ 40) : ∀ u ∈ bodyS x, u ≠ 10 := fun u hu => by
  have hf := fields_ok hx hn
  rw [body_join] at hu
  simp only [joinS, List.mem_append, List.mem_flatMap, List.mem_map] at hu
  rcases hu with hu | ⟨v, ⟨f, hf', rfl⟩, hv⟩
  · exact (word_clean hx u hu).2
  · rcases List.mem_cons.mp hv with rfl | hv
    · decide
    · exact ((num_D (hf.1 f hf').1 (hf.1 f hf').2).2 u hv).2
theorem body_split {n i : Nat} {x : T_api_Instr} (hx : okI n i x = true) (hn : n ≤ 40) : split1 32 (bodyS x) = wordS x.Op :: (fieldsL x).map D := by
  have hf := fields_ok hx hn
  rw [body_join]
  refine split_join _ _ (fun v hv u hu => ?_)
  rcases List.mem_cons.mp hv with rfl | hv
  · exact (word_clean hx u hu).1
  · obtain ⟨f, hf', rfl⟩ := List.mem_map.mp hv
    exact ((num_D (hf.1 f hf').1 (hf.1 f hf').2).2 u hu).1
theorem instr_of {n i : Nat} {x : T_api_Instr} (hx : okI n i x = true) (hn : n ≤ 40) : F45 (bodyS x) = some (some x) := by
  have hf := fields_ok hx hn
  have hlen := lineS_len hx hn
  rw [lineS_body, List.length_append] at hlen
  have hs := body_split hx hn
  unfold F45 F77
  rw [splitF_n 32 (by omega), hs, Option.bind_some, nm_slc, Option.bind_some, geti_0, List.getElem?_cons_zero, Option.bind_some]
  have hidx : ∀ w, F78 nmL w = some (idxF1 w nmL 0) := fun w => rfl
  rw [hidx, Option.bind_some, List.length_map]
  obtain ⟨op, va, vl, go⟩ := x
  rcases okI_dest hx with ⟨h1, h2, h3, h4, h5⟩ | ⟨h1, h2, h3, h4, h5⟩ | ⟨h1, h2, h3, h4⟩
  · have hfl : fieldsL (⟨op, va, vl, go⟩ : T_api_Instr) = [va, vl, go] := by
      unfold fieldsL
      rcases h1 with h1 | h1 | h1 <;> (simp only at h1; rw [h1]; rfl)
    rw [hfl] at hf ⊢
    have a1 := (num_D (hf.1 va (by simp)).1 (hf.1 va (by simp)).2).1
    have a2 := (num_D (hf.1 vl (by simp)).1 (hf.1 vl (by simp)).2).1
    have a3 := (num_D (hf.1 go (by simp)).1 (hf.1 go (by simp)).2).1
    have fin : ∀ op' : Int, (Option.bind (geti (wordS op :: List.map D [va, vl, go]) 1) fun y18 => Option.bind (geti (wordS op :: List.map D [va, vl, go]) 2) fun y19 => Option.bind (geti (wordS op :: List.map D [va, vl, go]) 3) fun y20 =>
        pbind (F79 y18) fun y21 => pbind (F79 y19) fun y22 => pbind (F79 y20) fun y23 => some (some (⟨op', y21, y22, y23⟩ : T_api_Instr))) = some (some (⟨op', va, vl, go⟩ : T_api_Instr)) := fun op' => by
      show (pbind (F79 (D va)) fun y21 => pbind (F79 (D vl)) fun y22 => pbind (F79 (D go)) fun y23 => some (some (⟨op', y21, y22, y23⟩ : T_api_Instr))) = _
      rw [a1, a2, a3]; rfl
    simp only at h1
    rcases h1 with h1 | h1 | h1
    · subst h1; exact fin 1
    · subst h1; exact fin 2
    · subst h1; exact fin 3
  · simp only at h1 h4 h5
    subst h1 h4 h5
    have hfl : fieldsL (⟨4, 0, 0, go⟩ : T_api_Instr) = [go] := rfl
    rw [hfl] at hf ⊢
    have a1 := (num_D (hf.1 go (by simp)).1 (hf.1 go (by simp)).2).1
    show (pbind (F79 (D go)) fun y5 => some (some (⟨4, 0, 0, y5⟩ : T_api_Instr))) = _
    rw [a1]; rfl
  · simp only at h1 h3 h4
    subst h1 h3 h4
    have hfl : fieldsL (⟨5, 0, vl, 0⟩ : T_api_Instr) = [vl] := rfl
    rw [hfl] at hf ⊢
    have a1 := (num_D (hf.1 vl (by simp)).1 (hf.1 vl (by simp)).2).1
    show (pbind (F79 (D vl)) fun y7 => some (some (⟨5, 0, y7, 0⟩ : T_api_Instr))) = _
    rw [a1]; rfl
/-! ### Parse -/
theorem textS_unl (l : List T_api_Instr) : textS l = unl (l.map bodyS) := by
  induction l with
  | nil => rfl
  | cons x l ih => rw [textS, ih, List.map_cons, unl_cons, lineS_body]; simp
theorem parse_L {fuel : Nat} (hf : 4000 ≤ fuel) {ys : List (List UInt8) × Bool} : ∀ (ls : List (List UInt8)) (acc : List T_api_Instr), (∀ l ∈ ls, l.length ≤ 2000000) → acc.length + ls.length ≤ 3000 →
    F15_L1 fuel ys ls acc = some ([], 5) ∨ ∃ m, F15_L1 fuel ys ls acc = some (acc ++ m, 0) ∧ ys.2 = false ∧ good (acc ++ m) = true ∧ textS m = unl ls
  | [], acc, _, hl => by
    rw [F15_L1]
    cases hb : ys.2 with
    | true => exact .inl rfl
    | false =>
      rw [cond_false, valid_eq (by simp at hl; omega) (by simp at hl; omega), Option.bind_some]
      cases hg : good acc with
      | false => exact .inl rfl
      | true => exact .inr ⟨[], by rw [List.append_nil]; rfl, rfl, by rw [List.append_nil]; exact hg, rfl⟩
  | l :: ls, acc, hn, hl => by
    rw [F15_L1]
    obtain ⟨o, e1, e2⟩ := instr_spec l (hn l List.mem_cons_self)
    rw [e1]
    cases o with
    | none => exact .inl rfl
    | some x =>
      show (Option.bind (app acc [x]) fun l5 => F15_L1 fuel ys ls l5) = _ ∨ _
      simp only [List.length_cons] at hl
      show (Option.bind (app acc [x]) fun l5 => F15_L1 fuel ys ls l5) = _ ∨ ∃ m, (Option.bind (app acc [x]) fun l5 => F15_L1 fuel ys ls l5) = _ ∧ _
      rw [app_n _ _ (by simp; omega), Option.bind_some]
      rcases parse_L hf ls (acc ++ [x]) (fun m hm => hn m (List.mem_cons_of_mem _ hm)) (by simp; omega) with h | ⟨m, h1, h2, h3, h4⟩
      · exact .inl h
      · refine .inr ⟨x :: m, by rw [h1]; simp, h2, by simpa using h3, ?_⟩
        rw [textS, h4, unl_cons, e2 x rfl]; simp
/-- Whatever the text: it is refused, or it is the text of the code that comes back. -/
theorem parse_spec {fuel : Nat} (hf : 4000 ≤ fuel) (t : List UInt8) (ht : t.length ≤ 2000) : F15 fuel t = some ([], 5) ∨ ∃ m, F15 fuel t = some (m, 0) ∧ good m = true ∧ textS m = t := by
  unfold F15 F44 F75
  rw [decide_eq_false (show ¬ ((t.length : Int) > 2000) by omega), cond_false, Option.bind_some]
  obtain ⟨ls, b, e1, e2, e3, e4⟩ := lines_L fuel t (by omega) (by omega)
  rw [e1, Option.bind_some]
  rcases parse_L hf (ys := (ls, b)) ls [] e3 (by simp; omega) with h | ⟨m, h1, h2, h3, h4⟩
  · exact .inl h
  · exact .inr ⟨m, by simpa using h1, by simpa using h3, by rw [h4]; exact (e2 h2).symm⟩
theorem parse_ok {fuel : Nat} (hf : 4000 ≤ fuel) {ys : List (List UInt8) × Bool} (hy : ys.2 = false) {n : Nat} (hn : n ≤ 40) : ∀ (l acc : List T_api_Instr) (i : Nat), goodL n i l = true → acc.length + l.length ≤ 3000 → good (acc ++ l) = true → F15_L1 fuel ys (l.map bodyS) acc = some (acc ++ l, 0)
  | [], acc, i, _, hl, hg => by
    rw [List.append_nil] at hg ⊢
    rw [List.map_nil, F15_L1, hy, cond_false, valid_eq (by simp at hl; omega) (by simp at hl; omega), hg]; rfl
  | x :: l, acc, i, hgl, hl, hg => by
    simp only [goodL, Bool.and_eq_true] at hgl
    simp only [List.length_cons] at hl
    rw [List.map_cons, F15_L1, instr_of hgl.1 hn]
    show (Option.bind (app acc [x]) fun l5 => F15_L1 fuel ys (l.map bodyS) l5) = _
    rw [app_n _ _ (by simp; omega), Option.bind_some, parse_ok hf hy hn l (acc ++ [x]) (i + 1) hgl.2 (by simp; omega) (by simpa using hg)]
    simp
theorem text_len {n : Nat} (hn : n ≤ 40) : ∀ (l : List T_api_Instr) (i : Nat), goodL n i l = true → (textS l).length ≤ 20 * l.length
  | [], _, _ => Nat.le_refl _
  | x :: l, i, h => by
    simp only [goodL, Bool.and_eq_true] at h
    have h1 := lineS_len h.1 hn
    have h2 := text_len hn l (i + 1) h.2
    simp only [textS, List.length_append, List.length_cons]
    omega
theorem body_all10 {n : Nat} (hn : n ≤ 40) {l : List T_api_Instr} {i : Nat} (hg : goodL n i l = true) : ∀ b ∈ l.map bodyS, ∀ u ∈ b, u ≠ 10 := fun b hb u hu => by
  obtain ⟨x, hx, rfl⟩ := List.mem_map.mp hb
  obtain ⟨j, hj⟩ := List.getElem?_of_mem hx
  exact body_no10 (goodL_get hg j x hj) hn u hu
theorem good_l {l : List T_api_Instr} (hg : good l = true) : goodL l.length 0 l = true := by unfold good at hg; rw [Bool.and_eq_true] at hg; exact hg.1
/-- The text of code is read back. -/
theorem parse_back {fuel : Nat} (hf : 4000 ≤ fuel) {l : List T_api_Instr} (hg : good l = true) : F15 fuel (textS l) = some (l, 0) := by
  have hl := good_len hg
  have hgl := good_l hg
  have ht := text_len hl.2 l 0 hgl
  unfold F15 F44 F75
  rw [decide_eq_false (show ¬ (((textS l).length : Int) > 2000) by omega), cond_false, Option.bind_some]
  have e := lines_of (l.map bodyS) fuel (body_all10 hl.2 hgl) (by rw [← textS_unl]; omega) (by rw [← textS_unl]; omega)
  rw [textS_unl, e, Option.bind_some]
  have := parse_ok hf (ys := (l.map bodyS, false)) rfl hl.2 l [] 0 hgl (by simp; omega) (by simpa using hg)
  simpa using this
end Go.Proofs.YtilfjfpemjfalaaGreatDoor
