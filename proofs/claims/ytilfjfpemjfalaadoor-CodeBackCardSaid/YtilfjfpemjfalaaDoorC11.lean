/- Plain law of chapter 31: instructions read back, Parse. -/
import Derived.Test.YtilfjfpemjfalaaDoorC10
namespace Go.Proofs.YtilfjfpemjfalaaDoor
open Go Go.RowKit Kx
set_option maxRecDepth 100000

def nmL : List (List UInt8) := [[101, 113], [108, 101], [103, 101], [103, 111], [97, 99, 116]]
theorem nm_slc : slc ([[], [101, 113], [108, 101], [103, 101], [103, 111], [97, 99, 116]] : List (List UInt8)) 1 (6 : Int) = some nmL := rfl
theorem nm_idx (w : List UInt8) : idxF1 w nmL 0 = -1 ∨ (idxF1 w nmL 0 = 0 ∧ w = wordS 1) ∨ (idxF1 w nmL 0 = 1 ∧ w = wordS 2) ∨ (idxF1 w nmL 0 = 2 ∧ w = wordS 3) ∨ (idxF1 w nmL 0 = 3 ∧ w = wordS 4) ∨ (idxF1 w nmL 0 = 4 ∧ w = wordS 5) := by
  unfold nmL
  simp only [idxF1]
  cases h1 : ([101, 113] : List UInt8) == w with
  | true => exact .inr (.inl ⟨rfl, (eq_of_beq h1).symm⟩)
  | false =>
    cases h2 : ([108, 101] : List UInt8) == w with
    | true => exact .inr (.inr (.inl ⟨rfl, (eq_of_beq h2).symm⟩))
    | false =>
      cases h3 : ([103, 101] : List UInt8) == w with
      | true => exact .inr (.inr (.inr (.inl ⟨rfl, (eq_of_beq h3).symm⟩)))
      | false =>
        cases h4 : ([103, 111] : List UInt8) == w with
        | true => exact .inr (.inr (.inr (.inr (.inl ⟨rfl, (eq_of_beq h4).symm⟩))))
        | false =>
          cases h5 : ([97, 99, 116] : List UInt8) == w with
          | true => exact .inr (.inr (.inr (.inr (.inr ⟨rfl, (eq_of_beq h5).symm⟩))))
          | false => exact .inl rfl
theorem D_of {n : Int} {w : List UInt8} (h : itoaF n = some w) : D n = w := by unfold D; rw [h]; rfl
/-- What is read of three numbers, of one. -/
theorem three {a b c : List UInt8} (f : Int → Int → Int → T_api_Instr) {l : List UInt8} (ha : a.length ≤ 2000000) (hb : b.length ≤ 2000000) (hc : c.length ≤ 2000000) (hl : ∀ p q r, itoaF p = some a → itoaF q = some b → itoaF r = some c → lineS (f p q r) = l) :
    ∃ o, (pbind (F48 a) fun p => pbind (F48 b) fun q => pbind (F48 c) fun r => some (some (f p q r))) = some o ∧ ∀ x, o = some x → lineS x = l := by
  obtain ⟨oa, ea, ha⟩ := num_tot a ha
  obtain ⟨ob, eb, hb⟩ := num_tot b hb
  obtain ⟨oc, ec, hc⟩ := num_tot c hc
  rw [ea]
  cases oa with
  | none => exact ⟨none, rfl, fun x hx => by cases hx⟩
  | some p =>
    rw [eb]
    cases ob with
    | none => exact ⟨none, rfl, fun x hx => by cases hx⟩
    | some q =>
      rw [ec]
      cases oc with
      | none => exact ⟨none, rfl, fun x hx => by cases hx⟩
      | some r => exact ⟨_, rfl, fun x hx => by cases hx; exact hl p q r (ha p rfl) (hb q rfl) (hc r rfl)⟩
theorem one {a : List UInt8} (f : Int → T_api_Instr) {l : List UInt8} (ha : a.length ≤ 2000000) (hl : ∀ p, itoaF p = some a → lineS (f p) = l) :
    ∃ o, (pbind (F48 a) fun p => some (some (f p))) = some o ∧ ∀ x, o = some x → lineS x = l := by
  obtain ⟨oa, ea, ha⟩ := num_tot a ha
  rw [ea]
  cases oa with
  | none => exact ⟨none, rfl, fun x hx => by cases hx⟩
  | some p => exact ⟨_, rfl, fun x hx => by cases hx; exact hl p (ha p rfl)⟩
theorem l3 {op : Int} (h : op = 1 ∨ op = 2 ∨ op = 3) {p q r : Int} {a b c : List UInt8} (ha : itoaF p = some a) (hb : itoaF q = some b) (hc : itoaF r = some c) : lineS (⟨op, p, q, r⟩ : T_api_Instr) = joinS [wordS op, a, b, c] ++ [10] := by
  have hfl : fieldsL (⟨op, p, q, r⟩ : T_api_Instr) = [p, q, r] := by
    unfold fieldsL
    rcases h with h | h | h <;> (rw [h]; rfl)
  unfold lineS
  rw [hfl]
  simp [flS, D_of ha, D_of hb, D_of hc, joinS]
theorem instr_spec (l : List UInt8) (hl : l.length ≤ 2000000) : ∃ o, F32 l = some o ∧ ∀ x, o = some x → lineS x = l ++ [10] := by
  obtain ⟨w, ws, e1, e2, e3⟩ := join_split l
  unfold F32 F46
  rw [splitF_n 32 (show l.length ≤ 2147483648 by omega), e1, Option.bind_some, nm_slc, Option.bind_some, geti_0, List.getElem?_cons_zero, Option.bind_some]
  have hidx : F47 nmL w = some (idxF1 w nmL 0) := rfl
  rw [hidx, Option.bind_some, List.length_map]
  have hw : ∀ v ∈ ws, v.length ≤ 2000000 := fun v hv => by have := e3 v (List.mem_cons_of_mem _ hv); omega
  have bad : ∃ o : Option T_api_Instr, some none = some o ∧ ∀ x, o = some x → lineS x = l ++ [10] := ⟨none, rfl, fun x hx => by cases hx⟩
  have k3 : ∀ (op : Int), (op = 1 ∨ op = 2 ∨ op = 3) → w = wordS op → ∃ o, (bif ((w :: ws).length : Int) != 4 then some none else
      (Option.bind (geti (w :: ws) 1) fun y18 => Option.bind (geti (w :: ws) 2) fun y19 => Option.bind (geti (w :: ws) 3) fun y20 =>
        pbind (F48 y18) fun y21 => pbind (F48 y19) fun y22 => pbind (F48 y20) fun y23 => some (some (⟨op, y21, y22, y23⟩ : T_api_Instr)))) = some o ∧ ∀ x, o = some x → lineS x = l ++ [10] := fun op hop hwo => by
    match ws, hw, e2 with
    | [a, b, c], hw, e2 =>
      obtain ⟨o, h1, h2⟩ := three (fun p q r => (⟨op, p, q, r⟩ : T_api_Instr)) (l := l ++ [10]) (hw a (by simp)) (hw b (by simp)) (hw c (by simp)) (fun p q r ha hb hc => by rw [l3 hop ha hb hc, ← hwo, e2])
      exact ⟨o, h1, h2⟩
    | [], _, _ => exact bad
    | [_], _, _ => exact bad
    | [_, _], _, _ => exact bad
    | _ :: _ :: _ :: _ :: m, _, _ =>
      rw [show (((w :: _ :: _ :: _ :: _ :: m).length : Int) != 4) = true by simp; omega]
      exact bad
  have k1 : ∀ (op : Int) (f : Int → T_api_Instr), w = wordS op → (∀ p, (f p).Op = op ∧ fieldsL (f p) = [p]) → ∃ o, (bif ((w :: ws).length : Int) != 2 then some none else
      (Option.bind (geti (w :: ws) 1) fun y4 => pbind (F48 y4) fun y5 => some (some (f y5)))) = some o ∧ ∀ x, o = some x → lineS x = l ++ [10] := fun op f hwo hf => by
    match ws, hw, e2 with
    | [a], hw, e2 =>
      obtain ⟨o, h1, h2⟩ := one f (l := l ++ [10]) (hw a (by simp)) (fun p ha => by
        unfold lineS
        rw [(hf p).1, (hf p).2, ← e2, ← hwo]
        simp [flS, D_of ha, joinS])
      exact ⟨o, h1, h2⟩
    | [], _, _ => exact bad
    | _ :: _ :: m, _, _ =>
      rw [show (((w :: _ :: _ :: m).length : Int) != 2) = true by simp; omega]
      exact bad
  rcases nm_idx w with h | ⟨h, hwo⟩ | ⟨h, hwo⟩ | ⟨h, hwo⟩ | ⟨h, hwo⟩ | ⟨h, hwo⟩
  · rw [h]; exact bad
  · rw [h]; exact k3 1 (.inl rfl) hwo
  · rw [h]; exact k3 2 (.inr (.inl rfl)) hwo
  · rw [h]; exact k3 3 (.inr (.inr rfl)) hwo
  · rw [h]; exact k1 4 (fun p => ⟨4, 0, 0, p⟩) hwo (fun p => ⟨rfl, rfl⟩)
  · rw [h]; exact k1 5 (fun p => ⟨5, 0, p, 0⟩) hwo (fun p => ⟨rfl, rfl⟩)
theorem word_no : ([1, 2, 3, 4, 5].all fun op => ((wordS op).all fun u => !(u == 32) && !(u == 10))) = true := by kernel_rfl
theorem op_mem {n i : Nat} {x : T_api_Instr} (hx : okI n i x = true) : x.Op = 1 ∨ x.Op = 2 ∨ x.Op = 3 ∨ x.Op = 4 ∨ x.Op = 5 := by
  rcases okI_dest hx with ⟨h, _⟩ | ⟨h, _⟩ | ⟨h, _⟩ <;> omega
theorem word_clean {n i : Nat} {x : T_api_Instr} (hx : okI n i x = true) : ∀ u ∈ wordS x.Op, u ≠ 32 ∧ u ≠ 10 := fun u hu => by
  have h := List.all_eq_true.mp word_no x.Op (by rcases op_mem hx with h | h | h | h | h <;> simp [h])
  have := List.all_eq_true.mp h u hu
  simp only [Bool.and_eq_true, Bool.not_eq_true', beq_eq_false_iff_ne] at this
  exact this
theorem body_join (x : T_api_Instr) : bodyS x = joinS (wordS x.Op :: (fieldsL x).map D) := flS_join _ _
theorem body_no10 {n i : Nat} {x : T_api_Instr} (hx : okI n i x = true) (hn : n ≤ 40) : ∀ u ∈ bodyS x, u ≠ 10 := fun u hu => by
  have hf := fields_ok hx hn
  rw [body_join] at hu
  simp only [joinS, List.mem_append, List.mem_flatMap, List.mem_map] at hu
  rcases hu with hu | ⟨v, ⟨f, hf', rfl⟩, hv⟩
  · exact (word_clean hx u hu).2
  · rcases List.mem_cons.mp hv with rfl | hv
    · decide
    · exact ((num_D (hf.1 f hf').1 (hf.1 f hf').2).2 u hv).2
theorem body_split {n i : Nat} {x : T_api_Instr} (hx : okI n i x = true) (hn : n ≤ 40) : split1 32 (bodyS x) = wordS x.Op :: (fieldsL x).map D := by
  have hf := fields_ok hx hn
  rw [body_join]
  refine split_join _ _ (fun v hv u hu => ?_)
  rcases List.mem_cons.mp hv with rfl | hv
  · exact (word_clean hx u hu).1
  · obtain ⟨f, hf', rfl⟩ := List.mem_map.mp hv
    exact ((num_D (hf.1 f hf').1 (hf.1 f hf').2).2 u hu).1
theorem instr_of {n i : Nat} {x : T_api_Instr} (hx : okI n i x = true) (hn : n ≤ 40) : F32 (bodyS x) = some (some x) := by
  have hf := fields_ok hx hn
  have hlen := lineS_len hx hn
  rw [lineS_body, List.length_append] at hlen
  have hs := body_split hx hn
  unfold F32 F46
  rw [splitF_n 32 (by omega), hs, Option.bind_some, nm_slc, Option.bind_some, geti_0, List.getElem?_cons_zero, Option.bind_some]
  have hidx : ∀ w, F47 nmL w = some (idxF1 w nmL 0) := fun w => rfl
  rw [hidx, Option.bind_some, List.length_map]
  obtain ⟨op, va, vl, go⟩ := x
  rcases okI_dest hx with ⟨h1, h2, h3, h4, h5⟩ | ⟨h1, h2, h3, h4, h5⟩ | ⟨h1, h2, h3, h4⟩
  · have hfl : fieldsL (⟨op, va, vl, go⟩ : T_api_Instr) = [va, vl, go] := by
      unfold fieldsL
      rcases h1 with h1 | h1 | h1 <;> (simp only at h1; rw [h1]; rfl)
    rw [hfl] at hf ⊢
    have a1 := (num_D (hf.1 va (by simp)).1 (hf.1 va (by simp)).2).1
    have a2 := (num_D (hf.1 vl (by simp)).1 (hf.1 vl (by simp)).2).1
    have a3 := (num_D (hf.1 go (by simp)).1 (hf.1 go (by simp)).2).1
    have fin : ∀ op' : Int, (Option.bind (geti (wordS op :: List.map D [va, vl, go]) 1) fun y18 => Option.bind (geti (wordS op :: List.map D [va, vl, go]) 2) fun y19 => Option.bind (geti (wordS op :: List.map D [va, vl, go]) 3) fun y20 =>
        pbind (F48 y18) fun y21 => pbind (F48 y19) fun y22 => pbind (F48 y20) fun y23 => some (some (⟨op', y21, y22, y23⟩ : T_api_Instr))) = some (some (⟨op', va, vl, go⟩ : T_api_Instr)) := fun op' => by
      show (pbind (F48 (D va)) fun y21 => pbind (F48 (D vl)) fun y22 => pbind (F48 (D go)) fun y23 => some (some (⟨op', y21, y22, y23⟩ : T_api_Instr))) = _
      rw [a1, a2, a3]; rfl
    simp only at h1
    rcases h1 with h1 | h1 | h1
    · subst h1; exact fin 1
    · subst h1; exact fin 2
    · subst h1; exact fin 3
  · simp only at h1 h4 h5
    subst h1 h4 h5
    have hfl : fieldsL (⟨4, 0, 0, go⟩ : T_api_Instr) = [go] := rfl
    rw [hfl] at hf ⊢
    have a1 := (num_D (hf.1 go (by simp)).1 (hf.1 go (by simp)).2).1
    show (pbind (F48 (D go)) fun y5 => some (some (⟨4, 0, 0, y5⟩ : T_api_Instr))) = _
    rw [a1]; rfl
  · simp only at h1 h3 h4
    subst h1 h3 h4
    have hfl : fieldsL (⟨5, 0, vl, 0⟩ : T_api_Instr) = [vl] := rfl
    rw [hfl] at hf ⊢
    have a1 := (num_D (hf.1 vl (by simp)).1 (hf.1 vl (by simp)).2).1
    show (pbind (F48 (D vl)) fun y7 => some (some (⟨5, 0, y7, 0⟩ : T_api_Instr))) = _
    rw [a1]; rfl
/-! ### Parse -/
theorem textS_unl (l : List T_api_Instr) : textS l = unl (l.map bodyS) := by
  induction l with
  | nil => rfl
  | cons x l ih => rw [textS, ih, List.map_cons, unl_cons, lineS_body]; simp
theorem parse_L {fuel : Nat} (hf : 4000 ≤ fuel) {ys : List (List UInt8) × Bool} : ∀ (ls : List (List UInt8)) (acc : List T_api_Instr), (∀ l ∈ ls, l.length ≤ 2000000) → acc.length + ls.length ≤ 3000 →
    F14_L1 fuel ys ls acc = some ([], 5) ∨ ∃ m, F14_L1 fuel ys ls acc = some (acc ++ m, 0) ∧ ys.2 = false ∧ good (acc ++ m) = true ∧ textS m = unl ls
  | [], acc, _, hl => by
    rw [F14_L1]
    cases hb : ys.2 with
    | true => exact .inl rfl
    | false =>
      rw [cond_false, valid_eq (by simp at hl; omega) (by simp at hl; omega), Option.bind_some]
      cases hg : good acc with
      | false => exact .inl rfl
      | true => exact .inr ⟨[], by rw [List.append_nil]; rfl, rfl, by rw [List.append_nil]; exact hg, rfl⟩
  | l :: ls, acc, hn, hl => by
    rw [F14_L1]
    obtain ⟨o, e1, e2⟩ := instr_spec l (hn l List.mem_cons_self)
    rw [e1]
    cases o with
    | none => exact .inl rfl
    | some x =>
      show (Option.bind (app acc [x]) fun l5 => F14_L1 fuel ys ls l5) = _ ∨ _
      simp only [List.length_cons] at hl
      show (Option.bind (app acc [x]) fun l5 => F14_L1 fuel ys ls l5) = _ ∨ ∃ m, (Option.bind (app acc [x]) fun l5 => F14_L1 fuel ys ls l5) = _ ∧ _
      rw [app_n _ _ (by simp; omega), Option.bind_some]
      rcases parse_L hf ls (acc ++ [x]) (fun m hm => hn m (List.mem_cons_of_mem _ hm)) (by simp; omega) with h | ⟨m, h1, h2, h3, h4⟩
      · exact .inl h
      · refine .inr ⟨x :: m, by rw [h1]; simp, h2, by simpa using h3, ?_⟩
        rw [textS, h4, unl_cons, e2 x rfl]; simp
/-- Whatever the text: it is refused, or it is the text of the code that comes back. -/
theorem parse_spec {fuel : Nat} (hf : 4000 ≤ fuel) (t : List UInt8) (ht : t.length ≤ 2000) : F14 fuel t = some ([], 5) ∨ ∃ m, F14 fuel t = some (m, 0) ∧ good m = true ∧ textS m = t := by
  unfold F14 F31 F44
  rw [decide_eq_false (show ¬ ((t.length : Int) > 2000) by omega), cond_false, Option.bind_some]
  obtain ⟨ls, b, e1, e2, e3, e4⟩ := lines_L fuel t (by omega) (by omega)
  rw [e1, Option.bind_some]
  rcases parse_L hf (ys := (ls, b)) ls [] e3 (by simp; omega) with h | ⟨m, h1, h2, h3, h4⟩
  · exact .inl h
  · exact .inr ⟨m, by simpa using h1, by simpa using h3, by rw [h4]; exact (e2 h2).symm⟩
theorem parse_ok {fuel : Nat} (hf : 4000 ≤ fuel) {ys : List (List UInt8) × Bool} (hy : ys.2 = false) {n : Nat} (hn : n ≤ 40) : ∀ (l acc : List T_api_Instr) (i : Nat), goodL n i l = true → acc.length + l.length ≤ 3000 → good (acc ++ l) = true → F14_L1 fuel ys (l.map bodyS) acc = some (acc ++ l, 0)
  | [], acc, i, _, hl, hg => by
    rw [List.append_nil] at hg ⊢
    rw [List.map_nil, F14_L1, hy, cond_false, valid_eq (by simp at hl; omega) (by simp at hl; omega), hg]; rfl
  | x :: l, acc, i, hgl, hl, hg => by
    simp only [goodL, Bool.and_eq_true] at hgl
    simp only [List.length_cons] at hl
    rw [List.map_cons, F14_L1, instr_of hgl.1 hn]
    show (Option.bind (app acc [x]) fun l5 => F14_L1 fuel ys (l.map bodyS) l5) = _
    rw [app_n _ _ (by simp; omega), Option.bind_some, parse_ok hf hy hn l (acc ++ [x]) (i + 1) hgl.2 (by simp; omega) (by simpa using hg)]
    simp
theorem text_len {n : Nat} (hn : n ≤ 40) : ∀ (l : List T_api_Instr) (i : Nat), goodL n i l = true → (textS l).length ≤ 20 * l.length
  | [], _, _ => Nat.le_refl _
  | x :: l, i, h => by
    simp only [goodL, Bool.and_eq_true] at h
    have h1 := lineS_len h.1 hn
    have h2 := text_len hn l (i + 1) h.2
    simp only [textS, List.length_append, List.length_cons]
    omega
theorem body_all10 {n : Nat} (hn : n ≤ 40) {l : List T_api_Instr} {i : Nat} (hg : goodL n i l = true) : ∀ b ∈ l.map bodyS, ∀ u ∈ b, u ≠ 10 := fun b hb u hu => by
  obtain ⟨x, hx, rfl⟩ := List.mem_map.mp hb
  obtain ⟨j, hj⟩ := List.getElem?_of_mem hx
  exact body_no10 (goodL_get hg j x hj) hn u hu
theorem good_l {l : List T_api_Instr} (hg : good l = true) : goodL l.length 0 l = true := by unfold good at hg; rw [Bool.and_eq_true] at hg; exact hg.1
/-- The text of code is read back. -/
theorem parse_back {fuel : Nat} (hf : 4000 ≤ fuel) {l : List T_api_Instr} (hg : good l = true) : F14 fuel (textS l) = some (l, 0) := by
  have hl := good_len hg
  have hgl := good_l hg
  have ht := text_len hl.2 l 0 hgl
  unfold F14 F31 F44
  rw [decide_eq_false (show ¬ (((textS l).length : Int) > 2000) by omega), cond_false, Option.bind_some]
  have e := lines_of (l.map bodyS) fuel (body_all10 hl.2 hgl) (by rw [← textS_unl]; omega) (by rw [← textS_unl]; omega)
  rw [textS_unl, e, Option.bind_some]
  have := parse_ok hf (ys := (l.map bodyS, false)) rfl hl.2 l [] 0 hgl (by simp; omega) (by simpa using hg)
  simpa using this
end Go.Proofs.YtilfjfpemjfalaaDoor
