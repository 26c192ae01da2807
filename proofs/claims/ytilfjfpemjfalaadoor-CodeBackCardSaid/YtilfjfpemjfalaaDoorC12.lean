/- Plain law of chapter 31: CodeBack. -/
import Derived.Test.YtilfjfpemjfalaaDoorC11
import Derived.Test.YtilfjfpemjfalaaDoorFBa
namespace Go.Proofs.YtilfjfpemjfalaaDoor
open Go Go.RowKit Kx
set_option maxRecDepth 100000

theorem unl_pre : ∀ (aa bs : List (List UInt8)) (r : List UInt8), (∀ l ∈ aa, ∀ u ∈ l, u ≠ 10) → (∀ l ∈ bs, ∀ u ∈ l, u ≠ 10) → unl aa ++ r = unl bs → ∃ cs, bs = aa ++ cs ∧ r = unl cs
  | [], bs, r, _, _, h => ⟨bs, rfl, by simpa [unl] using h⟩
  | a :: aa, [], r, _, _, h => by rw [unl_cons] at h; simp [unl] at h
  | a :: aa, b :: bs, r, ha, hb, h => by
    rw [unl_cons, unl_cons, List.append_assoc, List.cons_append] at h
    have h1 := cut1_hit (b := unl aa ++ r) (ha a List.mem_cons_self)
    rw [h, cut1_hit (hb b List.mem_cons_self)] at h1
    simp only [Prod.mk.injEq] at h1
    obtain ⟨rfl, h2, _⟩ := h1
    obtain ⟨cs, h3, h4⟩ := unl_pre aa bs r (fun l hl => ha l (List.mem_cons_of_mem _ hl)) (fun l hl => hb l (List.mem_cons_of_mem _ hl)) h2.symm
    exact ⟨cs, by rw [h3]; rfl, h4⟩
theorem body_inj {x y : T_api_Instr} {n i m j : Nat} (hx : okI n i x = true) (hn : n ≤ 40) (hy : okI m j y = true) (hm : m ≤ 40) (h : bodyS x = bodyS y) : x = y := by
  have h1 := instr_of hx hn
  rw [h, instr_of hy hm] at h1
  cases h1; rfl
theorem text_pre {a b : List T_api_Instr} (ha : good a = true) (hb : good b = true) {r : List UInt8} (hr : r ≠ []) (h : textS a ++ r = textS b) : a.length < b.length ∧ a = b.take a.length := by
  have la := good_len ha
  have lb := good_len hb
  rw [textS_unl, textS_unl] at h
  obtain ⟨cs, h1, h2⟩ := unl_pre _ _ r (body_all10 la.2 (good_l ha)) (body_all10 lb.2 (good_l hb)) h
  have hcs : 0 < cs.length := by
    rcases cs with _ | ⟨c, cs⟩
    · exact absurd h2 hr
    · simp
  have hlen : b.length = a.length + cs.length := by
    have := congrArg List.length h1
    simpa using this
  refine ⟨by omega, List.ext_getElem? fun j => ?_⟩
  by_cases hj : j < a.length
  · rw [List.getElem?_take_of_lt hj]
    have hxa : a[j]? = some a[j] := List.getElem?_eq_getElem hj
    have hxb : b[j]? = some (b[j]'(by omega)) := List.getElem?_eq_getElem (by omega)
    have h3 : (b.map bodyS)[j]? = (a.map bodyS)[j]? := by rw [h1, List.getElem?_append_left (by simpa using hj)]
    rw [List.getElem?_map, List.getElem?_map, hxa, hxb] at h3
    simp only [Option.map_some, Option.some.injEq] at h3
    rw [hxa, hxb, body_inj (good_at ha hxa) la.2 (good_at hb hxb) lb.2 h3.symm]
  · rw [List.getElem?_eq_none (by omega), List.getElem?_eq_none (by simp; omega)]
theorem wakes_big : F7 4000 = some true := by kernel_rfl
theorem law31Back (d : List A_a4i8) (c : Int) (hc : 0 ≤ c ∧ c ≤ 65535) : F4 4000 d c = some true := by
  unfold F4
  obtain ⟨l, hl, hg, hl30⟩ := of_good (fuel := 4000) d (by omega)
  have hlen := good_len hg
  have ht := text_len hlen.2 l 0 (good_l hg)
  have hpos : 0 < (textS l).length := by
    obtain ⟨x, m, rfl⟩ : ∃ x m, l = x :: m := by
      cases l with
      | nil => simp at hlen
      | cons x m => exact ⟨x, m, rfl⟩
    simp only [textS, lineS, List.length_append, List.length_cons]; omega
  rw [wakes_big, Option.bind_some, show (!true) = false from rfl, cond_false, hl, Option.bind_some, print_eq hg (by omega), Option.bind_some, parse_back (by omega) hg, Option.bind_some, same_refl (l := l) (by omega) (by omega)]
  have hw : IntKind.i64.wrap c = c := w64 (by omega) (by omega)
  have htm := tm_nn (x := c) hc.1 (m := ((textS l).length : Int)) (by omega)
  obtain ⟨k, hk⟩ : ∃ k : Nat, Int.tmod c ((textS l).length : Int) = (k : Int) := ⟨(Int.tmod c (textS l).length).toNat, by omega⟩
  rw [hk] at htm
  simp only [hw, hk]
  rw [show ((0 : Int) != 0) = false from rfl]
  simp only [cond_false, Option.bind_some, Bool.not_true]
  rw [ass_t (decide_eq_true (by omega)), ass_t (by simp only [Bool.and_eq_true, decide_eq_true_eq]; omega)]
  have e0 : ((textS l).drop (Int.toNat 0)).take (Int.toNat ((k : Int) - 0)) = (textS l).take k := by simp
  rw [e0]
  rcases parse_spec (fuel := 4000) (by omega) ((textS l).take k) (by simp; omega) with h | ⟨m, h1, h2, h3⟩
  · rw [h]; rfl
  · have hm := good_len h2
    have hr : (textS l).drop k ≠ [] := fun e => by
      have := congrArg List.length e
      simp at this; omega
    obtain ⟨p1, p2⟩ := text_pre h2 hg hr (by rw [h3, List.take_append_drop])
    rw [h1, Option.bind_some]
    rw [show ((0 : Int) != 0) = false from rfl]
    simp only [cond_false]
    rw [print_eq h2 (by omega), Option.bind_some, h3, List.length_map, List.length_map]
    simp only [beq_self_eq_true, cond_true]
    rw [decide_eq_true (show (m.length : Int) < (l.length : Int) by omega), cond_true]
    have hs : slc l 0 ((m.length : Nat) : Int) = some m := by
      unfold slc
      rw [decide_eq_true (show (0 : Int) ≤ 0 by omega), decide_eq_true (show (0 : Int) ≤ (m.length : Int) by omega), decide_eq_true (show (m.length : Int) ≤ (l.length : Int) by omega)]
      simp only [Bool.and_self, cond_true]
      rw [show ((m.length : Int) - 0).toNat = m.length by omega, show (0 : Int).toNat = 0 from rfl, List.drop_zero, ← p2]
    rw [hs, Option.bind_some, same_refl (by omega) (by omega)]
    rfl
end Go.Proofs.YtilfjfpemjfalaaDoor
