/- Plain law: equal rows; the order of the rows. -/
import Derived.Test.YtljkgnjmigmcgaaP6
import Derived.Test.YtljkgnjmigmcgaaFOrd
namespace Go.Proofs.Ytljkgnjmigmcgaa
open Go Go.RowKit Kx

theorem rightL_iff {t : List (List Int)} {c : List Int} {w : Nat} {L : List T_api_Rule} {e : Int} : RightL t c w L e ↔ (∀ r ∈ L, Fair w r) ∧ ∀ p ∈ t.zip c, choice L e p.1 = p.2 := by
  constructor
  · rintro ⟨h1, h2⟩
    refine ⟨h1, fun p hp => ?_⟩
    obtain ⟨i, hi⟩ := List.mem_iff_getElem?.1 hp
    rw [List.getElem?_zip_eq_some] at hi
    exact h2 i p.1 p.2 hi.1 hi.2
  · rintro ⟨h1, h2⟩
    refine ⟨h1, fun i row x hr hx => ?_⟩
    exact h2 (row, x) (List.mem_iff_getElem?.2 ⟨i, by rw [List.getElem?_zip_eq_some]; exact ⟨hr, hx⟩⟩)
/-- What Shortest says, for short. -/
def Said (t : List (List Int)) (c : List Int) (w : Nat) (r : T_api_Rules × Int) : Prop :=
  (r.2 = 0 ∧ RightL t c w r.1.List r.1.Else ∧ ∀ L e, RightL t c w L e → r.1.List.length ≤ L.length) ∨ (r.2 = 4 ∧ r.1 = ⟨[], 0⟩ ∧ ∀ L e, ¬ RightL t c w L e)
theorem F19_said {t : List (List Int)} {c : List Int} {w : Nat} (h : Tab t c w) : ∃ r, F19 10000 t c = some r ∧ Said t c w r := by
  obtain ⟨r, h1, h2⟩ := F19_spec h (fuel := 10000) (by omega)
  refine ⟨r, h1, ?_⟩
  rcases h2 with ⟨s, a1, a2, _, _, _, _, a3⟩ | ⟨rfl, a1⟩
  · exact .inl ⟨a1, a2, a3⟩
  · exact .inr ⟨rfl, rfl, a1⟩
section
variable {t t' : List (List Int)} {c c' : List Int} {w : Nat} {r r' : T_api_Rules × Int}
theorem Said.sub (h : Said t c w r) (h' : Said t' c' w r') (hs : ∀ L e, RightL t c w L e → RightL t' c' w L e) (h0 : r.2 = 0) : r'.2 = 0 ∧ r'.1.List.length ≤ r.1.List.length := by
  rcases h with ⟨_, a1, a2⟩ | ⟨e4, _⟩
  · rcases h' with ⟨b0, b1, b2⟩ | ⟨_, _, b1⟩
    · exact ⟨b0, b2 _ _ (hs _ _ a1)⟩
    · exact absurd (hs _ _ a1) (b1 _ _)
  · rw [e4] at h0; cases h0
theorem Said.same (h : Said t c w r) (h' : Said t' c' w r') (hs : ∀ L e, RightL t c w L e ↔ RightL t' c' w L e) : r.2 = r'.2 ∧ r.1.List.length = r'.1.List.length := by
  rcases h with ⟨a0, a1, a2⟩ | ⟨a0, a1, a2⟩
  · obtain ⟨b0, b1⟩ := Said.sub (.inl ⟨a0, a1, a2⟩) h' (fun L e => (hs L e).1) a0
    obtain ⟨_, b2⟩ := Said.sub h' (.inl ⟨a0, a1, a2⟩) (fun L e => (hs L e).2) b0
    exact ⟨by rw [a0, b0], by omega⟩
  · rcases h' with ⟨b0, b1, b2⟩ | ⟨b0, b1, _⟩
    · exact absurd ((hs _ _).2 b1) (a2 _ _)
    · exact ⟨by rw [a0, b0], by rw [a1, b1]⟩
end
theorem idx {d1 : Int} (h0 : 0 ≤ d1) (h1 : d1 ≤ 255) {n : Nat} (hn : 1 ≤ n) : ∃ k : Nat, k < n ∧ Int.tmod (IntKind.i64.wrap d1) (n : Int) = (k : Int) := by
  rw [w64 (i := d1) (by omega) (by omega)]
  have := tmod_nn h0 (show (0 : Int) < n by omega)
  exact ⟨(Int.tmod d1 n).toNat, by omega, by omega⟩
theorem app_nil {α : Type} (l : List α) (h : l.length < 2147483648) : app [] l = some l := by
  unfold app
  rw [show decide (([] : List α).length + l.length ≤ 2147483648) = true from decide_eq_true (by simp; omega)]
  rfl
theorem app_two {α : Type} (l m : List α) (h : l.length + m.length < 2147483648) : app l m = some (l ++ m) := by
  unfold app
  rw [show decide (l.length + m.length ≤ 2147483648) = true from decide_eq_true (by omega)]
  rfl

theorem dz {α β : Type} : ∀ (k : Nat) (l : List α) (m : List β), (l.zip m).drop k = (l.drop k).zip (m.drop k)
  | 0, _, _ => rfl
  | k + 1, [], m => by simp
  | k + 1, a :: l, [] => by simp
  | k + 1, a :: l, b :: m => by simpa using dz k l m
theorem tz {α β : Type} : ∀ (k : Nat) (l : List α) (m : List β), (l.zip m).take k = (l.take k).zip (m.take k)
  | 0, _, _ => rfl
  | k + 1, [], m => by simp
  | k + 1, a :: l, [] => by simp
  | k + 1, a :: l, b :: m => by simpa using tz k l m

/-! ### RulesCopies -/
theorem Tab.more {t : List (List Int)} {c : List Int} {w : Nat} (h : Tab t c w) (h6 : t.length ≤ 6) {row : List Int} {x : Int} (hr : row ∈ t) (hx : 0 ≤ x ∧ x ≤ 3) : Tab (t ++ [row]) (c ++ [x]) w := by
  refine ⟨by simp [h.len], by simp, by simp; omega, fun r hr' => ?_, h.w1, h.w4, fun r hr' => ?_, fun y hy => ?_⟩
  · rcases List.mem_append.1 hr' with h1 | h1
    · exact h.row r h1
    · simp at h1; subst h1; exact h.row _ hr
  · rcases List.mem_append.1 hr' with h1 | h1
    · exact h.vals r h1
    · simp at h1; subst h1; exact h.vals _ hr
  · rcases List.mem_append.1 hy with h1 | h1
    · exact h.chs y h1
    · simp at h1; subst h1; exact hx
theorem F7_true {d0 : T_croupierref30_Draft} {d1 : Int} (h : OkD d0) (h1 : 0 ≤ d1) (h2 : d1 ≤ 255) : F7 10000 d0 d1 = some true := by
  unfold F7
  rw [F11_true, Option.bind_some, Bool.not_true, cond_false]
  obtain ⟨t, c, e1, ht, h6⟩ := F12_eq h (fuel := 10000) (by omega)
  have hn := ht.n1
  have hlen := ht.len
  obtain ⟨k, hk, ek⟩ := idx h1 h2 hn
  have g1 : geti t (k : Int) = some t[k] := by rw [geti_k]; exact List.getElem?_eq_getElem hk
  have g2 : geti c (k : Int) = some c[k] := by rw [geti_k]; exact List.getElem?_eq_getElem (by omega)
  obtain ⟨r1, f1, s1⟩ := F19_said ht
  have hck := ht.chs _ (List.getElem_mem (show k < c.length by omega))
  have ht2 := ht.more h6 (List.getElem_mem hk) hck
  obtain ⟨r2, f2, s2⟩ := F19_said ht2
  have hx : 0 ≤ Int.tmod (IntKind.i64.wrap (c[k] + 1)) 4 ∧ Int.tmod (IntKind.i64.wrap (c[k] + 1)) 4 ≤ 3 := by
    rw [w64 (i := c[k] + 1) (by omega) (by omega)]
    have := tmod_nn (x := c[k] + 1) (by omega) (show (0 : Int) < 4 by omega)
    omega
  have hxne : Int.tmod (IntKind.i64.wrap (c[k] + 1)) 4 ≠ c[k] := by
    rw [w64 (i := c[k] + 1) (by omega) (by omega)]
    rcases (show c[k] = 0 ∨ c[k] = 1 ∨ c[k] = 2 ∨ c[k] = 3 by omega) with e | e | e | e <;> rw [e] <;> decide
  have ht3 := ht.more h6 (List.getElem_mem hk) hx
  obtain ⟨r3, f3, s3⟩ := F19_said ht3
  rw [e1, Option.bind_some]
  show ass (decide (((t.map e_li64).length : Int) ≠ 0)) _ = _
  rw [ass_t (decide_eq_true (by rw [List.length_map]; omega)), List.length_map]
  show Option.bind (F19 10000 t c) _ = _
  have A0 := app_nil t (by omega)
  have A0' := app_nil c (by omega)
  have A1 := app_1 t t[k] (by omega)
  have A2 := app_1 c c[k] (by omega)
  have A3 := app_1 c (Int.tmod (IntKind.i64.wrap (c[k] + 1)) 4) (by omega)
  simp only [ek, g1, g2, f1, f2, f3, A0, A0', A1, A2, A3, Option.bind_some]
  have hz : ∀ x : Int, (t ++ [t[k]]).zip (c ++ [x]) = t.zip c ++ [(t[k], x)] := fun x => by rw [List.zip_append hlen]; rfl
  have hm : (t[k], c[k]) ∈ t.zip c := List.mem_iff_getElem?.2 ⟨k, by rw [List.getElem?_zip_eq_some]; exact ⟨List.getElem?_eq_getElem hk, List.getElem?_eq_getElem (by omega)⟩⟩
  obtain ⟨q1, q2⟩ := s1.same s2 (fun L e => by
    rw [rightL_iff, rightL_iff, hz]
    constructor
    · rintro ⟨a, b⟩
      refine ⟨a, fun p hp => ?_⟩
      rcases List.mem_append.1 hp with hp | hp
      · exact b p hp
      · simp at hp; subst hp; exact b _ hm
    · rintro ⟨a, b⟩
      exact ⟨a, fun p hp => b p (List.mem_append_left _ hp)⟩)
  have q3 : r3.2 = 4 := by
    rcases s3 with ⟨_, a, _⟩ | ⟨a, _⟩
    · exfalso
      rw [rightL_iff, hz] at a
      have b1 := a.2 _ (List.mem_append_left _ hm)
      have b2 := a.2 (t[k], _) (List.mem_append_right _ List.mem_cons_self)
      exact hxne (b2.symm.trans b1)
    · exact a
  rw [q1, q3, List.length_map, List.length_map, q2]
  simp

/-! ### RulesOrder -/
theorem slc_eq {α : Type} (l : List α) (a b : Nat) (h1 : a ≤ b) (h2 : b ≤ l.length) : slc l (a : Int) (b : Int) = some ((l.drop a).take (b - a)) := by
  unfold slc
  rw [show (decide (0 ≤ (a : Int)) && decide ((a : Int) ≤ (b : Int)) && decide ((b : Int) ≤ (l.length : Int))) = true by simp; omega]
  rw [cond_true, Int.toNat_natCast, show ((b : Int) - (a : Int)).toNat = b - a by omega]
theorem slc_from {α : Type} (l : List α) (a : Nat) (h1 : a ≤ l.length) : slc l (a : Int) (l.length : Int) = some (l.drop a) := by
  rw [slc_eq l a l.length h1 (Nat.le_refl _), List.take_of_length_le (by simp)]
theorem slc_to {α : Type} (l : List α) (b : Nat) (h1 : b ≤ l.length) : slc l 0 (b : Int) = some (l.take b) := by
  have := slc_eq l 0 b (Nat.zero_le _) h1
  simpa using this
theorem Tab.part {t t' : List (List Int)} {c c' : List Int} {w : Nat} (h : Tab t c w) (h1 : ∀ r ∈ t', r ∈ t) (h2 : ∀ x ∈ c', x ∈ c) (hl : t'.length = c'.length) (hn : 1 ≤ t'.length) (hn2 : t'.length ≤ 12) : Tab t' c' w :=
  ⟨hl, hn, hn2, fun r hr => h.row r (h1 r hr), h.w1, h.w4, fun r hr => h.vals r (h1 r hr), fun x hx => h.chs x (h2 x hx)⟩
theorem F6_true {d0 : T_croupierref30_Draft} {d1 : Int} (h : OkD d0) (h1 : 0 ≤ d1) (h2 : d1 ≤ 255) : F6 10000 d0 d1 = some true := by
  unfold F6
  rw [F11_true, Option.bind_some, Bool.not_true, cond_false]
  obtain ⟨t, c, e1, ht, h6⟩ := F12_eq h (fuel := 10000) (by omega)
  have hn := ht.n1
  have hlen := ht.len
  obtain ⟨k, hk, ek⟩ := idx h1 h2 hn
  obtain ⟨r1, f1, s1⟩ := F19_said ht
  have hzip : (t.drop k ++ t.take k).zip (c.drop k ++ c.take k) = (t.zip c).drop k ++ (t.zip c).take k := by
    rw [List.zip_append (by simp [hlen]), dz, tz]
  have ht2 : Tab (t.drop k ++ t.take k) (c.drop k ++ c.take k) (wide d0) := ht.part (fun r hr => (List.mem_append.1 hr).elim List.mem_of_mem_drop List.mem_of_mem_take) (fun r hr => (List.mem_append.1 hr).elim List.mem_of_mem_drop List.mem_of_mem_take) (by simp [hlen]) (by simp; omega) (by simp; omega)
  obtain ⟨r2, f2, s2⟩ := F19_said ht2
  have hmem : ∀ p, p ∈ (t.zip c).drop k ++ (t.zip c).take k ↔ p ∈ t.zip c := fun p => by
    rw [List.mem_append]
    constructor
    · exact fun hp => hp.elim List.mem_of_mem_drop List.mem_of_mem_take
    · intro hp
      rw [← List.take_append_drop k (t.zip c), List.mem_append] at hp
      exact hp.symm
  obtain ⟨q1, q2⟩ := s1.same s2 (fun L e => by
    rw [rightL_iff, rightL_iff, hzip]
    constructor
    · rintro ⟨a, b⟩
      exact ⟨a, fun p hp => b p ((hmem p).1 hp)⟩
    · rintro ⟨a, b⟩
      exact ⟨a, fun p hp => b p ((hmem p).2 hp)⟩)
  have S1 := slc_from t k (by omega)
  have S2 := slc_to t k (by omega)
  have S3 := slc_from c k (by omega)
  have S4 := slc_to c k (by omega)
  have B1 := app_nil (t.drop k) (by simp; omega)
  have B2 := app_two (t.drop k) (t.take k) (by simp; omega)
  have B3 := app_nil (c.drop k) (by simp; omega)
  have B4 := app_two (c.drop k) (c.take k) (by simp; omega)
  rw [e1, Option.bind_some]
  simp only [f1, Option.bind_some]
  rw [ass_t (decide_eq_true (by rw [List.length_map]; omega)), List.length_map, ek]
  simp only [S1, S2, S3, S4, B1, B2, B3, B4, f2, Option.bind_some]
  have hne : (r1.2 != r2.2) = false := by rw [q1]; simp
  rw [hne, cond_false, Option.bind_some, List.length_map, List.length_map, q2]
  have hne2 : ((r2.1.List.length : Int) != (r2.1.List.length : Int)) = false := by simp
  rw [hne2, cond_false]
  by_cases hone : ((t.length : Int) == 1) = true ∨ r1.2 ≠ 0
  · have ho : (bif (t.length : Int) == 1 then some true else some (r1.2 != 0)) = some true := by
      rcases hone with h0 | h0
      · rw [h0]; rfl
      · cases ((t.length : Int) == 1) with
        | true => rfl
        | false => rw [cond_false, show (r1.2 != 0) = true from by rw [bne_iff_ne]; exact h0]
    rw [ho, Option.bind_some, cond_true]
    rcases s1 with ⟨a, _⟩ | ⟨a, _⟩ <;> rw [a] <;> rfl
  · have hn1 : ((t.length : Int) == 1) = false := by
      cases hb : ((t.length : Int) == 1) with
      | false => rfl
      | true => exact absurd (.inl hb) hone
    have h0 : r1.2 = 0 := by
      cases hd : decide (r1.2 = 0) with
      | true => exact of_decide_eq_true hd
      | false => exact absurd (.inr (of_decide_eq_false hd)) hone
    have hn2 : t.length ≠ 1 := fun e => by rw [e] at hn1; exact absurd hn1 (by decide)
    rw [hn1, cond_false, Option.bind_some, h0, show ((0 : Int) != 0) = false from rfl, cond_false]
    have hw1 : IntKind.i64.wrap ((k : Int) + 1) = ((k + 1 : Nat) : Int) := wi k (by omega)
    have ht3 : Tab (t.take k ++ t.drop (k + 1)) (c.take k ++ c.drop (k + 1)) (wide d0) := ht.part (fun r hr => (List.mem_append.1 hr).elim List.mem_of_mem_take List.mem_of_mem_drop) (fun r hr => (List.mem_append.1 hr).elim List.mem_of_mem_take List.mem_of_mem_drop) (by simp [hlen]) (by simp; omega) (by simp; omega)
    obtain ⟨r3, f3, s3⟩ := F19_said ht3
    have hz3 : (t.take k ++ t.drop (k + 1)).zip (c.take k ++ c.drop (k + 1)) = (t.zip c).take k ++ (t.zip c).drop (k + 1) := by
      rw [List.zip_append (by simp [hlen]), dz, tz]
    obtain ⟨p1, p2⟩ := s1.sub s3 (fun L e => by
      rw [rightL_iff, rightL_iff, hz3]
      rintro ⟨a, b⟩
      exact ⟨a, fun p hp => b p ((List.mem_append.1 hp).elim List.mem_of_mem_take List.mem_of_mem_drop)⟩) h0
    have S5 := slc_from t (k + 1) (by omega)
    have S6 := slc_from c (k + 1) (by omega)
    have B5 := app_nil (t.take k) (by simp; omega)
    have B6 := app_two (t.take k) (t.drop (k + 1)) (by simp; omega)
    have B7 := app_nil (c.take k) (by simp; omega)
    have B8 := app_two (c.take k) (c.drop (k + 1)) (by simp; omega)
    rw [hw1]
    simp only [B5, S5, S6, B6, B7, B8, f3, p1, Option.bind_some]
    rw [show ((0 : Int) == 0) = true from rfl, cond_true, List.length_map]
    rw [show decide ((r3.1.List.length : Int) ≤ (r2.1.List.length : Int)) = true from decide_eq_true (by omega)]
    rfl
end Go.Proofs.Ytljkgnjmigmcgaa
