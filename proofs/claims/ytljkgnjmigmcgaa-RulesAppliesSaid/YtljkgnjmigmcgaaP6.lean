/- Plain law: drafts of tables. -/
import Derived.Test.YtljkgnjmigmcgaaP5
import Derived.Test.YtljkgnjmigmcgaaFTri
namespace Go.Proofs.Ytljkgnjmigmcgaa
open Go Go.RowKit Kx

theorem tmod_in {x m : Int} (h : 0 < m) : -m < Int.tmod x m ∧ Int.tmod x m < m := by
  rcases Int.le_total 0 x with hx | hx
  · have h1 := Int.tmod_lt_of_pos x h
    have h2 := Int.tmod_nonneg m hx
    omega
  · have h1 := Int.tmod_lt_of_pos (-x) h
    have h2 := Int.tmod_nonneg m (show 0 ≤ -x by omega)
    rw [Int.neg_tmod] at h1 h2
    omega
theorem tmod_nn {x m : Int} (hx : 0 ≤ x) (h : 0 < m) : 0 ≤ Int.tmod x m ∧ Int.tmod x m < m := ⟨Int.tmod_nonneg m hx, Int.tmod_lt_of_pos x h⟩
theorem inB_tmod (x : Int) : inB (Int.tmod x 100) = true := by
  have := tmod_in (x := x) (m := 100) (by omega)
  simp [inB]; omega
theorem inB_tmod3 (x : Int) : inB (Int.tmod x 3) = true := by
  have := tmod_in (x := x) (m := 3) (by omega)
  simp [inB]; omega
theorem chB_4 {x : Int} (hx : 0 ≤ x) : chB (IntKind.i64.wrap (Int.tmod x 4)) = true := by
  have := tmod_nn hx (show (0 : Int) < 4 by omega)
  rw [w64 (by omega) (by omega)]
  simp [chB]; omega
theorem chB_2 {x : Int} (hx : 0 ≤ x) : chB (Int.tmod (IntKind.i64.wrap (Int.tmod x 4)) 2) = true := by
  have h1 := tmod_nn hx (show (0 : Int) < 4 by omega)
  rw [w64 (by omega) (by omega)]
  have h2 := tmod_nn h1.1 (show (0 : Int) < 2 by omega)
  unfold chB
  rw [Bool.and_eq_true, decide_eq_true_eq, decide_eq_true_eq]
  omega
def wide (d : T_croupierref30_Draft) : Nat := 1 + (Int.tmod d.Wide 4).toNat
def OkD (d : T_croupierref30_Draft) : Prop := 0 ≤ d.Wide ∧ ∀ x ∈ d.C, 0 ≤ x
theorem wide_eq {d : T_croupierref30_Draft} (h : OkD d) : IntKind.i64.wrap (1 + (IntKind.i64.wrap (Int.tmod d.Wide 4))) = (wide d : Int) ∧ 1 ≤ wide d ∧ wide d ≤ 4 := by
  have := tmod_nn h.1 (show (0 : Int) < 4 by omega)
  rw [w64 (i := Int.tmod d.Wide 4) (by omega) (by omega), w64 (i := 1 + Int.tmod d.Wide 4) (by omega) (by omega)]
  unfold wide
  omega
theorem F12_L2_eq {d : T_croupierref30_Draft} (h : OkD d) {l29 : List Int} {l30 : List (List Int)} {i : Nat} (hi : i < d.Rows.length) (h29 : l29.length < 1000) (h30 : l30.length < 1000) (hi2 : i < 1000) {rc : Int → List Int → List (List Int) → Option (List (List Int) × List Int)} :
    ∀ (k v : Nat) (l : List Int), wide d + 1 ≤ k + v → v ≤ wide d → l.length = v → l.all inB = true → ∃ row x, row.length = wide d ∧ row.all inB = true ∧ chB x = true ∧ F12_L2 d l29 l30 i rc k v l = rc ((i + 1 : Nat) : Int) (l29 ++ [x]) (l30 ++ [row])
  | 0, v, _, h1, h2, _, _ => by omega
  | k + 1, v, l, h1, h2, h3, h4 => by
    obtain ⟨e1, e2, e3⟩ := wide_eq h
    rw [F12_L2, e1]
    by_cases hv : v < wide d
    · rw [show decide ((v : Int) < (wide d : Int)) = true from decide_eq_true (by omega), cond_true, geti_k, List.getElem?_eq_getElem hi, Option.bind_some]
      have hy : ∃ y, geti [d.Rows[i].a0, d.Rows[i].a1, d.Rows[i].a2, d.Rows[i].a3] (v : Int) = some y := by
        rw [geti_k, List.getElem?_eq_getElem (by simp; omega)]; exact ⟨_, rfl⟩
      obtain ⟨y, hy⟩ := hy
      rw [hy, Option.bind_some]
      cases d.Few with
      | true =>
        rw [cond_true, app_1 _ _ (by omega), Option.bind_some, wi v (by omega)]
        exact F12_L2_eq h hi h29 h30 hi2 k (v + 1) _ (by omega) (by omega) (by simp [h3]) (by rw [List.all_append, h4]; simp [inB_tmod3])
      | false =>
        rw [cond_false, app_1 _ _ (by omega), Option.bind_some, wi v (by omega)]
        exact F12_L2_eq h hi h29 h30 hi2 k (v + 1) _ (by omega) (by omega) (by simp [h3]) (by rw [List.all_append, h4]; simp [inB_tmod])
    · rw [show decide ((v : Int) < (wide d : Int)) = false from decide_eq_false (by omega), cond_false, app_1 _ _ (by omega), Option.bind_some, List.length_map]
      by_cases hc : i < d.C.length
      · rw [show decide ((i : Int) < (d.C.length : Int)) = true from decide_eq_true (by omega), cond_true, geti_k, List.getElem?_eq_getElem hc, Option.bind_some]
        have h0 := h.2 _ (List.getElem_mem hc)
        cases d.Few with
        | true =>
          rw [cond_true, app_1 _ _ (by omega), Option.bind_some, wi i (by omega)]
          exact ⟨l, _, by omega, h4, chB_2 h0, rfl⟩
        | false =>
          rw [cond_false, app_1 _ _ (by omega), Option.bind_some, wi i (by omega)]
          exact ⟨l, _, by omega, h4, chB_4 h0, rfl⟩
      · rw [show decide ((i : Int) < (d.C.length : Int)) = false from decide_eq_false (by omega), cond_false]
        cases d.Few with
        | true =>
          rw [cond_true, app_1 _ _ (by omega), Option.bind_some, wi i (by omega)]
          exact ⟨l, _, by omega, h4, rfl, rfl⟩
        | false =>
          rw [cond_false, app_1 _ _ (by omega), Option.bind_some, wi i (by omega)]
          exact ⟨l, _, by omega, h4, rfl, rfl⟩
theorem mem_all {l : List Int} (h : l.all inB = true) : ∀ x ∈ l, -99 ≤ x ∧ x ≤ 99 := fun x hx => by
  have := List.all_eq_true.1 h x hx
  simpa [inB] using this
theorem F12_L1_eq {d : T_croupierref30_Draft} (h : OkD d) {fuel : Nat} (hf : 10 ≤ fuel) : ∀ (k i : Nat) (l29 : List Int) (l30 : List (List Int)), 7 ≤ k + i → i ≤ 6 → l29.length = i → l30.length = i → (∀ row ∈ l30, row.length = wide d ∧ row.all inB = true) → (∀ x ∈ l29, chB x = true) → ∃ t c, F12_L1 fuel d k i l29 l30 = some (t, c) ∧ Tab t c (wide d) ∧ t.length ≤ 6
  | 0, i, _, _, h1, h2, _, _, _, _ => by omega
  | k + 1, i, l29, l30, h1, h2, h3, h4, h5, h6 => by
    obtain ⟨e1, e2, e3⟩ := wide_eq h
    rw [F12_L1, List.length_map, List.length_map]
    have hdone : ∃ t c, (bif (l30.length : Int) == 0 then Option.bind (mkL (IntKind.i64.wrap (1 + (IntKind.i64.wrap (Int.tmod d.Wide 4)))) (IntKind.i64.wrap (1 + (IntKind.i64.wrap (Int.tmod d.Wide 4)))) 0) fun l44 => some ([l44], [1]) else some (l30, l29)) = some (t, c) ∧ Tab t c (wide d) ∧ t.length ≤ 6 := by
      by_cases h0 : l30.length = 0
      · have : ((l30.length : Int) == 0) = true := by rw [h0]; rfl
        rw [this, cond_true, e1]
        have hm : mkL (wide d : Int) (wide d : Int) (0 : Int) = some (List.replicate (wide d) 0) := by
          unfold mkL
          rw [show (decide ((0 : Int) ≤ (wide d : Int)) && decide ((wide d : Int) ≤ (wide d : Int)) && decide ((wide d : Int) ≤ 2147483648)) = true by simp; omega]
          simp
        rw [hm]
        refine ⟨_, _, rfl, ⟨rfl, by simp, by simp, by simp, e2, e3, ?_, by simp⟩, by simp⟩
        intro row hr x hx
        simp at hr; subst hr
        have := List.eq_of_mem_replicate hx
        omega
      · have : ((l30.length : Int) == 0) = false := by rw [beq_eq_false_iff_ne]; omega
        rw [this, cond_false]
        exact ⟨_, _, rfl, ⟨by omega, by omega, by omega, fun row hr => (h5 row hr).1, e2, e3, fun row hr => mem_all (h5 row hr).2, fun x hx => by have := h6 x hx; simpa [chB] using this⟩, by omega⟩
    by_cases hi : i < d.Rows.length
    · rw [show decide ((i : Int) < (d.Rows.length : Int)) = true from decide_eq_true (by omega), cond_true, Option.bind_some]
      by_cases h6' : i < 6
      · rw [show decide ((i : Int) < 6) = true from decide_eq_true (by omega), cond_true]
        obtain ⟨row, x, a1, a2, a3, a4⟩ := F12_L2_eq h (l29 := l29) (l30 := l30) hi (by omega) (by omega) (by omega) (rc := F12_L1 fuel d k) fuel 0 [] (by omega) (by omega) rfl rfl
        have a4' : F12_L2 d l29 l30 (i : Int) (F12_L1 fuel d k) fuel 0 [] = _ := a4
        rw [a4']
        refine F12_L1_eq h hf k (i + 1) _ _ (by omega) (by omega) (by simp [h3]) (by simp [h4]) (fun r hr => ?_) (fun y hy => ?_)
        · rcases List.mem_append.1 hr with hr | hr
          · exact h5 r hr
          · simp at hr; subst hr; exact ⟨a1, a2⟩
        · rcases List.mem_append.1 hy with hy | hy
          · exact h6 y hy
          · simp at hy; subst hy; exact a3
      · rw [show decide ((i : Int) < 6) = false from decide_eq_false (by omega), cond_false]
        exact hdone
    · rw [show decide ((i : Int) < (d.Rows.length : Int)) = false from decide_eq_false (by omega), cond_false, Option.bind_some, cond_false]
      exact hdone
theorem F12_eq {d : T_croupierref30_Draft} (h : OkD d) {fuel : Nat} (hf : 10 ≤ fuel) : ∃ t c, F12 fuel d = some (t, c) ∧ Tab t c (wide d) ∧ t.length ≤ 6 :=
  F12_L1_eq h hf fuel 0 [] [] (by omega) (by omega) rfl rfl (by simp) (by simp)

/-! ### RulesTrivial -/
theorem F8_L2_eq {fuel : Nat} {d1 : Int} {y2 : List (List Int) × List Int} (hlt : y2.1.length < 1000) : ∀ (k i : Nat) (l : List Int), y2.1.length + 1 ≤ k + i → i ≤ y2.1.length → l = List.replicate i (IntKind.i64.wrap (Int.tmod d1 4)) → F8_L2 fuel d1 y2 k i l = Option.bind (F19 fuel y2.1 (List.replicate y2.1.length (IntKind.i64.wrap (Int.tmod d1 4)))) fun y15 =>
      Option.bind (
        bif y15.2 == 0 then
          (bif ((y15.1.List.map e_T_api_Rule).length : Int) == 0 then
            (some (y15.1.Else == (IntKind.i64.wrap (Int.tmod d1 4))))
          else
            (some false))
        else
          (some false)) fun o4 =>
      some o4
  | 0, i, _, h, h', _ => by omega
  | k + 1, i, l, h, h', hl => by
    rw [F8_L2, List.length_map]
    by_cases hi : i < y2.1.length
    · rw [show decide ((i : Int) < (y2.1.length : Int)) = true from decide_eq_true (by omega), cond_true, app_1 _ _ (by rw [hl]; simp; omega), Option.bind_some, wi i (by omega)]
      exact F8_L2_eq hlt k (i + 1) _ (by omega) (by omega) (by rw [hl, List.replicate_succ'])
    · rw [show decide ((i : Int) < (y2.1.length : Int)) = false from decide_eq_false (by omega), cond_false]
      have : i = y2.1.length := by omega
      subst this
      rw [hl]
def sameL (c0 : Int) (l : List Int) : Bool := l.all (fun x => x == c0)
theorem F8_L1_eq {fuel : Nat} {d1 : Int} {y2 : List (List Int) × List Int} {c0 : Int} (hlt : y2.2.length < 1000) (h0 : y2.2[0]? = some c0) : ∀ (k i : Nat) (b : Bool), y2.2.length + 1 ≤ k + i → i ≤ y2.2.length → F8_L1 fuel d1 y2 k b i = Option.bind (F19 fuel y2.1 y2.2) fun y14 =>
      Option.bind (
        bif y14.2 == 0 then
          (some (!((((y14.1.List.map e_T_api_Rule).length : Int) == 0) == (b && sameL c0 (y2.2.drop i)))))
        else
          (some (!(false == (b && sameL c0 (y2.2.drop i)))))) fun o3 =>
      bif o3 then
        (some false)
      else
        (F8_L2 fuel d1 y2 fuel 0 [])
  | 0, i, _, h, h' => by omega
  | k + 1, i, b, h, h' => by
    rw [F8_L1, List.length_map]
    by_cases hi : i < y2.2.length
    · have hd : y2.2.drop i = y2.2[i] :: y2.2.drop (i + 1) := List.drop_eq_getElem_cons hi
      rw [show decide ((i : Int) < (y2.2.length : Int)) = true from decide_eq_true (by omega), cond_true, geti_k, List.getElem?_eq_getElem hi, Option.bind_some, geti_0, h0, wi i (by omega)]
      have ih := F8_L1_eq (fuel := fuel) (d1 := d1) hlt h0 k (i + 1)
      rw [hd]
      unfold sameL
      rw [List.all_cons]
      cases b with
      | true =>
        rw [cond_true, Option.bind_some, Option.bind_some, ih _ (by omega) (by omega)]
        simp only [Bool.true_and]
        rfl
      | false =>
        rw [cond_false, Option.bind_some, ih _ (by omega) (by omega)]
        simp only [Bool.false_and]
    · rw [show decide ((i : Int) < (y2.2.length : Int)) = false from decide_eq_false (by omega), cond_false, List.drop_eq_nil_of_le (by omega)]
      simp [sameL]
theorem F11_true : F11 10000 = some true := by kernel_rfl
theorem F8_true {d0 : T_croupierref30_Draft} {d1 : Int} (h : OkD d0) (h1 : 0 ≤ d1) : F8 10000 d0 d1 = some true := by
  unfold F8
  rw [F11_true, Option.bind_some, Bool.not_true, cond_false]
  obtain ⟨t, c, e1, ht, h6⟩ := F12_eq h (fuel := 10000) (by omega)
  have hlen := ht.len
  have hc0 : 0 < c.length := by have := ht.n1; omega
  rw [e1, Option.bind_some]
  have := F8_L1_eq (fuel := 10000) (d1 := d1) (y2 := (t, c)) (c0 := c[0]) (by show c.length < 1000; have := ht.n12; omega) (List.getElem?_eq_getElem hc0) 10000 0 true (by show c.length + 1 ≤ 10000 + 0; have := ht.n12; omega) (by omega)
  have this' : F8_L1 10000 d1 (t, c) 10000 true 0 = _ := this
  rw [this']
  obtain ⟨r, e2, h2⟩ := F19_spec ht (fuel := 10000) (by omega)
  show Option.bind (F19 10000 t c) _ = _
  rw [e2, Option.bind_some, List.drop_zero, Bool.true_and]
  have hsame : sameL c[0] c = true ↔ ∃ e, RightL t c (wide d0) [] e := by
    constructor
    · intro hs
      refine ⟨c[0], fun r hr => (by cases hr), fun i row x _ hx => ?_⟩
      have := List.all_eq_true.1 hs x (List.mem_of_getElem? hx)
      simp at this
      exact this.symm
    · rintro ⟨e, _, hr⟩
      have key : ∀ (i : Nat) x, c[i]? = some x → x = e := fun i x hx => by
        have hi : i < t.length := by have := (List.getElem?_eq_some_iff.1 hx).1; omega
        exact (hr i t[i] x (List.getElem?_eq_getElem hi) hx).symm
      refine List.all_eq_true.2 fun x hx => ?_
      obtain ⟨i, hi⟩ := List.mem_iff_getElem?.1 hx
      rw [key i x hi, key 0 c[0] (List.getElem?_eq_getElem hc0)]
      simp
  have hno : (bif r.2 == 0 then (some (!((((r.1.List.map e_T_api_Rule).length : Int) == 0) == sameL c[0] c)) : Option Bool) else some (!(false == sameL c[0] c))) = some false := by
    rcases h2 with ⟨s, a1, a2, a3, _, _, _, a4⟩ | ⟨rfl, a1⟩
    · rw [a1, show ((0 : Int) == 0) = true from rfl, cond_true, List.length_map]
      have : (((r.1.List.length : Int) == 0)) = sameL c[0] c := by
        rw [Bool.eq_iff_iff, hsame]
        constructor
        · intro h0
          have h0 : r.1.List.length = 0 := by have := eq_of_beq h0; omega
          have := List.eq_nil_of_length_eq_zero h0
          rw [this] at a2
          exact ⟨_, a2⟩
        · rintro ⟨e, he⟩
          have := a4 [] e he
          simp at this
          simp [this]
      rw [this]; simp
    · rw [show ((4 : Int) == 0) = false from rfl, cond_false]
      have : sameL c[0] c = false := by
        cases hs : sameL c[0] c with
        | false => rfl
        | true => obtain ⟨e, he⟩ := hsame.1 hs; exact absurd he (a1 [] e)
      rw [this]; rfl
  rw [hno, Option.bind_some, cond_false]
  have hl2 := F8_L2_eq (fuel := 10000) (d1 := d1) (y2 := (t, c)) (by show t.length < 1000; have := ht.n12; omega) 10000 0 [] (by show t.length + 1 ≤ 10000 + 0; have := ht.n12; omega) (by omega) rfl
  have hl2' : F8_L2 10000 d1 (t, c) 10000 0 [] = _ := hl2
  rw [hl2']
  have hcw := chB_4 h1
  have ht2 : Tab t (List.replicate t.length (IntKind.i64.wrap (Int.tmod d1 4))) (wide d0) := ⟨by simp, ht.n1, ht.n12, ht.row, ht.w1, ht.w4, ht.vals, fun x hx => by rw [List.eq_of_mem_replicate hx]; simpa [chB] using hcw⟩
  have hr2 : RightL t (List.replicate t.length (IntKind.i64.wrap (Int.tmod d1 4))) (wide d0) [] (IntKind.i64.wrap (Int.tmod d1 4)) := ⟨fun r hr => (by cases hr), fun i row x _ hx => (List.eq_of_mem_replicate (List.mem_of_getElem? hx)).symm⟩
  obtain ⟨r2, e3, h3⟩ := F19_spec ht2 (fuel := 10000) (by omega)
  show Option.bind (F19 10000 t (List.replicate t.length (IntKind.i64.wrap (Int.tmod d1 4)))) _ = _
  rw [e3, Option.bind_some]
  rcases h3 with ⟨s, a1, a2, a3, _, _, _, a4⟩ | ⟨_, a1⟩
  · have h0 : r2.1.List = [] := List.eq_nil_of_length_eq_zero (by have := a4 [] _ hr2; simpa using this)
    rw [a1, show ((0 : Int) == 0) = true from rfl, cond_true, h0]
    have hn := ht.n1
    have := a2.2 0 t[0] (IntKind.i64.wrap (Int.tmod d1 4)) (List.getElem?_eq_getElem (by omega)) (by rw [List.getElem?_replicate, if_pos (show 0 < t.length from hn)])
    rw [h0] at this
    have h7 : r2.1.Else = IntKind.i64.wrap (Int.tmod d1 4) := this
    rw [h7]
    simp
  · exact absurd hr2 (a1 _ _)
end Go.Proofs.Ytljkgnjmigmcgaa
