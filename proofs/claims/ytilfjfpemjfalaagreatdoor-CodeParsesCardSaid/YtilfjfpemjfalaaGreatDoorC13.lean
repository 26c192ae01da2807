/- Plain law of chapter 31: CodeParses: words and numbers of the reference, its Parse, the law. -/
import Derived.Test.YtilfjfpemjfalaaGreatDoorC8
import Derived.Test.YtilfjfpemjfalaaGreatDoorFPa
import Derived.Test.YtilfjfpemjfalaaGreatDoorC6
namespace Go.Proofs.YtilfjfpemjfalaaGreatDoor
open Go Go.RowKit Kx
set_option maxRecDepth 100000

/-! ### Words -/
theorem u8_eq (u : UInt8) (n : Nat) (h : n < 256) : (((u.toNat : Int)) == (n : Int)) = (u == UInt8.ofNat n) := by
  by_cases e : u = UInt8.ofNat n
  · subst e
    have : (UInt8.ofNat n).toNat = n := by simp [Nat.mod_eq_of_lt h]
    rw [this]; simp
  · rw [beq_false_of_ne e]
    refine beq_false_of_ne fun h1 => e ?_
    have h2 : u.toNat = n := by omega
    rw [← h2]; simp
def consH (x : List UInt8) : List (List UInt8) → List (List UInt8)
  | [] => [x]
  | w :: ws => (x ++ w) :: ws
theorem words_L {d : List UInt8} (hd : d.length ≤ 2000000) : ∀ (k i : Nat) (x : List UInt8) (acc : List (List UInt8)), d.length + 1 ≤ k + i → i ≤ d.length → x.length ≤ i → acc.length ≤ i → F80_L1 d k x i acc = some (acc ++ consH x (split1 32 (d.drop i)))
  | 0, i, x, acc, h, h', _, _ => by omega
  | k + 1, i, x, acc, h, h', hx, ha => by
    rw [F80_L1]
    by_cases hi : i < d.length
    · have hg : geti d (i : Int) = some d[i] := by rw [geti_k]; exact List.getElem?_eq_getElem hi
      have hdr : d.drop i = d[i] :: d.drop (i + 1) := List.drop_eq_getElem_cons hi
      obtain ⟨w, ws, e1, _, _⟩ := join_split (d.drop (i + 1))
      have e32 := u8_eq d[i] 32 (by omega)
      rw [show ((32 : Nat) : Int) = 32 from rfl, show UInt8.ofNat 32 = 32 from rfl] at e32
      rw [decide_eq_true (show (i : Int) < (d.length : Int) by omega), cond_true, hg, Option.bind_some, e32, hdr, split1]
      unfold F80_A2
      cases hb : d[i] == 32 with
      | true =>
        rw [cond_true, app_n _ _ (by simp; omega), Option.bind_some, wi i (by omega), words_L hd k (i + 1) [] (acc ++ [x]) (by omega) (by omega) (by simp) (by simp; omega), e1]
        simp [consH]
      | false =>
        have e2 : (((d[i] :: d.drop (i + 1))).take (Int.toNat (IntKind.i64.wrap ((i : Int) + 1) - (i : Int)))) = [d[i]] := by
          rw [wi i (by omega), show (((i + 1 : Nat) : Int) - (i : Int)).toNat = 1 by omega]; rfl
        rw [cond_false, Int.toNat_natCast, hdr, e2, ass_t (by rw [wi i (by omega)]; simp only [Bool.and_eq_true, decide_eq_true_eq]; omega), ass_t (decide_eq_true (by simp; omega)), wi i (by omega), words_L hd k (i + 1) (x ++ [d[i]]) acc (by omega) (by omega) (by simp; omega) (by omega), e1]
        simp [consH]
    · have : i = d.length := by omega
      subst this
      rw [decide_eq_false (show ¬ (d.length : Int) < (d.length : Int) by omega), cond_false, app_n _ _ (by simp; omega), Option.bind_some, List.drop_length]
      simp [split1, consH]
theorem words_eq {fuel : Nat} {d : List UInt8} (hd : d.length ≤ 2000000) (hf : d.length + 1 ≤ fuel) : F80 fuel d = some (split1 32 d) := by
  obtain ⟨w, ws, e1, _, _⟩ := join_split d
  unfold F80
  have := words_L hd fuel 0 [] [] (by omega) (by omega) (by simp) (by simp)
  rw [List.drop_zero] at this
  refine Eq.trans this ?_
  rw [e1]; simp [consH]
/-! ### Right, Int -/
theorem right_L2 {d : List UInt8} (hd : d.length ≤ 2000000) : ∀ (k i : Nat), d.length + 1 ≤ k + i → i ≤ d.length → ∃ b, F81_L2 d k i = some b
  | 0, i, h, h' => by omega
  | k + 1, i, h, h' => by
    rw [F81_L2]
    by_cases hi : i < d.length
    · have hg : geti d (i : Int) = some d[i] := by rw [geti_k]; exact List.getElem?_eq_getElem hi
      obtain ⟨b, hb⟩ := right_L2 hd k (i + 1) (by omega) (by omega)
      rw [decide_eq_true (show (i : Int) < (d.length : Int) by omega), cond_true, hg, Option.bind_some, Option.bind_some, wi i (by omega), hb]
      cases decide (((d[i]).toNat : Int) < 48) <;> cases decide (((d[i]).toNat : Int) > 57) <;> exact ⟨_, rfl⟩
    · rw [decide_eq_false (show ¬ (i : Int) < (d.length : Int) by omega), cond_false]
      exact ⟨_, rfl⟩
theorem tl_eq (u : UInt8) (w : List UInt8) : (((u :: w).drop (Int.toNat 1)).take (Int.toNat (((u :: w).length : Int) - 1))) = w := by simp
theorem right_L1 {u : UInt8} {w : List UInt8} (hd : w.length ≤ 2000000) : ∀ (k i : Nat), w.length + 1 ≤ k + i → i ≤ w.length → ∃ b, F81_L1 (u :: w) k i = some b
  | 0, i, h, h' => by omega
  | k + 1, i, h, h' => by
    rw [F81_L1, tl_eq]
    by_cases hi : i < w.length
    · have hg : geti w (i : Int) = some w[i] := by rw [geti_k]; exact List.getElem?_eq_getElem hi
      obtain ⟨b, hb⟩ := right_L1 (u := u) hd k (i + 1) (by omega) (by omega)
      rw [decide_eq_true (show (i : Int) < (w.length : Int) by omega), cond_true, hg, Option.bind_some, Option.bind_some, wi i (by omega), hb]
      cases decide (((w[i]).toNat : Int) < 48) <;> cases decide (((w[i]).toNat : Int) > 57) <;> exact ⟨_, rfl⟩
    · rw [decide_eq_false (show ¬ (i : Int) < (w.length : Int) by omega), cond_false]
      exact ⟨_, rfl⟩
theorem right_tot {fuel : Nat} (w : List UInt8) (hw : w.length ≤ 2000000) (hf : w.length + 1 ≤ fuel) : ∃ b, F81 fuel w = some b ∧ (b = true → w ≠ []) := by
  cases w with
  | nil => exact ⟨false, rfl, fun h => by cases h⟩
  | cons u w =>
    have ne : ∀ b : Bool, b = true → (u :: w) ≠ [] := fun _ _ h => by cases h
    have key : ∃ b, F81 fuel (u :: w) = some b := by
      unfold F81
      simp only [List.length_cons] at hw hf
      obtain ⟨b1, h1⟩ := right_L1 (u := u) (w := w) (by omega) fuel 0 (by omega) (by omega)
      obtain ⟨b2, h2⟩ := right_L2 (d := u :: w) (by simp; omega) fuel 0 (by simp; omega) (by simp)
      rw [tl_eq, show (geti (u :: w) 0) = some u from rfl, decide_eq_true (show (((u :: w).length : Nat) : Int) > 0 by simp), ass_t (by simp; omega)]
      rw [show ((0 : Nat) : Int) = 0 from rfl] at h1 h2
      rw [h1, h2]
      cases (u :: w) == [48] with
      | true => exact ⟨_, rfl⟩
      | false =>
        simp only [cond_false, cond_true, Option.bind_some]
        cases ((u.toNat : Int) == 45) with
        | true =>
          simp only [cond_true]
          cases w with
          | nil => exact ⟨_, rfl⟩
          | cons v w =>
            rw [show (geti (v :: w) 0) = some v from rfl]
            cases (((v :: w).length : Int) == 0) with
            | true => exact ⟨_, rfl⟩
            | false =>
              simp only [cond_false, Option.bind_some]
              cases ((v.toNat : Int) == 48) <;> exact ⟨_, rfl⟩
        | false =>
          simp only [cond_false]
          cases (((u :: w).length : Int) == 0) with
          | true => exact ⟨_, rfl⟩
          | false =>
            simp only [cond_false, Option.bind_some]
            cases ((u.toNat : Int) == 48) <;> exact ⟨_, rfl⟩
    obtain ⟨b, hb⟩ := key
    exact ⟨b, hb, ne b⟩

theorem neg_tot {w : List UInt8} (h : w ≠ []) : ∃ b, F100 w = some b := by
  cases w with
  | nil => exact absurd rfl h
  | cons u w => exact ⟨_, rfl⟩
theorem sgn_tot {w : List UInt8} (h : w ≠ []) : ∃ v, F112 w = some v := by
  obtain ⟨b, hb⟩ := neg_tot h
  unfold F112
  rw [hb]
  cases w == [48] <;> cases b <;> exact ⟨_, rfl⟩
theorem slc_tk {l : List Int} {m : Nat} (h : m ≤ l.length) : slc l 0 ((m : Nat) : Int) = some (l.take m) := by
  unfold slc
  rw [decide_eq_true (show (0 : Int) ≤ 0 by omega), decide_eq_true (show (0 : Int) ≤ (m : Int) by omega), decide_eq_true (show (m : Int) ≤ (l.length : Int) by omega)]
  simp
theorem strip_L : ∀ (k : Nat) (l : List Int), l.length + 1 ≤ k → l.length ≤ 1000000 → ∃ r, F134_L1 k l = some r ∧ r.length ≤ l.length
  | 0, l, h, _ => by omega
  | k + 1, l, h, hl => by
    rw [F134_L1, List.length_map]
    by_cases h0 : 0 < l.length
    · have hw : IntKind.i64.wrap ((l.length : Int) - 1) = ((l.length - 1 : Nat) : Int) := by rw [w64 (by omega) (by omega)]; omega
      rw [decide_eq_true (show (l.length : Int) > 0 by omega), cond_true, hw, geti_k, List.getElem?_eq_getElem (show l.length - 1 < l.length by omega), Option.bind_some, Option.bind_some]
      cases (l[l.length - 1]'(by omega)) == 0 with
      | false => exact ⟨_, rfl, Nat.le_refl _⟩
      | true =>
        rw [cond_true, slc_tk (by omega), Option.bind_some]
        obtain ⟨r, h1, h2⟩ := strip_L k (l.take (l.length - 1)) (by simp; omega) (by simp; omega)
        exact ⟨r, h1, by simp at h2; omega⟩
    · rw [decide_eq_false (show ¬ (l.length : Int) > 0 by omega), cond_false, Option.bind_some, cond_false]
      exact ⟨_, rfl, Nat.le_refl _⟩
/-! read -/
theorem read_L4 {d : List UInt8} {l9 : List Int} {v10 : Nat} {rec : Int → List Int → Option (List Int)} (hv : v10 ≤ d.length) (hb : v10 ≤ 1000) : ∀ (k j : Nat) (v13 : Int), v10 + 1 ≤ k + j → j ≤ v10 → ∃ v, F114_L4 d l9 v10 rec k v13 j = Option.bind (app l9 [v]) fun l5 => rec (IntKind.i64.wrap ((v10 : Int) - 4)) l5
  | 0, j, v13, h, h' => by omega
  | k + 1, j, v13, h, h' => by
    rw [F114_L4]
    by_cases hj : j < v10
    · rw [decide_eq_true (show (j : Int) < (v10 : Int) by omega), cond_true, geti_k, List.getElem?_eq_getElem (show j < d.length by omega), Option.bind_some, wi j (by omega)]
      exact read_L4 hv hb k (j + 1) _ (by omega) (by omega)
    · rw [decide_eq_false (show ¬ (j : Int) < (v10 : Int) by omega), cond_false]
      exact ⟨_, rfl⟩
theorem read_L2 {u : UInt8} {d : List UInt8} {l9 : List Int} {v10 : Nat} {rec : Int → List Int → Option (List Int)} (hv : v10 ≤ d.length) (hb : v10 ≤ 1000) : ∀ (k j : Nat) (v13 : Int), v10 + 1 ≤ k + j → j ≤ v10 → ∃ v, F114_L2 (u :: d) l9 v10 rec k v13 j = Option.bind (app l9 [v]) fun l5 => rec (IntKind.i64.wrap ((v10 : Int) - 4)) l5
  | 0, j, v13, h, h' => by omega
  | k + 1, j, v13, h, h' => by
    rw [F114_L2, tl_eq]
    by_cases hj : j < v10
    · rw [decide_eq_true (show (j : Int) < (v10 : Int) by omega), cond_true, geti_k, List.getElem?_eq_getElem (show j < d.length by omega), Option.bind_some, wi j (by omega)]
      exact read_L2 hv hb k (j + 1) _ (by omega) (by omega)
    · rw [decide_eq_false (show ¬ (j : Int) < (v10 : Int) by omega), cond_false]
      exact ⟨_, rfl⟩
theorem start_eq {v : Int} (h1 : -3 ≤ v) (h2 : v ≤ 1000) (h0 : v > 0) : ∃ j : Nat, (bif decide ((IntKind.i64.wrap (v - 4)) > 0) then (IntKind.i64.wrap (v - 4)) else 0) = (j : Int) ∧ (j : Int) ≤ v := by
  rw [w64 (by omega) (by omega)]
  by_cases h : v - 4 > 0
  · rw [decide_eq_true h]
    exact ⟨(v - 4).toNat, by simp only [cond_true]; omega, by omega⟩
  · rw [decide_eq_false h]
    exact ⟨0, rfl, by omega⟩
theorem read_L3 {fuel : Nat} {d : List UInt8} (hd : d.length ≤ 1000) (hf : 1100 ≤ fuel) : ∀ (k : Nat) (v : Int) (l9 : List Int), v + 4 ≤ 4 * k → -3 ≤ v → v ≤ d.length → (l9.length : Int) + v ≤ 1000 → ∃ r, F114_L3 fuel d k v l9 = some r ∧ r.length ≤ 1100
  | 0, v, l9, h, h1, _, _ => by omega
  | k + 1, v, l9, h, h1, h2, hl => by
    rw [F114_L3]
    by_cases h0 : v > 0
    · obtain ⟨j, hj, hjv⟩ := start_eq h1 (by omega) h0
      obtain ⟨m, rfl⟩ : ∃ m : Nat, v = m := ⟨v.toNat, by omega⟩
      rw [decide_eq_true h0, cond_true, hj]
      obtain ⟨x, hx⟩ := read_L4 (d := d) (l9 := l9) (v10 := m) (rec := F114_L3 fuel d k) (by omega) (by omega) fuel j 0 (by omega) (by omega)
      rw [hx, app_n _ _ (by simp; omega), Option.bind_some, w64 (by omega) (by omega)]
      exact read_L3 hd hf k _ _ (by omega) (by omega) (by omega) (by simp; omega)
    · rw [decide_eq_false h0, cond_false]
      obtain ⟨r, h3, h4⟩ := strip_L fuel l9 (by omega) (by omega)
      unfold F134
      rw [h3]
      exact ⟨_, rfl, by omega⟩
theorem read_L1 {fuel : Nat} {u : UInt8} {d : List UInt8} (hd : d.length ≤ 1000) (hf : 1100 ≤ fuel) : ∀ (k : Nat) (v : Int) (l9 : List Int), v + 4 ≤ 4 * k → -3 ≤ v → v ≤ d.length → (l9.length : Int) + v ≤ 1000 → ∃ r, F114_L1 fuel (u :: d) k v l9 = some r ∧ r.length ≤ 1100
  | 0, v, l9, h, h1, _, _ => by omega
  | k + 1, v, l9, h, h1, h2, hl => by
    rw [F114_L1]
    by_cases h0 : v > 0
    · obtain ⟨j, hj, hjv⟩ := start_eq h1 (by omega) h0
      obtain ⟨m, rfl⟩ : ∃ m : Nat, v = m := ⟨v.toNat, by omega⟩
      rw [decide_eq_true h0, cond_true, hj]
      obtain ⟨x, hx⟩ := read_L2 (u := u) (d := d) (l9 := l9) (v10 := m) (rec := F114_L1 fuel (u :: d) k) (by omega) (by omega) fuel j 0 (by omega) (by omega)
      rw [hx, app_n _ _ (by simp; omega), Option.bind_some, w64 (by omega) (by omega)]
      exact read_L1 hd hf k _ _ (by omega) (by omega) (by omega) (by simp; omega)
    · rw [decide_eq_false h0, cond_false]
      obtain ⟨r, h3, h4⟩ := strip_L fuel l9 (by omega) (by omega)
      unfold F134
      rw [h3]
      exact ⟨_, rfl, by omega⟩
theorem read_tot {fuel : Nat} (hf : 1100 ≤ fuel) {w : List UInt8} (h : w ≠ []) (hw : w.length ≤ 900) : ∃ r, F114 fuel w = some r ∧ r.length ≤ 1100 := by
  cases w with
  | nil => exact absurd rfl h
  | cons u w =>
    simp only [List.length_cons] at hw
    unfold F114
    rw [show (geti (u :: w) 0) = some u from rfl, Option.bind_some]
    cases ((u.toNat : Int) == 45) with
    | true =>
      rw [cond_true, ass_t (by simp; omega), tl_eq]
      exact read_L1 (by omega) hf fuel _ [] (by omega) (by omega) (by omega) (by simp; omega)
    | false =>
      rw [cond_false]
      exact read_L3 (by simp; omega) hf fuel _ [] (by simp; omega) (by omega) (by omega) (by simp; omega)
theorem comp_L {a b : List Int} (hb : a.length = b.length) (ha : a.length ≤ 2000) : ∀ (k : Nat) (v : Int), v + 2 ≤ k → -1 ≤ v → v < a.length → ∃ r, F113_L1 a b k v = some r
  | 0, v, h, h1, _ => by omega
  | k + 1, v, h, h1, h2 => by
    rw [F113_L1]
    by_cases h0 : v ≥ 0
    · obtain ⟨m, rfl⟩ : ∃ m : Nat, v = m := ⟨v.toNat, by omega⟩
      rw [decide_eq_true h0, cond_true, geti_k, geti_k, List.getElem?_eq_getElem (show m < a.length by omega), List.getElem?_eq_getElem (show m < b.length by omega)]
      simp only [Option.bind_some]
      cases (a[m]'(by omega)) != (b[m]'(by omega)) with
      | true =>
        cases decide ((a[m]'(by omega)) < (b[m]'(by omega))) <;> exact ⟨_, rfl⟩
      | false =>
        rw [cond_false, w64 (by omega) (by omega)]
        exact comp_L hb ha k _ (by omega) (by omega) (by omega)
    · rw [decide_eq_false h0, cond_false]
      exact ⟨_, rfl⟩
theorem comp_tot {fuel : Nat} (hf : 3000 ≤ fuel) {a b : List Int} (ha : a.length ≤ 2000) (hb : b.length ≤ 2000) : ∃ r, F113 fuel a b = some r := by
  unfold F113
  rw [List.length_map, List.length_map]
  by_cases h : a.length = b.length
  · rw [show ((a.length : Int) != (b.length : Int)) = false by simp [h], cond_false, w64 (by omega) (by omega)]
    exact comp_L h ha fuel _ (by omega) (by omega) (by omega)
  · rw [show ((a.length : Int) != (b.length : Int)) = true by simp; omega, cond_true]
    cases decide ((a.length : Int) < (b.length : Int)) <;> exact ⟨_, rfl⟩
theorem cmp_tot {fuel : Nat} (hf : 3000 ≤ fuel) {a b : List UInt8} (ha : a ≠ []) (hb : b ≠ []) (la : a.length ≤ 900) (lb : b.length ≤ 900) : ∃ r, F99 fuel a b = some r := by
  obtain ⟨sa, h1⟩ := sgn_tot ha
  obtain ⟨sb, h2⟩ := sgn_tot hb
  obtain ⟨na, h3⟩ := neg_tot ha
  obtain ⟨ra, h4, l4⟩ := read_tot (fuel := fuel) (by omega) ha la
  obtain ⟨rb, h5, l5⟩ := read_tot (fuel := fuel) (by omega) hb lb
  obtain ⟨c1, h6⟩ := comp_tot hf (a := ra) (b := rb) (by omega) (by omega)
  obtain ⟨c2, h7⟩ := comp_tot hf (a := rb) (b := ra) (by omega) (by omega)
  unfold F99
  rw [h1, h2, h3, h4, h5]
  simp only [Option.bind_some, h6, h7]
  cases sa != sb with
  | true => cases decide (sa < sb) <;> exact ⟨_, rfl⟩
  | false => cases na <;> exact ⟨_, rfl⟩
theorem int_L {d : List UInt8} (hn : d ≠ []) (hd : d.length ≤ 1000) : ∀ (k i : Nat) (v : Int), d.length + 1 ≤ k + i → i ≤ d.length → ∃ r, F82_L1 d k v i = some r
  | 0, i, v, h, h' => by omega
  | k + 1, i, v, h, h' => by
    rw [F82_L1]
    by_cases hi : i < d.length
    · have hg : geti d (i : Int) = some d[i] := by rw [geti_k]; exact List.getElem?_eq_getElem hi
      rw [decide_eq_true (show (i : Int) < (d.length : Int) by omega), cond_true, hg, Option.bind_some, Option.bind_some]
      unfold F82_A2
      rw [wi i (by omega)]
      cases ((d[i]).toNat : Int) != 45 with
      | true => exact int_L hn hd k (i + 1) _ (by omega) (by omega)
      | false => exact int_L hn hd k (i + 1) _ (by omega) (by omega)
    · obtain ⟨b, hb⟩ := neg_tot hn
      rw [decide_eq_false (show ¬ (i : Int) < (d.length : Int) by omega), cond_false, hb]
      cases b <;> exact ⟨_, rfl⟩
theorem int_tot {fuel : Nat} (hf : 3000 ≤ fuel) {w : List UInt8} (h : w ≠ []) (hw : w.length ≤ 900) : ∃ r, F82 fuel w = some r := by
  obtain ⟨a, h1⟩ := cmp_tot hf (a := w) (b := [45, 57, 50, 50, 51, 51, 55, 50, 48, 51, 54, 56, 53, 52, 55, 55, 53, 56, 48, 56]) h (by decide) hw (by decide)
  obtain ⟨b, h2⟩ := cmp_tot hf (a := w) (b := [57, 50, 50, 51, 51, 55, 50, 48, 51, 54, 56, 53, 52, 55, 55, 53, 56, 48, 55]) h (by decide) hw (by decide)
  obtain ⟨r, h3⟩ := int_L h (by omega) fuel 0 0 (by omega) (by omega)
  unfold F82
  rw [show ((0 : Nat) : Int) = 0 from rfl] at h3
  rw [h1, h2, h3]
  simp only [Option.bind_some]
  cases decide (a < 0) with
  | true => exact ⟨_, rfl⟩
  | false => cases hb : decide (b > 0) <;> simp [hb]
theorem int_tab : ((List.range 199).all fun i => (match F81 4000 (D ((i : Int) - 99)) with | some true => true | _ => false) && (match F82 4000 (D ((i : Int) - 99)) with | some (n, true) => decide (n = (i : Int) - 99) | _ => false)) = true := by kernel_rfl
theorem int_D {n : Int} (h0 : -99 ≤ n) (h1 : n ≤ 99) : F81 4000 (D n) = some true ∧ F82 4000 (D n) = some (n, true) := by
  have h := List.all_eq_true.mp int_tab (n + 99).toNat (List.mem_range.mpr (by omega))
  have e : (((n + 99).toNat : Nat) : Int) - 99 = n := by omega
  rw [e, Bool.and_eq_true] at h
  refine ⟨?_, ?_⟩
  · have h2 := h.1
    split at h2
    · assumption
    · cases h2
  · have h2 := h.2
    split at h2
    · rename_i m hm; rw [hm, of_decide_eq_true h2]
    · cases h2

/-! ### guess -/
theorem guess_L {y1 : List (List UInt8)} {w : List UInt8} {ws : List (List UInt8)} (hy : y1 = w :: ws) (hl : ∀ v ∈ y1, v.length ≤ 2500) (hc : y1.length ≤ 2000000) : ∀ (k i : Nat) (a b c d : Int), 5 ≤ k + i → i ≤ 4 → ∃ x, F46_L1 4000 y1 k i a b c d = some x
  | 0, i, a, b, c, d, h, h' => by omega
  | k + 1, i, a, b, c, d, h, h' => by
    rw [F46_L1, List.length_map]
    have fin : ∃ x, (Option.bind (geti y1 0) fun y68 => bif y68 == [101, 113] then (some (⟨1, b, c, d⟩ : T_api_Instr)) else (bif y68 == [108, 101] then (some (⟨2, b, c, d⟩ : T_api_Instr)) else (bif y68 == [103, 101] then (some (⟨3, b, c, d⟩ : T_api_Instr)) else (bif y68 == [103, 111] then (some (⟨4, 0, 0, b⟩ : T_api_Instr)) else (some (⟨5, 0, b, 0⟩ : T_api_Instr)))))) = some x := by
      rw [hy, show (geti (w :: ws) 0) = some w from rfl, Option.bind_some]
      cases w == [101, 113] <;> cases w == [108, 101] <;> cases w == [103, 101] <;> cases w == [103, 111] <;> exact ⟨_, rfl⟩
    by_cases hi : i < y1.length
    · rw [decide_eq_true (show (i : Int) < (y1.length : Int) by omega), cond_true, Option.bind_some]
      by_cases h4 : i < 4
      · have hw := hl y1[i] (List.getElem_mem hi)
        obtain ⟨r, hr, hne⟩ := right_tot (fuel := 4000) y1[i] (by omega) (by omega)
        have nx := fun a b c d => guess_L hy hl hc k (i + 1) a b c d (by omega) (by omega)
        rw [decide_eq_true (show (i : Int) < 4 by omega), cond_true, geti_k, List.getElem?_eq_getElem hi]
        simp only [Option.bind_some]
        rw [hr, Option.bind_some]
        unfold F46_A2
        rw [wi i (by omega)]
        cases r with
        | false => exact nx a b c d
        | true =>
          simp only [cond_true, Option.bind_some]
          by_cases h9 : (y1[i]).length < 9
          · obtain ⟨v, hv⟩ := int_tot (fuel := 4000) (by omega) (hne rfl) (show (y1[i]).length ≤ 900 by omega)
            rw [decide_eq_true (show ((y1[i]).length : Int) < 9 by omega), cond_true, hv, Option.bind_some]
            rcases (by omega : i = 0 ∨ i = 1 ∨ i = 2 ∨ i = 3) with e | e | e | e
            · rw [decide_eq_true (show (i : Int) = 0 by omega)]; exact nx _ _ _ _
            · rw [decide_eq_false (show ¬ (i : Int) = 0 by omega), decide_eq_true (show (i : Int) = 1 by omega)]; exact nx _ _ _ _
            · rw [decide_eq_false (show ¬ (i : Int) = 0 by omega), decide_eq_false (show ¬ (i : Int) = 1 by omega), decide_eq_true (show (i : Int) = 2 by omega)]; exact nx _ _ _ _
            · rw [decide_eq_false (show ¬ (i : Int) = 0 by omega), decide_eq_false (show ¬ (i : Int) = 1 by omega), decide_eq_false (show ¬ (i : Int) = 2 by omega), decide_eq_true (show (i : Int) = 3 by omega)]; exact nx _ _ _ _
          · rw [decide_eq_false (show ¬ ((y1[i]).length : Int) < 9 by omega), cond_false]
            exact nx a b c d
      · rw [decide_eq_false (show ¬ (i : Int) < 4 by omega), cond_false]
        exact fin
    · rw [decide_eq_false (show ¬ (i : Int) < (y1.length : Int) by omega), cond_false, Option.bind_some, cond_false]
      exact fin
theorem split_len : ∀ (s : List UInt8), (split1 32 s).length ≤ s.length + 1
  | [] => by simp [split1]
  | b :: s => by
    have ih := split_len s
    rw [split1]
    cases b == 32 with
    | true => simp; omega
    | false =>
      obtain ⟨w, ws, e1, _, _⟩ := join_split s
      rw [e1] at ih ⊢
      simp at ih ⊢; omega
theorem guess_tot {l : List UInt8} (hl : l.length ≤ 2100) : ∃ x, F46 4000 l = some x := by
  obtain ⟨w, ws, e1, _, e3⟩ := join_split l
  have hsl := split_len l
  rw [e1] at hsl
  unfold F46
  rw [words_eq (by omega) (by omega), Option.bind_some, e1]
  exact guess_L rfl (fun v hv => by have := e3 v hv; omega) (by omega) 4000 1 0 0 0 0 (by omega) (by omega)
theorem guess_D {y1 : List (List UInt8)} {k i : Nat} {a b c d n : Int} (h : y1[i]? = some (D n)) (h0 : -99 ≤ n) (h1 : n ≤ 99) (h4 : i < 4) (hd : (D n).length < 9) : F46_L1 4000 y1 (k + 1) i a b c d =
    (bif decide ((i : Int) = 0) then F46_L1 4000 y1 k ((i + 1 : Nat) : Int) n b c d else bif decide ((i : Int) = 1) then F46_L1 4000 y1 k ((i + 1 : Nat) : Int) a n c d
      else bif decide ((i : Int) = 2) then F46_L1 4000 y1 k ((i + 1 : Nat) : Int) a b n d else bif decide ((i : Int) = 3) then F46_L1 4000 y1 k ((i + 1 : Nat) : Int) a b c n else none) := by
  have hi : i < y1.length := (List.getElem?_eq_some_iff.mp h).1
  obtain ⟨e1, e2⟩ := int_D h0 h1
  rw [F46_L1, List.length_map, decide_eq_true (show (i : Int) < (y1.length : Int) by omega), cond_true, Option.bind_some, decide_eq_true (show (i : Int) < 4 by omega), cond_true, geti_k, h]
  simp only [Option.bind_some, e1, e2, cond_true]
  rw [decide_eq_true (show ((D n).length : Int) < 9 by omega), cond_true]
  unfold F46_A2
  rw [wi i (by omega)]
theorem guess_end {y1 : List (List UInt8)} {k i : Nat} {a b c d : Int} {w : List UInt8} (h0 : y1[0]? = some w) (h : ¬ (i < y1.length ∧ i < 4)) : F46_L1 4000 y1 (k + 1) i a b c d =
    (bif w == [101, 113] then (some (⟨1, b, c, d⟩ : T_api_Instr)) else (bif w == [108, 101] then (some (⟨2, b, c, d⟩ : T_api_Instr)) else (bif w == [103, 101] then (some (⟨3, b, c, d⟩ : T_api_Instr)) else (bif w == [103, 111] then (some (⟨4, 0, 0, b⟩ : T_api_Instr)) else (some (⟨5, 0, b, 0⟩ : T_api_Instr)))))) := by
  rw [F46_L1, List.length_map]
  have e : (bif decide ((i : Int) < (y1.length : Int)) then some (decide ((i : Int) < 4)) else some false) = some false := by
    by_cases hi : i < y1.length
    · rw [decide_eq_true (show (i : Int) < (y1.length : Int) by omega), cond_true, decide_eq_false (show ¬ (i : Int) < 4 by omega)]
    · rw [decide_eq_false (show ¬ (i : Int) < (y1.length : Int) by omega), cond_false]
  rw [e, Option.bind_some, cond_false, geti_0, h0, Option.bind_some]
theorem guess_body {n i : Nat} {x : T_api_Instr} (hx : okI n i x = true) (hn : n ≤ 40) : F46 4000 (bodyS x) = some x := by
  have hf := fields_ok hx hn
  have hlen := lineS_len hx hn
  rw [lineS_body, List.length_append] at hlen
  unfold F46
  rw [words_eq (by omega) (by omega), Option.bind_some, body_split hx hn]
  have dl : ∀ m : Int, -99 ≤ m ∧ m ≤ 99 → (D m).length < 9 := fun m hm => by have := (D_eq hm.1 hm.2).2.2; omega
  obtain ⟨op, va, vl, go⟩ := x
  rcases okI_dest hx with ⟨h1, h2, h3, h4, h5⟩ | ⟨h1, h2, h3, h4, h5⟩ | ⟨h1, h2, h3, h4⟩
  · have hfl : fieldsL (⟨op, va, vl, go⟩ : T_api_Instr) = [va, vl, go] := by
      unfold fieldsL
      rcases h1 with h1 | h1 | h1 <;> (simp only at h1; rw [h1]; rfl)
    rw [hfl] at hf ⊢
    have a1 := hf.1 va (by simp)
    have a2 := hf.1 vl (by simp)
    have a3 := hf.1 go (by simp)
    show F46_L1 4000 (wordS op :: [D va, D vl, D go]) (3996 + 1 + 1 + 1 + 1) ((1 : Nat) : Int) 0 0 0 0 = _
    rw [guess_D (i := 1) (n := va) rfl a1.1 a1.2 (by omega) (dl va a1)]
    show F46_L1 4000 (wordS op :: [D va, D vl, D go]) (3996 + 1 + 1 + 1) ((2 : Nat) : Int) 0 va 0 0 = _
    rw [guess_D (i := 2) (n := vl) rfl a2.1 a2.2 (by omega) (dl vl a2)]
    show F46_L1 4000 (wordS op :: [D va, D vl, D go]) (3996 + 1 + 1) ((3 : Nat) : Int) 0 va vl 0 = _
    rw [guess_D (i := 3) (n := go) rfl a3.1 a3.2 (by omega) (dl go a3)]
    show F46_L1 4000 (wordS op :: [D va, D vl, D go]) (3996 + 1) ((4 : Nat) : Int) 0 va vl go = _
    rw [guess_end (i := 4) (w := wordS op) rfl (by omega)]
    simp only at h1
    rcases h1 with h1 | h1 | h1 <;> (subst h1; rfl)
  · simp only at h1 h4 h5
    subst h1 h4 h5
    have hfl : fieldsL (⟨4, 0, 0, go⟩ : T_api_Instr) = [go] := rfl
    rw [hfl] at hf ⊢
    have a3 := hf.1 go (by simp)
    show F46_L1 4000 (wordS 4 :: [D go]) (3998 + 1 + 1) ((1 : Nat) : Int) 0 0 0 0 = _
    rw [guess_D (i := 1) (n := go) rfl a3.1 a3.2 (by omega) (dl go a3)]
    show F46_L1 4000 (wordS 4 :: [D go]) (3998 + 1) ((2 : Nat) : Int) 0 go 0 0 = _
    rw [guess_end (i := 2) (w := wordS 4) rfl (by simp)]
    rfl
  · simp only at h1 h3 h4
    subst h1 h3 h4
    have hfl : fieldsL (⟨5, 0, vl, 0⟩ : T_api_Instr) = [vl] := rfl
    rw [hfl] at hf ⊢
    have a3 := hf.1 vl (by simp)
    show F46_L1 4000 (wordS 5 :: [D vl]) (3998 + 1 + 1) ((1 : Nat) : Int) 0 0 0 0 = _
    rw [guess_D (i := 1) (n := vl) rfl a3.1 a3.2 (by omega) (dl vl a3)]
    show F46_L1 4000 (wordS 5 :: [D vl]) (3998 + 1) ((2 : Nat) : Int) 0 vl 0 0 = _
    rw [guess_end (i := 2) (w := wordS 5) rfl (by simp)]
    rfl

/-! ### The reference's Parse -/
theorem rend {d : List UInt8} {l : List T_api_Instr} (hl : l.length ≤ 2100) :
    (Option.bind (Option.bind (F38 4000 l) fun y17 => bif !y17 then some (l, true) else (Option.bind (F13 4000 l) fun y18 => some (l, !(y18 == d)))) fun o1 => bif o1.2 then some (([] : List T_api_Instr), (5 : Int)) else some (o1.1, 0)) =
      if good l = true ∧ textS l = d then some (l, 0) else some ([], 5) := by
  rw [refgood_eq (by omega) (by omega), Option.bind_some]
  cases hg : good l with
  | false => simp
  | true =>
    rw [text_eq hg (by omega)]
    cases hb : textS l == d with
    | true => simp [eq_of_beq hb]
    | false =>
      have : ¬ textS l = d := fun e => by rw [e] at hb; simp at hb
      simp [this, hb]
theorem rparse_L {d : List UInt8} (hd : d.length ≤ 2000) : ∀ (k f i : Nat) (acc : List T_api_Instr), d.length + 1 ≤ k + i → f ≤ i → i ≤ d.length → acc.length ≤ i → ∃ l, F16_L1 4000 d k f i acc = if good l = true ∧ textS l = d then some (l, 0) else some ([], 5)
  | 0, f, i, acc, h, _, h', _ => by omega
  | k + 1, f, i, acc, h, hfi, h', ha => by
    rw [F16_L1]
    by_cases hi : i < d.length
    · have hg : geti d (i : Int) = some d[i] := by rw [geti_k]; exact List.getElem?_eq_getElem hi
      rw [decide_eq_true (show (i : Int) < (d.length : Int) by omega), cond_true, hg, Option.bind_some]
      unfold F16_A2
      rw [wi i (by omega)]
      cases ((d[i]).toNat : Int) == 10 with
      | true =>
        obtain ⟨x, hx⟩ := guess_tot (l := (d.drop (Int.toNat (f : Int))).take (Int.toNat ((i : Int) - f))) (by simp; omega)
        rw [cond_true, ass_t (by simp only [Bool.and_eq_true, decide_eq_true_eq]; omega), hx, Option.bind_some, app_n _ _ (by simp; omega), Option.bind_some]
        exact rparse_L hd k (i + 1) (i + 1) _ (by omega) (by omega) (by omega) (by simp; omega)
      | false => exact rparse_L hd k f (i + 1) acc (by omega) (by omega) (by omega) (by omega)
    · rw [decide_eq_false (show ¬ (i : Int) < (d.length : Int) by omega), cond_false]
      exact ⟨acc, rend (by omega)⟩
theorem skip_L {d : List UInt8} (hd : d.length ≤ 2000) {f e : Nat} (he : e ≤ d.length) (hn : ∀ j, j < e → f ≤ j → d[j]? ≠ some 10) : ∀ (m k i : Nat) (acc : List T_api_Instr), i + m = e → f ≤ i → F16_L1 4000 d (k + m) f i acc = F16_L1 4000 d k f e acc
  | 0, k, i, acc, h, _ => by rw [Nat.add_zero] at h ⊢; rw [h]
  | m + 1, k, i, acc, h, hf => by
    have hi : i < d.length := by omega
    have hg : geti d (i : Int) = some d[i] := by rw [geti_k]; exact List.getElem?_eq_getElem hi
    have h10 := hn i (by omega) hf
    rw [List.getElem?_eq_getElem hi] at h10
    have e10 := u8_eq d[i] 10 (by omega)
    rw [show ((10 : Nat) : Int) = 10 from rfl, show UInt8.ofNat 10 = 10 from rfl] at e10
    rw [show k + (m + 1) = (k + m) + 1 by omega, F16_L1, decide_eq_true (show (i : Int) < (d.length : Int) by omega), cond_true, hg, Option.bind_some, e10, show (d[i] == 10) = false from beq_false_of_ne (fun e => h10 (by rw [e])), cond_false]
    unfold F16_A2
    rw [wi i (by omega)]
    exact skip_L hd he hn m k (i + 1) acc (by omega) (by omega)
theorem rback_L {d : List UInt8} (hd : d.length ≤ 2000) {n : Nat} (hn : n ≤ 40) : ∀ (l : List T_api_Instr) (j : Nat) (pre : List UInt8) (acc : List T_api_Instr) (k : Nat), goodL n j l = true → d = pre ++ unl (l.map bodyS) → (unl (l.map bodyS)).length + 1 ≤ k → acc.length ≤ pre.length → F16_L1 4000 d k pre.length pre.length acc = if good (acc ++ l) = true ∧ textS (acc ++ l) = d then some (acc ++ l, 0) else some ([], 5)
  | [], j, pre, acc, k, _, hp, hk, ha => by
    obtain ⟨k, rfl⟩ : ∃ k', k = k' + 1 := ⟨k - 1, by omega⟩
    have hlen : d.length = pre.length := by rw [hp]; simp [unl]
    rw [F16_L1, decide_eq_false (show ¬ (pre.length : Int) < (d.length : Int) by omega), cond_false, List.append_nil]
    exact rend (by omega)
  | x :: l, j, pre, acc, k, hg, hp, hk, ha => by
    simp only [goodL, Bool.and_eq_true] at hg
    rw [List.map_cons, unl_cons] at hp hk
    have hb10 := body_no10 hg.1 hn
    have hlen : d.length = pre.length + (bodyS x).length + 1 + (unl (l.map bodyS)).length := by rw [hp]; simp; omega
    simp only [List.length_append, List.length_cons] at hk
    obtain ⟨k, rfl⟩ : ∃ k', k = (k' + 1) + (bodyS x).length := ⟨k - 1 - (bodyS x).length, by omega⟩
    rw [skip_L hd (f := pre.length) (e := pre.length + (bodyS x).length) (by omega) (fun m hm hpm => by
      rw [hp, List.getElem?_append_right hpm, List.getElem?_append_left (by omega)]
      intro e
      exact hb10 10 (List.mem_of_getElem? e) rfl) (bodyS x).length (k + 1) pre.length acc rfl (Nat.le_refl _)]
    have hgi : geti d ((pre.length + (bodyS x).length : Nat) : Int) = some 10 := by
      rw [geti_k, hp, List.getElem?_append_right (by omega), show pre.length + (bodyS x).length - pre.length = (bodyS x).length by omega, List.getElem?_append_right (Nat.le_refl _), Nat.sub_self]; rfl
    have hpc : (d.drop (Int.toNat (pre.length : Int))).take (Int.toNat (((pre.length + (bodyS x).length : Nat) : Int) - (pre.length : Int))) = bodyS x := by
      rw [Int.toNat_natCast, show (((pre.length + (bodyS x).length : Nat) : Int) - (pre.length : Int)).toNat = (bodyS x).length by omega, hp, List.drop_left, List.take_left]
    rw [F16_L1, decide_eq_true (show ((pre.length + (bodyS x).length : Nat) : Int) < (d.length : Int) by omega), cond_true, hgi, Option.bind_some, show (((10 : UInt8).toNat : Int) == 10) = true from rfl, cond_true, ass_t (by simp only [Bool.and_eq_true, decide_eq_true_eq]; omega), hpc, guess_body hg.1 hn, Option.bind_some, app_n _ _ (by simp; omega), Option.bind_some]
    unfold F16_A2
    rw [wi (pre.length + (bodyS x).length) (by omega)]
    have ih := rback_L hd hn l (j + 1) (pre ++ (bodyS x ++ [10])) (acc ++ [x]) k hg.2 (by rw [hp]; simp) (by omega) (by simp; omega)
    have el : (pre ++ (bodyS x ++ [10])).length = pre.length + (bodyS x).length + 1 := by simp; omega
    rw [el] at ih
    rw [ih]; simp
theorem rparse_tot (t : List UInt8) (ht : t.length ≤ 2000) : F16 4000 t = some ([], 5) ∨ ∃ m, F16 4000 t = some (m, 0) ∧ good m = true ∧ textS m = t := by
  unfold F16
  rw [decide_eq_false (show ¬ ((t.length : Int) > 2000) by omega), cond_false]
  obtain ⟨l, h⟩ := rparse_L ht 4000 0 0 [] (by omega) (by omega) (by omega) (by simp)
  rw [show ((0 : Nat) : Int) = 0 from rfl] at h
  rw [h]
  by_cases hc : good l = true ∧ textS l = t
  · rw [if_pos hc]; exact .inr ⟨l, rfl, hc⟩
  · rw [if_neg hc]; exact .inl rfl
theorem rparse_back {l : List T_api_Instr} (hg : good l = true) : F16 4000 (textS l) = some (l, 0) := by
  have hl := good_len hg
  have ht := text_len hl.2 l 0 (good_l hg)
  unfold F16
  rw [decide_eq_false (show ¬ (((textS l).length : Int) > 2000) by omega), cond_false]
  have h := rback_L (d := textS l) (by omega) hl.2 l 0 [] [] 4000 (good_l hg) (by rw [textS_unl]; rfl) (by rw [← textS_unl]; omega) (by simp)
  rw [List.nil_append, if_pos ⟨hg, rfl⟩] at h
  exact h
theorem parse_same (t : List UInt8) : ∃ r, F15 4000 t = some r ∧ F16 4000 t = some r ∧ r.1.length ≤ 40 := by
  by_cases ht : t.length ≤ 2000
  · rcases parse_spec (fuel := 4000) (by omega) t ht with h | ⟨m, h1, h2, h3⟩
    · rcases rparse_tot t ht with h' | ⟨m, h1, h2, h3⟩
      · exact ⟨_, h, h', by simp⟩
      · exfalso
        rw [← h3, parse_back (by omega) h2] at h
        simp at h
    · refine ⟨(m, 0), h1, ?_, (good_len h2).2⟩
      rw [← h3]; exact rparse_back h2
  · refine ⟨([], 3), ?_, ?_, by simp⟩
    · unfold F15; rw [decide_eq_true (show (t.length : Int) > 2000 by omega)]; rfl
    · unfold F16; rw [decide_eq_true (show (t.length : Int) > 2000 by omega)]; rfl

theorem wakes_4k : F8 4000 = some true := by kernel_rfl
theorem bmin {a b : Int} (ha : 0 ≤ a) (hb : 0 ≤ b) : ∃ m : Nat, (bif decide (a < b) then a else b) = (m : Int) ∧ (m : Int) ≤ a ∧ (m : Int) ≤ b ∧ ((m : Int) = a ∨ (m : Int) = b) := by
  by_cases h : a < b
  · rw [decide_eq_true h, cond_true]; exact ⟨a.toNat, by omega, by omega, by omega, by omega⟩
  · rw [decide_eq_false h, cond_false]; exact ⟨b.toNat, by omega, by omega, by omega, by omega⟩
theorem edit_tot (e : T_croupierlaw31_Edit) (hA : 0 ≤ e.At ∧ e.At ≤ 65535) (hL : 0 ≤ e.Less) {s : List UInt8} (hs : s.length ≤ 1000000) : ∃ y, F14 e s = some y ∧ y.length ≤ s.length + 40 := by
  unfold F14
  have w1 : IntKind.i64.wrap ((s.length : Int) + 1) = (s.length : Int) + 1 := w64 (by omega) (by omega)
  have wA : IntKind.i64.wrap e.At = e.At := w64 (by omega) (by omega)
  have tk := tm_nn (x := e.At) hA.1 (m := (s.length : Int) + 1) (by omega)
  have tr := tm_nn (x := e.Less) hL (m := 8) (by omega)
  obtain ⟨k, hk⟩ : ∃ k : Nat, Int.tmod e.At ((s.length : Int) + 1) = (k : Int) := ⟨(Int.tmod e.At ((s.length : Int) + 1)).toNat, by omega⟩
  obtain ⟨r, hr⟩ : ∃ r : Nat, Int.tmod e.Less 8 = (r : Int) := ⟨(Int.tmod e.Less 8).toNat, by omega⟩
  rw [hk] at tk
  rw [hr] at tr
  have w2 : IntKind.i64.wrap (r : Int) = (r : Int) := w64 (by omega) (by omega)
  have w3 : IntKind.i64.wrap ((k : Int) + (r : Int)) = (k : Int) + (r : Int) := w64 (by omega) (by omega)
  obtain ⟨m, hm, m1, m2, _⟩ := bmin (a := 40) (b := (e.Text.length : Int)) (by omega) (by omega)
  obtain ⟨q, hq, q1, q2, q3⟩ := bmin (a := (s.length : Int)) (b := (k : Int) + (r : Int)) (by omega) (by omega)
  simp only [w1, wA, hk, hr, w2, w3, hm, hq]
  rw [ass_t (decide_eq_true (by omega)), ass_t (by simp only [Bool.and_eq_true, decide_eq_true_eq]; omega), ass_t (by simp only [Bool.and_eq_true, decide_eq_true_eq]; omega),
    ass_t (decide_eq_true (by simp only [List.length_take, List.length_drop]; omega)), ass_t (by simp only [Bool.and_eq_true, decide_eq_true_eq]; omega),
    ass_t (decide_eq_true (by simp only [List.length_append, List.length_take, List.length_drop]; omega))]
  exact ⟨_, rfl, by simp only [List.length_append, List.length_take, List.length_drop]; omega⟩
theorem geti_b {α β : Type} {l : List α} {i : Nat} {f : α → Option β} {z : Option β} (hl : i < l.length) (h : ∀ t, f t = z) : Option.bind (geti l (i : Int)) f = z := by
  rw [geti_k, List.getElem?_eq_getElem hl]; exact h _
theorem parses_L2 {d1 : T_croupierlaw31_Edit} {d3 x2 y3 y4 y6 : List UInt8} : ∀ (k i : Nat), 6 ≤ k + i → i ≤ 5 → F4_L2 4000 d1 d3 x2 y3 y4 y6 k i = some true
  | 0, i, h, h' => by omega
  | k + 1, i, h, h' => by
    rw [F4_L2]
    by_cases hi : i < 5
    · rw [decide_eq_true (show (i : Int) < 5 by omega), cond_true]
      refine geti_b (by simpa using hi) fun t => ?_
      obtain ⟨r, h1, h2, h3⟩ := parse_same t
      rw [h1, Option.bind_some, h2, Option.bind_some, show (r.2 != r.2) = false by simp, cond_false, same_refl (l := r.1) (by omega) (by omega), Option.bind_some, Option.bind_some]
      simp only [Bool.not_true, cond_false]
      rw [wi i (by omega)]
      exact parses_L2 k (i + 1) (by omega) (by omega)
    · rw [decide_eq_false (show ¬ (i : Int) < 5 by omega), cond_false]
theorem parses_fin {d1 d2 : T_croupierlaw31_Edit} (hA : 0 ≤ d1.At ∧ d1.At ≤ 65535) (hL : 0 ≤ d1.Less) (hB : 0 ≤ d2.At ∧ d2.At ≤ 65535) (hM : 0 ≤ d2.Less) {d3 s : List UInt8} (h2 : s.length ≤ 2000) {k : Nat} (x : List UInt8) (hx : 2001 ≤ x.length) : F4_L1 4000 d1 d2 d3 s (k + 1) x = some true := by
  obtain ⟨y, hy, hyl⟩ := edit_tot d1 hA hL (s := s) (by omega)
  obtain ⟨z, hz, _⟩ := edit_tot d2 hB hM (s := y) (by omega)
  have tr := tm_nn (x := d1.Less) hL (m := 2) (by omega)
  have w1 : IntKind.i64.wrap (Int.tmod d1.Less 2) = Int.tmod d1.Less 2 := w64 (by omega) (by omega)
  have w2 : IntKind.i64.wrap (2000 + Int.tmod d1.Less 2) = 2000 + Int.tmod d1.Less 2 := w64 (by omega) (by omega)
  obtain ⟨m, hm, m1, m2, _⟩ := bmin (a := 200) (b := (d3.length : Int)) (by omega) (by omega)
  rw [F4_L1, decide_eq_false (show ¬ (x.length : Int) < 2001 by omega), cond_false, hy]
  simp only [Option.bind_some]
  rw [hz, Option.bind_some]
  rw [ass_t (by rw [hm]; simp only [Bool.and_eq_true, decide_eq_true_eq]; omega), ass_t (by rw [w1, w2]; simp only [Bool.and_eq_true, decide_eq_true_eq]; omega)]
  exact parses_L2 4000 0 (by omega) (by omega)
theorem parses_L1 {d1 d2 : T_croupierlaw31_Edit} (hA : 0 ≤ d1.At ∧ d1.At ≤ 65535) (hL : 0 ≤ d1.Less) (hB : 0 ≤ d2.At ∧ d2.At ≤ 65535) (hM : 0 ≤ d2.Less) {d3 s : List UInt8} (h1 : 1 ≤ s.length) (h2 : s.length ≤ 2000) : ∀ (k : Nat) (x : List UInt8), 2001 ≤ k + x.length → x.length ≤ 5000 → F4_L1 4000 d1 d2 d3 s (k + 1) x = some true := fun k => by
  induction k with
  | zero =>
    intro x h _
    exact parses_fin hA hL hB hM h2 x (by omega)
  | succ k ih =>
    intro x h hx
    by_cases hi : x.length < 2001
    · rw [F4_L1, decide_eq_true (show (x.length : Int) < 2001 by omega), cond_true, ass_t (decide_eq_true (by omega))]
      exact ih _ (by rw [List.length_append]; omega) (by rw [List.length_append]; omega)
    · exact parses_fin hA hL hB hM h2 x (by omega)
theorem law31Parses (d : List A_a4i8) (a b : T_croupierlaw31_Edit) (s : List UInt8) (hA : 0 ≤ a.At ∧ a.At ≤ 65535) (hL : 0 ≤ a.Less) (hB : 0 ≤ b.At ∧ b.At ≤ 65535) (hM : 0 ≤ b.Less) : F4 4000 d a b s = some true := by
  unfold F4
  obtain ⟨l, hl, hg, hl30⟩ := of_good (fuel := 4000) d (by omega)
  have hlen := good_len hg
  have ht := text_len hlen.2 l 0 (good_l hg)
  have hpos : 0 < (textS l).length := by
    obtain ⟨x, m, rfl⟩ : ∃ x m, l = x :: m := by
      cases l with
      | nil => simp at hlen
      | cons x m => exact ⟨x, m, rfl⟩
    simp only [textS, lineS, List.length_append, List.length_cons]; omega
  rw [wakes_4k, Option.bind_some, show (!true) = false from rfl, cond_false, hl, Option.bind_some, text_eq hg (by omega), Option.bind_some]
  exact parses_L1 hA hL hB hM (by omega) (by omega) 3999 _ (by omega) (by omega)
end Go.Proofs.YtilfjfpemjfalaaGreatDoor
