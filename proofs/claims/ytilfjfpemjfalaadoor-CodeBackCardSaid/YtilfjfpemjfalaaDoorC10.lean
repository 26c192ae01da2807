/- Plain law of chapter 31: the parser. -/
import Derived.Test.YtilfjfpemjfalaaDoorC8
namespace Go.Proofs.YtilfjfpemjfalaaDoor
open Go Go.RowKit Kx
set_option maxRecDepth 100000

/-! ### Lines -/
def bodyS (x : T_api_Instr) : List UInt8 := wordS x.Op ++ flS (fieldsL x)
theorem lineS_body (x : T_api_Instr) : lineS x = bodyS x ++ [10] := by unfold lineS bodyS; rw [List.append_assoc]
theorem cut1_hit {c : UInt8} : ∀ {a b : List UInt8}, (∀ u ∈ a, u ≠ c) → cut1 c (a ++ c :: b) = (a, b, true)
  | [], b, _ => by rw [List.nil_append, cut1, show (c == c) = true from beq_self_eq_true c]
  | u :: a, b, h => by
    have ih := cut1_hit (a := a) (b := b) (fun v hv => h v (List.mem_cons_of_mem _ hv))
    rw [List.cons_append, cut1, show (u == c) = false from beq_false_of_ne (h u List.mem_cons_self), ih]
theorem cut1_true {c : UInt8} : ∀ {s x y : List UInt8}, cut1 c s = (x, y, true) → s = x ++ c :: y
  | [], x, y, h => by simp [cut1] at h
  | u :: s, x, y, h => by
    rw [cut1] at h
    cases hb : u == c with
    | true =>
      rw [hb] at h
      simp only [Prod.mk.injEq] at h
      obtain ⟨rfl, rfl, _⟩ := h
      rw [eq_of_beq hb]; rfl
    | false =>
      rw [hb] at h
      obtain ⟨x', y', t', e⟩ : ∃ x' y' t', cut1 c s = (x', y', t') := ⟨_, _, _, rfl⟩
      rw [e] at h
      simp only [Prod.mk.injEq] at h
      obtain ⟨rfl, rfl, rfl⟩ := h
      rw [cut1_true e]; rfl
theorem cutF_n (c : UInt8) {s : List UInt8} (h : s.length ≤ 2147483648) : cutF s [c] = some (cut1 c s) := by
  show (bif decide (s.length ≤ 2147483648) then some (cut1 c s) else none) = _
  rw [decide_eq_true h]; rfl
theorem splitF_n (c : UInt8) {s : List UInt8} (h : s.length ≤ 2147483648) : splitF s [c] = some (split1 c s) := by
  show (bif decide (s.length ≤ 2147483648) then some (split1 c s) else none) = _
  rw [decide_eq_true h]; rfl
def unl (ls : List (List UInt8)) : List UInt8 := ls.flatMap (fun l => l ++ [10])
theorem unl_cons (l : List UInt8) (ls : List (List UInt8)) : unl (l :: ls) = l ++ 10 :: unl ls := by unfold unl; simp
theorem lines_L : ∀ (k : Nat) (s : List UInt8), s.length + 1 ≤ k → s.length ≤ 2000000 → ∃ ls b, F44_L1 k s = some (ls, b) ∧ (b = false → s = unl ls) ∧ (∀ l ∈ ls, l.length ≤ 2000000) ∧ ls.length ≤ s.length
  | 0, s, h, _ => by omega
  | k + 1, s, h, h2 => by
    rw [F44_L1]
    cases hs : (s == []) with
    | true =>
      have e : s = [] := eq_of_beq hs
      subst e
      exact ⟨[], false, rfl, fun _ => rfl, by simp, by simp⟩
    | false =>
      unfold F45
      rw [cutF_n 10 (show s.length ≤ 2147483648 by omega)]
      obtain ⟨x, y, t, e⟩ : ∃ x y t, cut1 10 s = (x, y, t) := ⟨_, _, _, rfl⟩
      rw [e]
      cases t with
      | false => exact ⟨[], true, rfl, (fun h => by cases h), by simp, by simp⟩
      | true =>
        have hs := cut1_true e
        have hl : s.length = x.length + 1 + y.length := by rw [hs]; simp; omega
        obtain ⟨ls, b, e1, e2, e3, e4⟩ := lines_L k y (by omega) (by omega)
        refine ⟨x :: ls, b, ?_, fun hb => ?_, fun l hl' => ?_, by simp; omega⟩
        · simp only [Bool.not_false, cond_true, Option.bind_some, Bool.not_true, cond_false, e1]
        · rw [unl_cons, ← e2 hb]; exact hs
        · rcases List.mem_cons.mp hl' with rfl | h
          · omega
          · exact e3 l h
theorem lines_of : ∀ (ls : List (List UInt8)) (k : Nat), (∀ l ∈ ls, (∀ u ∈ l, u ≠ 10)) → (unl ls).length + 1 ≤ k → (unl ls).length ≤ 2000000 → F44_L1 k (unl ls) = some (ls, false)
  | [], 0, _, h, _ => by omega
  | [], k + 1, _, _, _ => rfl
  | l :: ls, 0, _, h, _ => by omega
  | l :: ls, k + 1, hn, h, h2 => by
    have hu := unl_cons l ls
    have hl : (unl (l :: ls)).length = l.length + 1 + (unl ls).length := by rw [hu]; simp; omega
    have ih := lines_of ls k (fun m hm => hn m (List.mem_cons_of_mem _ hm)) (by omega) (by omega)
    rw [F44_L1]
    have hne : (unl (l :: ls) == []) = false := by rw [hu]; cases l <;> rfl
    unfold F45
    rw [hne, cutF_n 10 (show (unl (l :: ls)).length ≤ 2147483648 by omega), hu, cut1_hit (hn l List.mem_cons_self)]
    simp only [Bool.not_false, cond_true, Option.bind_some, Bool.not_true, cond_false, ih]
/-! ### Words -/
def joinS : List (List UInt8) → List UInt8
  | [] => []
  | w :: ws => w ++ ws.flatMap (fun v => 32 :: v)
theorem join_split : ∀ (s : List UInt8), ∃ w ws, split1 32 s = w :: ws ∧ joinS (w :: ws) = s ∧ ∀ v ∈ w :: ws, v.length ≤ s.length
  | [] => ⟨[], [], rfl, rfl, by simp⟩
  | b :: s => by
    obtain ⟨w, ws, e1, e2, e3⟩ := join_split s
    rw [split1]
    cases hb : b == 32 with
    | true =>
      refine ⟨[], w :: ws, by rw [e1], ?_, fun v hv => ?_⟩
      · rw [eq_of_beq hb, ← e2]; simp [joinS]
      · rcases List.mem_cons.mp hv with rfl | h
        · simp
        · have := e3 v h; simp; omega
    | false =>
      refine ⟨b :: w, ws, by rw [e1], ?_, fun v hv => ?_⟩
      · conv => rhs; rw [← e2]
        simp [joinS]
      · rcases List.mem_cons.mp hv with rfl | h
        · have := e3 w List.mem_cons_self; simp; omega
        · have := e3 v (List.mem_cons_of_mem _ h); simp; omega
theorem split_w : ∀ (w : List UInt8), (∀ u ∈ w, u ≠ 32) → split1 32 w = [w]
  | [], _ => rfl
  | b :: w, h => by
    rw [split1, show (b == 32) = false from beq_false_of_ne (h b List.mem_cons_self), split_w w (fun u hu => h u (List.mem_cons_of_mem _ hu))]
theorem split_app : ∀ (w r : List UInt8), (∀ u ∈ w, u ≠ 32) → split1 32 (w ++ 32 :: r) = w :: split1 32 r
  | [], r, _ => by rw [List.nil_append, split1, show ((32 : UInt8) == 32) = true from rfl]
  | b :: w, r, h => by
    rw [List.cons_append, split1, show (b == 32) = false from beq_false_of_ne (h b List.mem_cons_self), split_app w r (fun u hu => h u (List.mem_cons_of_mem _ hu))]
theorem split_join : ∀ (ws : List (List UInt8)) (w : List UInt8), (∀ v ∈ w :: ws, ∀ u ∈ v, u ≠ 32) → split1 32 (joinS (w :: ws)) = w :: ws
  | [], w, h => by simp only [joinS, List.flatMap_nil, List.append_nil]; exact split_w w (h w List.mem_cons_self)
  | v :: ws, w, h => by
    have ih := split_join ws v (fun z hz => h z (List.mem_cons_of_mem _ hz))
    have : joinS (w :: v :: ws) = w ++ 32 :: joinS (v :: ws) := by simp [joinS]
    rw [this, split_app w _ (h w List.mem_cons_self), ih]
theorem flS_join (w : List UInt8) (l : List Int) : w ++ flS l = joinS (w :: l.map D) := by
  unfold joinS
  congr 1
  induction l with
  | nil => rfl
  | cons f l ih => simp [flS, ih]
/-! ### Numbers -/
theorem all_bounds {s : List UInt8} {v : Int} (h : Lib.atoiAll s = .ok v) : -9223372036854775808 ≤ v ∧ v ≤ 9223372036854775807 := by
  unfold Lib.atoiAll at h
  split at h
  · cases h
  · dsimp only at h
    split at h
    · cases h
    · cases h
    · rename_i u _
      split at h
      · cases h
      · split at h
        · cases h
        · rename_i h1 h2
          cases h
          split <;> omega
theorem itoaF_tot {v : Int} (h : -9223372036854775808 ≤ v ∧ v ≤ 9223372036854775807) : ∃ r, itoaF v = some r := by
  unfold itoaF
  rw [decide_eq_true h.1, decide_eq_true h.2]
  exact ⟨_, rfl⟩
theorem num_tot (w : List UInt8) (h : w.length ≤ 2000000) : ∃ o, F48 w = some o ∧ ∀ n, o = some n → itoaF n = some w := by
  unfold F48 F63 atoiF F27
  rw [decide_eq_true (show w.length ≤ 2147483648 by omega), cond_true, Option.bind_some]
  cases hx : Lib.atoiAll w with
  | ok v =>
    obtain ⟨r, hr⟩ := itoaF_tot (all_bounds hx)
    dsimp only
    rw [hr]
    cases hb : r == w with
    | true =>
      refine ⟨some v, by simp [hb], fun n hn => ?_⟩
      cases hn
      rw [hr, eq_of_beq hb]
    | false => exact ⟨none, by simp [hb], fun n hn => by cases hn⟩
  | range => exact ⟨none, rfl, fun n hn => by cases hn⟩
  | _ => exact ⟨none, rfl, fun n hn => by cases hn⟩
theorem num_tab : ((List.range 199).all fun i => (match F48 (D ((i : Int) - 99)) with | some (some n) => decide (n = (i : Int) - 99) | _ => false) && ((D ((i : Int) - 99)).all fun u => !(u == 32) && !(u == 10))) = true := by kernel_rfl
theorem num_D {n : Int} (h0 : -99 ≤ n) (h1 : n ≤ 99) : F48 (D n) = some (some n) ∧ ∀ u ∈ D n, u ≠ 32 ∧ u ≠ 10 := by
  have h := List.all_eq_true.mp num_tab (n + 99).toNat (List.mem_range.mpr (by omega))
  have e : (((n + 99).toNat : Nat) : Int) - 99 = n := by omega
  rw [e, Bool.and_eq_true] at h
  refine ⟨?_, fun u hu => ?_⟩
  · have h2 := h.1
    split at h2
    · rename_i m hm; rw [hm, of_decide_eq_true h2]
    · cases h2
  · have := List.all_eq_true.mp h.2 u hu
    simp only [Bool.and_eq_true, Bool.not_eq_true', beq_eq_false_iff_ne] at this
    exact this
end Go.Proofs.YtilfjfpemjfalaaDoor
