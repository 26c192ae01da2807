/- Plain law of chapter 31: CodeChecks. -/
import Derived.Test.YtilfjfpemjfalaaGreatDoorC5
import Derived.Test.YtilfjfpemjfalaaGreatDoorC6
import Derived.Test.YtilfjfpemjfalaaGreatDoorC8
namespace Go.Proofs.YtilfjfpemjfalaaGreatDoor
open Go Go.RowKit Kx
set_option maxRecDepth 100000

/-! ### The reference's Trim -/
theorem rl_congr {n : Nat} : ∀ (xs : List T_api_Instr) (i : Nat) (on on' : List Bool), goodL n i xs = true → i + xs.length ≤ n → n ≤ on.length → n ≤ on'.length → (∀ j, at_ on j = at_ on' j) → ∀ j, at_ (rl xs i on) j = at_ (rl xs i on') j
  | [], _, _, _, _, _, _, _, h => h
  | x :: xs, i, on, on', hg, hl, hn, hn', h => by
    simp only [goodL, Bool.and_eq_true, List.length_cons] at hg hl
    rw [rl, rl]
    refine rl_congr xs (i + 1) _ _ hg.2 (by omega) (by rw [rstep_len]; exact hn) (by rw [rstep_len]; exact hn') (fun j => ?_)
    rw [rstep_at hg.1 (by omega) hn, rstep_at hg.1 (by omega) hn', h, h]
def reachR (l : List T_api_Instr) : List Bool := rl l 0 ((List.replicate l.length false).set 0 true)
theorem reachR_len (l : List T_api_Instr) : (reachR l).length = l.length := by unfold reachR; rw [rl_len]; simp
theorem at_rep (n j : Nat) : at_ (List.replicate n false) j = false := by
  unfold at_
  by_cases hj : j < n
  · simp [List.getD, hj]
  · simp [List.getD, hj]
theorem reachR_at {l : List T_api_Instr} (hg : good l = true) (j : Nat) : at_ (reachR l) j = onF l j := by
  have hl := good_len hg
  unfold onF reach reachR
  refine rl_congr l 0 _ _ (good_L hg) (by omega) (by simp) (by simp) (fun j => ?_) j
  rw [at_set (by simp; omega), at_set (by simp), at_rep, at_rep]
theorem rtrim_L5 {on : List Bool} {l31 : List T_api_Instr} {v : Int} {y : T_api_Instr} {rec : Int → List T_api_Instr → Option (List T_api_Instr × Int)} {R : Nat → Bool} {g : Nat} (hy : y.Go = g) (hR : ∀ j, j < g → geti on (j : Int) = some (R j)) (hg : g ≤ 45) (h31 : l31.length ≤ 45) : ∀ (k j : Nat), g + 1 ≤ k + j → j ≤ g → F21_L5 on l31 v y rec k ((pl R j : Nat) : Int) j = rec (IntKind.i64.wrap (v + 1)) (l31 ++ [(⟨y.Op, y.Var, y.Val, ((pl R g : Nat) : Int)⟩ : T_api_Instr)])
  | 0, j, h, h' => by omega
  | k + 1, j, h, h' => by
    rw [F21_L5, hy]
    by_cases hj : j < g
    · have hps := pl_self (R := R) j
      rw [decide_eq_true (show (j : Int) < (g : Int) by omega), cond_true, hR j hj, Option.bind_some]
      unfold F21_A6
      rw [wi j (by omega), wi (pl R j) (by omega)]
      have ih := rtrim_L5 (v := v) (y := y) (rec := rec) hy hR hg h31 k (j + 1) (by omega) (by omega)
      cases hr : R j with
      | true => rw [pl_on hr] at ih; exact ih
      | false => rw [pl_off hr] at ih; exact ih
    · obtain rfl : j = g := (by omega)
      rw [decide_eq_false (show ¬ (j : Int) < (j : Int) by omega), cond_false, app_n _ _ (by simp; omega), Option.bind_some]
      rfl
theorem rtrim_L3 {fuel : Nat} (hf : 50 ≤ fuel) {d : List T_api_Instr} (hg : good d = true) : ∀ (k i : Nat) (acc : List T_api_Instr), d.length + 1 ≤ k + i → i ≤ d.length → acc.length ≤ i → F21_L3 fuel d (reachR d) k i acc = some (acc ++ tl (onF d) (d.drop i) i, 0)
  | 0, i, acc, h, h', _ => by omega
  | k + 1, i, acc, h, h', ha => by
    have hl := good_len hg
    rw [F21_L3]
    by_cases hi : i < d.length
    · have hgi : geti d (i : Int) = some d[i] := by rw [geti_k]; exact List.getElem?_eq_getElem hi
      have hdr : d.drop i = d[i] :: d.drop (i + 1) := List.drop_eq_getElem_cons hi
      have hx := good_at hg (List.getElem?_eq_getElem hi)
      rw [dlt hi, cond_true, at_get (by rw [reachR_len]; omega), Option.bind_some, hgi, hdr, tl, reachR_at hg]
      have ih := fun acc' (ha' : List.length acc' ≤ i + 1) => rtrim_L3 hf hg k (i + 1) acc' (by omega) (by omega) ha'
      generalize d[i] = x at hx ih ⊢
      cases h1 : onF d i with
      | false =>
        simp only [cond_false]
        unfold F21_A4
        rw [wi i (by omega)]; exact ih acc (by omega)
      | true =>
        simp only [cond_true, Option.bind_some]
        unfold tr
        by_cases h5 : x.Op = 5
        · rw [show (x.Op != 5) = false by simp [h5], cond_false, cond_false, app_n _ _ (by simp; omega), Option.bind_some]
          unfold F21_A4
          rw [wi i (by omega), ih _ (by simp; omega)]
          simp
        · have hgo : 0 ≤ x.Go ∧ x.Go < d.length := by
            rcases okI_dest hx with ⟨_, h2, h3, _⟩ | ⟨_, h2, h3, _⟩ | ⟨h1, _⟩
            · omega
            · omega
            · exact absurd h1 h5
          obtain ⟨g, hgo'⟩ : ∃ g : Nat, x.Go = (g : Int) := ⟨x.Go.toNat, by omega⟩
          have := rtrim_L5 (on := reachR d) (l31 := acc) (v := (i : Int)) (y := x) (rec := F21_L3 fuel d (reachR d) k) (R := onF d) hgo' (fun j hj => by rw [at_get (by rw [reachR_len]; omega), reachR_at hg]) (by omega) (by omega) fuel 0 (by omega) (by omega)
          rw [show (x.Op != 5) = true by simp [h5], cond_true, cond_true]
          refine Eq.trans this ?_
          rw [wi i (by omega), ih _ (by simp; omega), hgo', Int.toNat_natCast]
          simp
    · have : i = d.length := by omega
      subst this
      rw [dge (Nat.le_refl _), cond_false, List.drop_length, tl, List.append_nil]
theorem rtrim_L1 {fuel : Nat} (hf : 50 ≤ fuel) {d : List T_api_Instr} (hg : good d = true) : ∀ (k i : Nat) (on : List Bool), d.length + 1 ≤ k + i → i ≤ d.length → on.length = d.length → rl (d.drop i) i on = reachR d → F21_L1 fuel d k i on = some (trimS d, 0)
  | 0, i, on, h, h', _, _ => by omega
  | k + 1, i, on, h, h', hon, hrl => by
    have hl := good_len hg
    rw [F21_L1]
    by_cases hi : i < d.length
    · have hgi : geti d (i : Int) = some d[i] := by rw [geti_k]; exact List.getElem?_eq_getElem hi
      have hdr : d.drop i = d[i] :: d.drop (i + 1) := List.drop_eq_getElem_cons hi
      have hx := good_at hg (List.getElem?_eq_getElem hi)
      rw [hdr, rl] at hrl
      have ih := rtrim_L1 hf hg k (i + 1) (rstep d[i] i on) (by omega) (by omega) (by rw [rstep_len, hon]) hrl
      rw [dlt hi, cond_true, at_get (by omega), Option.bind_some, hgi]
      generalize d[i] = x at hx ih ⊢
      unfold F21_A2
      rw [wi i (by omega)]
      unfold rstep at ih
      cases h1 : at_ on i with
      | false => rw [h1] at ih; simpa using ih
      | true =>
        rw [h1] at ih
        by_cases h5 : x.Op = 5
        · rw [h5] at ih
          simp only [cond_true, Option.bind_some]
          rw [show (x.Op != 5) = false by simp [h5], cond_false]
          simpa using ih
        · have hgo : 0 ≤ x.Go ∧ x.Go < on.length ∧ (i : Int) + 1 ≤ x.Go := by
            rcases okI_dest hx with ⟨_, h2, h3, _⟩ | ⟨_, h2, h3, _⟩ | ⟨h1, _⟩
            · omega
            · omega
            · exact absurd h1 h5
          have e5 : (x.Op == 5) = false := by simp [h5]
          have e5' : (x.Op != 5) = true := by simp [h5]
          have e4 : inB 1 3 x.Op = (x.Op != 4) := by
            rw [op3]
            rcases okI_dest hx with ⟨h2, _⟩ | ⟨h2, _⟩ | ⟨h2, _⟩
            · rcases h2 with h2 | h2 | h2 <;> (rw [h2]; rfl)
            · rw [h2]; rfl
            · exact absurd h2 h5
          rw [e5] at ih
          obtain ⟨g, hgo'⟩ : ∃ g : Nat, x.Go = (g : Int) := ⟨x.Go.toNat, by omega⟩
          rw [hgo'] at ih
          have hgl : g < on.length := by omega
          simp only [Bool.not_false, Bool.and_true, cond_true, Option.bind_some, Int.toNat_natCast, Nat.zero_add, e5', hgo'] at ih ⊢
          rw [at_get hgl, Option.bind_some, test_eq, Option.bind_some, e4]
          cases h4 : x.Op != 4 with
          | true =>
            rw [h4] at ih
            simp only [cond_true] at ih ⊢
            rw [at_get (by rw [List.length_set]; omega), Option.bind_some]
            exact ih
          | false =>
            rw [h4] at ih
            simp only [cond_false] at ih ⊢
            exact ih
    · have : i = d.length := by omega
      subst this
      rw [List.drop_length, rl] at hrl
      rw [dge (Nat.le_refl _), cond_false, hrl]
      have := rtrim_L3 hf hg fuel 0 [] (by omega) (by omega) (by simp)
      simpa [trimS] using this
theorem rtrim_eq {fuel : Nat} {d : List T_api_Instr} (hg : good d = true) (hf : 50 ≤ fuel) : F21 fuel d = some (trimS d, 0) := by
  have hl := good_len hg
  unfold F21
  rw [refgood_eq (by omega) (by omega), hg, Option.bind_some, show (!true) = false from rfl, cond_false, List.length_map, mkL_n _ _ (by omega), Option.bind_some, geti_0]
  rw [show (List.replicate d.length false)[0]? = some false by rw [List.getElem?_replicate, if_pos (by omega)], Option.bind_some, Option.bind_some]
  exact rtrim_L1 hf hg fuel 0 _ (by omega) (by omega) (by simp) (by rw [List.drop_zero]; rfl)
/-! ### CodeChecks -/
theorem check_one {x : List T_api_Instr} (hx : x.length ≤ 45) : ∃ (p : List UInt8 × Int) (t : List T_api_Instr × Int) (c : Int), F18 100 x = some p ∧ F19 100 x = some p ∧ F20 100 x = some t ∧ F21 100 x = some t ∧ F22 100 x = some c ∧ F23 100 x = some c ∧ t.1.length ≤ 45 := by
  have hv := valid_eq (fuel := 100) (l := x) (by omega) (by omega)
  have hr := refgood_eq (fuel := 100) (l := x) (by omega) (by omega)
  cases hg : good x with
  | false =>
    rw [hg] at hv hr
    refine ⟨([], 310), ([], 310), 310, print_bad hg (by omega) (by omega), ?_, trim_bad hg (by omega) (by omega), ?_, ?_, ?_, by simp⟩
    · unfold F19; rw [hr]; rfl
    · unfold F21; rw [hr]; rfl
    · unfold F22; rw [hv]; rfl
    · unfold F23; rw [hr]; rfl
  | true =>
    rw [hg] at hv hr
    have hgt := good_len (trimS_good hg)
    refine ⟨(textS x, 0), (trimS x, 0), 0, print_eq hg (by omega), ?_, trim_eq hg (by omega), rtrim_eq hg (by omega), ?_, ?_, by dsimp only; omega⟩
    · unfold F19; rw [hr, Option.bind_some, show (!true) = false from rfl, cond_false, text_eq hg (by omega)]; rfl
    · unfold F22; rw [hv]; rfl
    · unfold F23; rw [hr]; rfl
theorem checks_L {a b c e : List T_api_Instr} (ha : a.length ≤ 45) (hb : b.length ≤ 45) (hc : c.length ≤ 45) (he : e.length ≤ 45) : ∀ (k i : Nat), 5 ≤ k + i → i ≤ 4 → F5_L1 100 e a b c k i = some true
  | 0, i, h, h' => by omega
  | k + 1, i, h, h' => by
    rw [F5_L1]
    by_cases hi : i < 4
    · rw [show decide ((i : Int) < 4) = true from decide_eq_true (by omega), cond_true, geti_k]
      obtain ⟨z, hz, hzl⟩ : ∃ z, [a, b, c, e][i]? = some z ∧ z.length ≤ 45 := by
        rcases (by omega : i = 0 ∨ i = 1 ∨ i = 2 ∨ i = 3) with h | h | h | h
        · exact ⟨a, by rw [h]; rfl, ha⟩
        · exact ⟨b, by rw [h]; rfl, hb⟩
        · exact ⟨c, by rw [h]; rfl, hc⟩
        · exact ⟨e, by rw [h]; rfl, he⟩
      obtain ⟨p, t, q, h1, h2, h3, h4, h5, h6, h7⟩ := check_one hzl
      rw [hz, Option.bind_some, h1, h2, h3, h4, h5, h6]
      simp only [Option.bind_some]
      rw [same_refl (by omega) (by omega), wi i (by omega), checks_L ha hb hc he k (i + 1) (by omega) (by omega)]
      simp
    · rw [show decide ((i : Int) < 4) = false from decide_eq_false (by omega), cond_false]
theorem law31Checks (d0 : List A_a4i8) (b : A_a2T_croupierlaw31_Bend) (h0 : 0 ≤ b.a0.At ∧ b.a0.At ≤ 255) (h1 : 0 ≤ b.a1.At ∧ b.a1.At ≤ 255) (d2 : List T_api_Instr) : F5 100 d0 b d2 = some true := by
  unfold F5
  obtain ⟨l, hl, hg, _⟩ := of_good (fuel := 100) d0 (by omega)
  have hlen := good_len hg
  obtain ⟨y, hy, hyl⟩ := bend_ex b.a0 h0 (l := l) (by omega)
  obtain ⟨z, hz, hzl⟩ := bend_ex b.a1 h1 (l := y) hyl
  obtain ⟨m, hm, hml⟩ := slc_min (l := d2) (f := e_T_api_Instr) 45 (e := 45) rfl
  rw [wakes_true, Option.bind_some, show (!true) = false from rfl, cond_false, hl, Option.bind_some, hy, Option.bind_some, Option.bind_some, hz, Option.bind_some, hm, Option.bind_some]
  exact checks_L (by omega) (by omega) (by omega) hml 100 0 (by omega) (by omega)
end Go.Proofs.YtilfjfpemjfalaaGreatDoor
