/- Plain law: the search, by breadth first. -/
import Derived.Test.YtljkgnjmigmcgaaP3
namespace Go.Proofs.Ytljkgnjmigmcgaa
open Go Go.RowKit Kx

structure Tab (t : List (List Int)) (c : List Int) (w : Nat) : Prop where
  len : t.length = c.length
  n1 : 1 ≤ t.length
  n12 : t.length ≤ 12
  row : ∀ row ∈ t, row.length = w
  w1 : 1 ≤ w
  w4 : w ≤ 4
  vals : ∀ row ∈ t, ∀ x ∈ row, -99 ≤ x ∧ x ≤ 99
  chs : ∀ x ∈ c, 0 ≤ x ∧ x ≤ 3

def Edge (t : List (List Int)) (c : List Int) (w s : Nat) (r : T_api_Rule) (s' : Nat) : Prop := Cand t w r ∧ ok c (psd t r s) = true ∧ psd t r s ≠ 0 ∧ s' = sd s (psd t r s)
def thn (t : List (List Int)) (c : List Int) (r : T_api_Rule) (s : Nat) : T_api_Rule := ⟨r.Var, r.Test, r.Val, ch c (psd t r s)⟩
inductive Path (t : List (List Int)) (c : List Int) (w : Nat) : List T_api_Rule → Nat → Prop
  | nil : Path t c w [] (2 ^ t.length - 1)
  | snoc {L : List T_api_Rule} {s s' : Nat} {r : T_api_Rule} : Path t c w L s → Edge t c w s r s' → Path t c w (L ++ [thn t c r s]) s'
inductive Rch (t : List (List Int)) (c : List Int) (w : Nat) : Nat → Nat → Prop
  | z : Rch t c w 0 (2 ^ t.length - 1)
  | s {k s s' : Nat} {r : T_api_Rule} : Rch t c w k s → Edge t c w s r s' → Rch t c w (k + 1) s'
/-- How many sets are not known. -/
def U (n : Nat) (m : List (Int × T_rules_step)) : Nat := (List.range (2 ^ n)).countP fun (x : Nat) => !mhasF m ((x : Nat) : Int)
theorem countP_lt {α : Type} {p q : α → Bool} : ∀ {l : List α}, (∀ x, q x = true → p x = true) → (∃ x ∈ l, p x = true ∧ q x = false) → l.countP q < l.countP p
  | [], _, ⟨x, h, _⟩ => by cases h
  | a :: l, hpq, ⟨x, hx, h1, h2⟩ => by
    rw [List.countP_cons, List.countP_cons]
    have hle : l.countP q ≤ l.countP p := List.countP_mono_left (fun x _ => hpq x)
    rcases List.mem_cons.1 hx with rfl | hx
    · simp [h1, h2]; omega
    · have := countP_lt hpq ⟨x, hx, h1, h2⟩
      cases hq : q a with
      | true => simp [hpq a hq]; omega
      | false => simp; split <;> omega
theorem U_put {n x : Nat} {m : List (Int × T_rules_step)} {st : T_rules_step} (hx : x < 2 ^ n) (hm : mhasF m x = false) : U n (mputF m x st) < U n m := by
  refine countP_lt (fun y h => ?_) ⟨x, List.mem_range.2 hx, by simp [hm], by simp [mhas_put]⟩
  rw [mhas_put] at h
  simp at h
  simp [h.2]

section
variable {t : List (List Int)} {c : List Int} {w : Nat}
structure BI (t : List (List Int)) (c : List Int) (w : Nat) (m : List (Int × T_rules_step)) (q : List Nat) (dep : Nat → Nat) : Prop where
  a : mhasF m ((2 ^ t.length - 1 : Nat) : Int) = true ∧ dep (2 ^ t.length - 1) = 0
  b : ∀ s : Nat, mhasF m s = true → s < 2 ^ t.length ∧ ∃ L, Tr m (2 ^ t.length - 1) s L ∧ Path t c w L s ∧ L.length = dep s
  cc : ∀ s ∈ q, mhasF m (s : Int) = true
  d : q.Pairwise fun x y => dep x ≤ dep y
  d' : ∀ h ∈ q.head?, ∀ s : Nat, mhasF m s = true → dep s ≤ dep h + 1
  e : ∀ s : Nat, mhasF m s = true → s ∉ q → ok c s = false ∧ ∀ r s', Edge t c w s r s' → mhasF m (s' : Int) = true ∧ dep s' ≤ dep s + 1
  f : U t.length m + q.length ≤ 2 ^ t.length
theorem pow_small (h : Tab t c w) : 2 ^ t.length ≤ 4096 := Nat.le_trans (Nat.pow_le_pow_right (by omega) h.n12) (by decide)
theorem psd_sub {r : T_api_Rule} {s i : Nat} (h : (psd t r s).testBit i = true) : s.testBit i = true := by
  rw [psd_bit, Bool.and_eq_true] at h; exact h.1
theorem psd_lt {r : T_api_Rule} {s n : Nat} (h : s < 2 ^ n) : psd t r s < 2 ^ n := lt_of_bits fun i hi => bit_lt h (psd_sub hi)
theorem sd_lt' {a b n : Nat} (h : a < 2 ^ n) (hn : n ≤ 62) (hb : b < 18446744073709551616) : sd a b < 2 ^ n := by
  have ha : a < 18446744073709551616 := Nat.lt_of_lt_of_le h (Nat.le_trans (Nat.pow_le_pow_right (by omega) hn) (by decide))
  refine lt_of_bits fun i hi => ?_
  rw [sd_bit ha hb, Bool.and_eq_true] at hi
  exact bit_lt h hi.1
theorem Cand.fair {r : T_api_Rule} (h : Cand t w r) (hw : ∀ row ∈ t, row.length = w) : ∀ row ∈ t, Fair row.length r := by
  obtain ⟨v, hv, row, hrow, x, hx, h3⟩ := h
  intro row' hr'
  rw [hw row' hr']
  simp only [three, List.mem_cons, List.not_mem_nil, or_false] at h3
  rcases h3 with rfl | rfl | rfl
  · exact ⟨⟨v, rfl, hv⟩, .inl rfl⟩
  · exact ⟨⟨v, rfl, hv⟩, .inr (.inl rfl)⟩
  · exact ⟨⟨v, rfl, hv⟩, .inr (.inr rfl)⟩

/-- How many rows are in a set. -/
def card (n s : Nat) : Nat := (List.range n).countP fun i => s.testBit i
theorem Path.lt (h : Tab t c w) {L : List T_api_Rule} {s : Nat} (hp : Path t c w L s) : s < 2 ^ t.length := by
  have h2 := pow_small h
  induction hp with
  | nil => have : 1 ≤ 2 ^ t.length := Nat.one_le_two_pow; omega
  | @snoc L s s' r _ he ih =>
    rw [he.2.2.2]
    exact sd_lt' ih (by have := h.n12; omega) (by have := psd_lt (t := t) (r := r) ih; omega)
theorem card_sd {n a b : Nat} (ha : a < 2 ^ n) (hn : n ≤ 12) (hb : b < 2 ^ n) (hsub : ∀ i, b.testBit i = true → a.testBit i = true) (h0 : b ≠ 0) : card n (sd a b) < card n a := by
  have h2 : 2 ^ n ≤ 4096 := Nat.le_trans (Nat.pow_le_pow_right (by omega) hn) (by decide)
  obtain ⟨i, hi⟩ := bit_of_ne h0
  refine countP_lt (fun x hx => ?_) ⟨i, List.mem_range.2 (bit_lt hb hi), hsub i hi, ?_⟩
  · rw [sd_bit (by omega) (by omega), Bool.and_eq_true] at hx; exact hx.1
  · rw [sd_bit (by omega) (by omega), hi]; simp
theorem Path.card (h : Tab t c w) {L : List T_api_Rule} {s : Nat} (hp : Path t c w L s) : L.length + card t.length s ≤ t.length := by
  induction hp with
  | nil => simp only [List.length_nil, Nat.zero_add]; refine Nat.le_trans List.countP_le_length ?_; simp
  | @snoc L s s' r hp he ih =>
    have hlt := hp.lt h
    have := card_sd hlt h.n12 (psd_lt (t := t) (r := r) hlt) (fun i hi => psd_sub hi) he.2.2.1
    rw [he.2.2.2]
    simp
    omega
theorem Path.len_le (h : Tab t c w) {L : List T_api_Rule} {s : Nat} (hp : Path t c w L s) : L.length ≤ t.length := by
  have := hp.card h; omega

/-- One head, all candidates. -/
theorem inner (h : Tab t c w) {fuel : Nat} (hf : 5000 ≤ fuel) {rc : Nat → List Int → List (Int × T_rules_step) → Option (T_api_Rules × Int)} {hd : Nat} (hok : ok c hd = false) :
    ∀ (ys : List T_api_Rule), (∀ r ∈ ys, Cand t w r) → ∀ (m : List (Int × T_rules_step)) (q1 : List Nat) (dep : Nat → Nat) (o : Nat) (l : List Int), BI t c w m (hd :: q1) dep → l.drop o = (hd :: q1).map (fun x : Nat => (x : Int)) →
      ∃ m' q1' dep' o' l', F19_L2 fuel t c (hd : Int) rc ys m o l = rc o' l' m' ∧ l'.drop o' = q1'.map (fun x : Nat => (x : Int)) ∧ BI t c w m' (hd :: q1') dep' ∧ U t.length m' + q1'.length ≤ U t.length m + q1.length ∧
        (∀ s : Nat, mhasF m s = true → mhasF m' s = true ∧ dep' s = dep s) ∧ ∀ r ∈ ys, ∀ s', Edge t c w hd r s' → mhasF m' (s' : Int) = true
  | [], _, m, q1, dep, o, l, hb, hl => by
    refine ⟨m, q1, dep, o + Int.toNat 1, l, ?_, ?_, hb, Nat.le_refl _, fun s hs => ⟨hs, rfl⟩, fun r hr => by cases hr⟩
    · rw [F19_L2, ass_t]
      have : ((l.map e_u64).drop o).length = (l.drop o).length := by simp
      rw [this, hl]
      simp
      omega
    · have : l.drop (o + 1) = (l.drop o).drop 1 := by rw [List.drop_drop]
      show l.drop (o + 1) = _
      rw [this, hl]; rfl
  | r :: ys, hys, m, q1, dep, o, l, hb, hl => by
    have hp := pow_small h
    have hdm : mhasF m (hd : Int) = true := hb.cc hd List.mem_cons_self
    have hdl : hd < 2 ^ t.length := (hb.b hd hdm).1
    have hcr : Cand t w r := hys r List.mem_cons_self
    have hg : psd t r hd < 2 ^ t.length := psd_lt hdl
    rw [F19_L2]
    have e1 : F39 fuel t c r (hd : Int) = some ((psd t r hd : Nat) : Int) := by
      have := F39_eq (hcr.fair h.row) (by have := h.n12; omega) (s := hd) (by omega) fuel 0 0 (by have := h.n12; omega) (by omega) (by omega)
      exact this
    have e2 : F36 fuel t c ((psd t r hd : Nat) : Int) = some (oneL (psd t r hd) c 0 0 false) := by
      have := F36_eq h.len (by have := h.n12; have := h.len; omega) (s := psd t r hd) (by omega) fuel 0 0 false (by have := h.n12; have := h.len; omega) (by omega)
      exact this
    rw [e1, Option.bind_some, e2, Option.bind_some]
    -- is there an edge?
    have hskip : ∀ (x : Bool), (bif !(oneL (psd t r hd) c 0 0 false).2 then some true else some (((psd t r hd : Nat) : Int) == 0)) = some x → x = (!ok c (psd t r hd) || decide (psd t r hd = 0)) := fun x hx => by
      have hk : (oneL (psd t r hd) c 0 0 false).2 = ok c (psd t r hd) := rfl
      rw [hk] at hx
      cases hok' : ok c (psd t r hd) with
      | false => rw [hok'] at hx; simp at hx; simp [hx]
      | true =>
        rw [hok'] at hx
        simp at hx
        rw [← hx]
        simp
        rw [Bool.eq_iff_iff]; simp
    have hsk : (bif !(oneL (psd t r hd) c 0 0 false).2 then some true else some (((psd t r hd : Nat) : Int) == 0)) = some (!ok c (psd t r hd) || decide (psd t r hd = 0)) := by
      cases hx : (bif !(oneL (psd t r hd) c 0 0 false).2 then some true else some (((psd t r hd : Nat) : Int) == 0)) with
      | none => cases hy : (oneL (psd t r hd) c 0 0 false).2 <;> rw [hy] at hx <;> cases hx
      | some x => rw [hskip x hx]
    rw [hsk, Option.bind_some]
    cases hno : (!ok c (psd t r hd) || decide (psd t r hd = 0)) with
    | true =>
      rw [cond_true]
      obtain ⟨m', q1', dep', o', l', a1, a2, a3, a4, a5, a6⟩ := inner h hf hok ys (fun r hr => hys r (List.mem_cons_of_mem _ hr)) m q1 dep o l hb hl
      refine ⟨m', q1', dep', o', l', a1, a2, a3, a4, a5, fun r' hr' s' he => ?_⟩
      rcases List.mem_cons.1 hr' with rfl | hr'
      · obtain ⟨_, h1, h2, _⟩ := he
        simp [h1, h2] at hno
      · exact a6 r' hr' s' he
    | false =>
      rw [cond_false, sd_eq, Option.bind_some, Option.bind_some]
      simp at hno
      obtain ⟨hok1, hg0⟩ := hno
      have hedge : Edge t c w hd r (sd hd (psd t r hd)) := ⟨hcr, hok1, hg0, rfl⟩
      have hnl : sd hd (psd t r hd) < 2 ^ t.length := sd_lt' hdl (by have := h.n12; omega) (by omega)
      generalize hnx : sd hd (psd t r hd) = nx at hedge hnl ⊢
      cases hkn : mhasF m (nx : Int) with
      | true =>
        rw [cond_true]
        obtain ⟨m', q1', dep', o', l', a1, a2, a3, a4, a5, a6⟩ := inner h hf hok ys (fun r hr => hys r (List.mem_cons_of_mem _ hr)) m q1 dep o l hb hl
        refine ⟨m', q1', dep', o', l', a1, a2, a3, a4, a5, fun r' hr' s' he => ?_⟩
        rcases List.mem_cons.1 hr' with rfl | hr'
        · rw [he.2.2.2, hnx]; exact (a5 nx hkn).1
        · exact a6 r' hr' s' he
      | false =>
        rw [cond_false, Option.bind_some]
        have hne : ∀ s : Nat, mhasF m (s : Int) = true → s ≠ nx := fun s hs e => by rw [e, hkn] at hs; cases hs
        have hql : (l.drop o).length = q1.length + 1 := by rw [hl]; simp
        have hf0 := hb.f
        rw [app_1 _ _ (by rw [hql]; simp at hf0; omega), Option.bind_some]
        have hst : (⟨(⟨r.Var, r.Test, r.Val, (oneL (psd t r hd) c 0 0 false).1⟩ : T_api_Rule), (hd : Int)⟩ : T_rules_step) = ⟨thn t c r hd, (hd : Int)⟩ := rfl
        rw [hst]
        -- the new state
        have hU := U_put (n := t.length) (st := ⟨thn t c r hd, (hd : Int)⟩) hnl hkn
        have hhas : ∀ s : Nat, mhasF (mputF m (nx : Int) ⟨thn t c r hd, (hd : Int)⟩) s = true → s = nx ∨ mhasF m (s : Int) = true := fun s hs => by
          rw [mhas_put] at hs
          simp at hs
          rcases hs with hs | hs
          · exact .inl (by omega)
          · exact .inr hs
        have hold : ∀ s : Nat, mhasF m (s : Int) = true → mhasF (mputF m (nx : Int) ⟨thn t c r hd, (hd : Int)⟩) s = true := fun s hs => by rw [mhas_put, hs]; simp
        have hnew : mhasF (mputF m (nx : Int) ⟨thn t c r hd, (hd : Int)⟩) (nx : Int) = true := by rw [mhas_put]; simp
        have hdn := hne hd hdm
        have dold : ∀ s, s ≠ nx → (fun s => if s = nx then dep hd + 1 else dep s) s = dep s := fun s hs => if_neg hs
        have hb2 : BI t c w (mputF m (nx : Int) ⟨thn t c r hd, (hd : Int)⟩) (hd :: (q1 ++ [nx])) (fun s => if s = nx then dep hd + 1 else dep s) := by
          refine ⟨⟨hold _ hb.a.1, ?_⟩, fun s hs => ?_, fun s hs => ?_, ?_, fun hh hhd s hs => ?_, fun s hs hsq => ?_, ?_⟩
          · show (if _ then _ else _) = 0
            rw [if_neg (hne _ hb.a.1)]; exact hb.a.2
          · rcases hhas s hs with rfl | hs'
            · refine ⟨hnl, ?_⟩
              obtain ⟨_, L, l1, l2, l3⟩ := hb.b hd hdm
              refine ⟨L ++ [thn t c r hd], .snoc (fun e => hne _ hb.a.1 e.symm) hnew (mlook_same) (l1.put hkn), .snoc l2 hedge, ?_⟩
              simp [l3]
            · obtain ⟨hlt, L, l1, l2, l3⟩ := hb.b s hs'
              exact ⟨hlt, L, l1.put hkn, l2, by rw [l3]; exact (dold s (hne s hs')).symm⟩
          · rcases List.mem_cons.1 hs with rfl | hs
            · exact hold _ hdm
            · rcases List.mem_append.1 hs with hs | hs
              · exact hold _ (hb.cc s (List.mem_cons_of_mem _ hs))
              · simp at hs; subst hs; exact hnew
          · rw [← List.cons_append, List.pairwise_append]
            refine ⟨?_, by simp, fun x hx y hy => ?_⟩
            · refine List.Pairwise.imp_of_mem (fun {x y} hx hy hxy => ?_) hb.d
              show (if _ then _ else _) ≤ (if _ then _ else _)
              rw [if_neg (hne x (hb.cc x hx)), if_neg (hne y (hb.cc y hy))]; exact hxy
            · simp at hy; subst hy
              show (if _ then _ else _) ≤ (if _ then _ else _)
              rw [if_neg (hne x (hb.cc x hx)), if_pos rfl]
              exact hb.d' hd rfl x (hb.cc x hx)
          · obtain rfl : hd = hh := by simpa using hhd
            show (if _ then _ else _) ≤ (if _ then _ else _) + 1
            rw [if_neg hdn]
            rcases hhas s hs with rfl | hs'
            · rw [if_pos rfl]; exact Nat.le_refl _
            · rw [if_neg (hne s hs')]; exact hb.d' hd rfl s hs'
          · have hsn : s ≠ nx := fun e => hsq (by subst e; simp)
            have hs' := (hhas s hs).resolve_left hsn
            obtain ⟨a1, a2⟩ := hb.e s hs' (fun hm => hsq (by rw [← List.cons_append]; exact List.mem_append_left _ hm))
            refine ⟨a1, fun r' s' he => ?_⟩
            obtain ⟨a3, a4⟩ := a2 r' s' he
            refine ⟨hold _ a3, ?_⟩
            show (if _ then _ else _) ≤ (if _ then _ else _) + 1
            rw [if_neg hsn, if_neg (hne s' a3)]; exact a4
          · simp at hf0 ⊢; omega
        obtain ⟨m', q1', dep', o', l', a1, a2, a3, a4, a5, a6⟩ := inner h hf hok ys (fun r hr => hys r (List.mem_cons_of_mem _ hr)) _ (q1 ++ [nx]) _ 0 (l.drop o ++ [(nx : Int)]) hb2 (by rw [hl]; simp)
        refine ⟨m', q1', dep', o', l', a1, a2, a3, by simp at a4; omega, fun s hs => ?_, fun r' hr' s' he => ?_⟩
        · obtain ⟨b1, b2⟩ := a5 s (hold s hs)
          exact ⟨b1, by rw [b2]; exact dold s (hne s hs)⟩
        · rcases List.mem_cons.1 hr' with rfl | hr'
          · rw [he.2.2.2, hnx]; exact (a5 nx hnew).1
          · exact a6 r' hr' s' he

/-- What the search gives. -/
def Res (t : List (List Int)) (c : List Int) (w : Nat) (r : T_api_Rules × Int) : Prop :=
  (∃ L s, r = (⟨L, ch c s⟩, 0) ∧ ok c s = true ∧ Path t c w L s ∧ L.length < 5000 ∧ ∀ k s', Rch t c w k s' → ok c s' = true → L.length ≤ k) ∨ (r = (⟨[], 0⟩, 4) ∧ ∀ k s', Rch t c w k s' → ok c s' = false)
theorem outer (h : Tab t c w) {fuel : Nat} (hf : 6000 ≤ fuel) : ∀ (k : Nat) (m : List (Int × T_rules_step)) (q : List Nat) (dep : Nat → Nat) (o : Nat) (l : List Int), BI t c w m q dep → l.drop o = q.map (fun x : Nat => (x : Int)) → U t.length m + q.length + 1 ≤ k → ∃ r, F19_L1 fuel t c k o l m = some r ∧ Res t c w r
  | 0, _, _, _, _, _, _, _, hk => by omega
  | k + 1, m, q, dep, o, l, hb, hl, hk => by
    have hp := pow_small h
    rw [F19_L1]
    have hlen : ((l.map e_u64).drop o).length = q.length := by
      have : ((l.map e_u64).drop o).length = (l.drop o).length := by simp
      rw [this, hl]; simp
    rw [hlen]
    cases q with
    | nil =>
      rw [show decide ((([] : List Nat).length : Int) > 0) = false from rfl, cond_false]
      refine ⟨_, rfl, .inr ⟨rfl, fun k' s' hr => ?_⟩⟩
      have : mhasF m (s' : Int) = true := by
        induction hr with
        | z => exact hb.a.1
        | @s k2 s2 s3 r2 _ he ih => exact ((hb.e s2 ih (by simp)).2 r2 s3 he).1
      exact (hb.e s' this (by simp)).1
    | cons hd q1 =>
      have hdm : mhasF m (hd : Int) = true := hb.cc hd List.mem_cons_self
      obtain ⟨hdl, L, l1, l2, l3⟩ := hb.b hd hdm
      rw [show decide (((hd :: q1).length : Int) > 0) = true from decide_eq_true (by simp), cond_true]
      have g : geti (l.drop o) 0 = some (hd : Int) := by rw [geti_0, hl]; rfl
      have e2 : F36 fuel t c (hd : Int) = some (oneL hd c 0 0 false) := by
        have := F36_eq h.len (by have := h.n12; have := h.len; omega) (s := hd) (by omega) fuel 0 0 false (by have := h.n12; have := h.len; omega) (by omega)
        exact this
      rw [g, Option.bind_some, e2, Option.bind_some]
      -- all that is nearer is done
      have near : ∀ k' s', Rch t c w k' s' → k' ≤ dep hd → mhasF m (s' : Int) = true ∧ dep s' ≤ k' := fun k' s' hr => by
        induction hr with
        | z => exact fun _ => ⟨hb.a.1, by rw [hb.a.2]; exact Nat.le_refl _⟩
        | @s k2 s2 s3 r2 _ he ih =>
          intro hle
          obtain ⟨i1, i2⟩ := ih (by omega)
          have hnq : s2 ∉ hd :: q1 := fun hm => by
            rcases List.mem_cons.1 hm with rfl | hm
            · omega
            · have := (List.pairwise_cons.1 hb.d).1 s2 hm; omega
          obtain ⟨j1, j2⟩ := (hb.e s2 i1 hnq).2 _ _ he
          exact ⟨j1, by omega⟩
      cases hok : ok c hd with
      | true =>
        have hy : (oneL hd c 0 0 false).2 = true := hok
        rw [hy, cond_true]
        have hd5 : L.length < 5000 := by
          -- the way is short: it is a trace of known sets
          have := hb.f
          exact Nat.lt_of_le_of_lt (Path.len_le h l2) (by have := h.n12; omega)
        have e3 := F37_out (c := c) (e := (oneL hd c 0 0 false).1) (fuel := fuel) (by have := h.n12; omega) l1 (Nat.lt_of_le_of_lt (Path.len_le h l2) (by have := h.n12; omega)) (by omega)
        rw [e3, Option.bind_some]
        refine ⟨_, rfl, .inl ⟨L, hd, rfl, hok, l2, hd5, fun k' s' hr hs' => ?_⟩⟩
        rw [l3]
        cases Nat.lt_or_ge k' (dep hd) with
        | inr hge => exact hge
        | inl hlt =>
          obtain ⟨i1, i2⟩ := near k' s' hr (by omega)
          have hnq : s' ∉ hd :: q1 := fun hm => by
            rcases List.mem_cons.1 hm with rfl | hm
            · omega
            · have := (List.pairwise_cons.1 hb.d).1 s' hm; omega
          rw [(hb.e s' i1 hnq).1] at hs'; cases hs'
      | false =>
        have hy : (oneL hd c 0 0 false).2 = false := hok
        rw [hy, cond_false]
        obtain ⟨ys, f1, f2⟩ := F38_eq (c := c) h.row (fun e => by have := h.n1; rw [e] at this; simp at this) (by have := h.n12; omega) (by have := h.w4; omega) (fuel := fuel) (by omega)
        rw [f1, Option.bind_some]
        obtain ⟨m', q1', dep', o', l', a1, a2, a3, a4, a5, a6⟩ := inner h (fuel := fuel) (by omega) (rc := F19_L1 fuel t c k) hok ys (fun r hr => (f2 r).1 hr) m q1 dep o l hb hl
        rw [a1]
        have hd' := (a5 hd hdm).2
        refine outer h hf k m' q1' dep' o' l' ⟨a3.a, a3.b, fun s hs => a3.cc s (List.mem_cons_of_mem _ hs), (List.pairwise_cons.1 a3.d).2, fun h2 hh2 s hs => ?_, fun s hs hsq => ?_, by have := a3.f; simp at this; omega⟩ a2 (by simp at hk; omega)
        · have h2m : h2 ∈ q1' := by
            cases q1' with
            | nil => simp at hh2
            | cons x y => simp at hh2; subst hh2; exact List.mem_cons_self
          have := a3.d' hd rfl s hs
          have := (List.pairwise_cons.1 a3.d).1 h2 h2m
          omega
        · by_cases e : s = hd
          · subst e
            refine ⟨hok, fun r s' he => ?_⟩
            have h1 := a6 r ((f2 r).2 he.1) s' he
            exact ⟨h1, a3.d' s rfl s' h1⟩
          · exact a3.e s hs (fun hm => (List.mem_cons.1 hm).elim e hsq)
end
end Go.Proofs.Ytljkgnjmigmcgaa
