/- The evaluator is sound: new variables, stores into them, literals, fields, lengths. -/
import Derived.Test.YtilfjfpemjfalaaGreatDoorRe
namespace Go.Proofs.YtilfjfpemjfalaaGreatDoor.Kx
open Go Go.RowKit
section
variable {r : Option Nat} {P : Program} {a : Act} {w wl : World} {S : Hand} {M0 M : Mem} {ρ : Rho} {ob : Nat → Option IObj} {ev : Operand → V} {d : Nat} {ty : TypeId} {op : Op}

theorem valV_rel : ∀ (v : Value), RelV M ρ (valV v) v := by
  intro v
  unfold valV
  split <;> simp only [RelV] <;> first | exact .int _ _ | exact .bool _ | exact .str _ | exact .nilp | exact .nilm | exact .nilf | exact .nili | exact ⟨none, rfl⟩
theorem valVs_rel : ∀ (vs : List Value), RelVs M ρ (valVs vs) vs
  | [] => by simp [valVs, RelVs]
  | v :: vs => by simp only [valVs, RelVs]; exact ⟨v, vs, rfl, valV_rel v, valVs_rel vs⟩
theorem typed_rel {t : TypeId} {v : V} {u : Value} (h : RelV M ρ v u) : RelV M ρ (typed P t v) u := by
  unfold typed
  split
  · simp only [RelV] at h ⊢; exact h
  · exact h
theorem typeds_rel : ∀ {ts : List TypeId} {vs : List V} {us : List Value}, RelVs M ρ vs us → RelVs M ρ (typeds P ts vs) us
  | [], _, _, h => h
  | _ :: _, [], _, h => h
  | t :: ts, v :: vs, us, h => by
    simp only [RelVs] at h
    obtain ⟨u, us', rfl, h1, h2⟩ := h
    simp only [typeds, RelVs]
    exact ⟨u, us', rfl, typed_rel h1, typeds_rel h2⟩
theorem zeroV_spec {t : TypeId} {zs : List V} (h : zeroV P t = some zs) : ∃ vs, zeroT P t = some vs ∧ (∀ (M : Mem) (ρ : Rho), RelVs M ρ zs vs) ∧ allC zs = true := by
  unfold zeroV at h
  split at h
  · rename_i vs hz
    dsimp only at h
    split at h
    · rename_i ha; cases h; exact ⟨vs, hz, fun _ _ => typeds_rel (valVs_rel vs), ha⟩
    · cases h
  · cases h

def infB (b : Nat) : Inf := ⟨b, 0, 0, 0, 0, 0, true⟩
theorem new_box (h : Ow S wl M0 M ρ ob w) (hd : ob d = none) {cs : List V} {us : List Value} (t : TypeId) (hr : RelVs M ρ cs us) (h1 : ∀ u ∈ us, u.oneCell' = true) :
    ∃ ρ', Rle M M ρ ρ' ∧ Ow S wl M0 M ρ' (updO ob d (.box t cs)) (w.alloc (.cells us.toArray t)) ∧ RelV M ρ' (.ptr d 0) (.pointer (some ⟨w.heap.size, 0, none⟩)) := by
  obtain ⟨h2, h3⟩ := h.alloc hd (.cells us.toArray t) (infB w.heap.size) (.box t cs) rfl (fun ρ' hle hM => ⟨rfl, ⟨.inr h.size, hM⟩, us, t, World.alloc_heap_new w _, RelVs.mono hle _ hr, h1, rfl⟩)
  exact ⟨_, h2, h3, by simp only [RelV]; exact ⟨infB w.heap.size, updO_same _ _ _, rfl, rfl⟩⟩

theorem eff_allocOp {t : TypeId} (h : Ow S wl M0 M ρ ob w) : (evOp P ob d ty ev (.alloc t)).Good (EffV r P a (.alloc t) S wl M0 M ρ ob w) := by
  simp only [evOp]
  split
  · rename_i zs hz hd
    obtain ⟨vs, hv, hzr, ha⟩ := zeroV_spec hz
    obtain ⟨v, hv, hc⟩ := run_zeroT (w := w) hv
    obtain ⟨ρ', h1, h2, h3⟩ := new_box (M0 := M0) h hd t (hzr _ _) (allC_one ha (hzr M ρ))
    refine Eff.of_run (v := .pointer (some ⟨w.heap.size, 0, none⟩)) (w' := w.alloc (.cells vs.toArray t)) ?_ rfl ⟨M, ρ', h1, h2, h3⟩
    intro d ty pos aft g
    simp [execOp, Instr.alloc, newVar, newRow, hv, hc]
  · trivial
theorem eff_boxOp {t : TypeId} {x : Operand} (h : Ow S wl M0 M ρ ob w) (hev : ∀ x, RelV M ρ (ev x) (a.eval x)) : (evOp P ob d ty ev (.box t x)).Good (EffV r P a (.box t x) S wl M0 M ρ ob w) := by
  simp only [evOp]
  split
  · rename_i cs hc hd
    obtain ⟨us, h1, h2, h3⟩ := cellsV_rel hc (hev x)
    obtain ⟨ρ', h4, h5, h6⟩ := new_box (M0 := M0) h hd t h2 h3
    refine Eff.of_run (v := .pointer (some ⟨w.heap.size, 0, none⟩)) (w' := w.alloc (.cells us.toArray t)) ?_ rfl ⟨M, ρ', h4, h5, h6⟩
    intro d ty pos aft g
    simp [execOp, Instr.box, newVar, newRow, h1]
  · trivial

theorem setV_rel {cs xs : List V} {us vs : List Value} {k : Nat} (h : RelVs M ρ cs us) (h' : RelVs M ρ xs vs) : RelVs M ρ (setV cs k xs) (setAt us k vs) := by
  unfold setV setAt
  rw [h'.len]
  exact ((h.take k).append h').append (h.drop _)
theorem setAt_one {us vs : List Value} {k : Nat} (h : ∀ u ∈ us, u.oneCell' = true) (h' : ∀ u ∈ vs, u.oneCell' = true) : ∀ u ∈ setAt us k vs, u.oneCell' = true := by
  intro u hu
  unfold setAt at hu
  rcases List.mem_append.1 hu with hu | hu
  · rcases List.mem_append.1 hu with hu | hu
    · exact h u (List.mem_of_mem_take hu)
    · exact h' u hu
  · exact h u (List.mem_of_mem_drop hu)
theorem relV_undef (u : Value) : RelV M ρ .undef u := by simp only [RelV]
theorem store_box {te t : TypeId} {x y : Operand} (h : Ow S wl M0 M ρ ob w) {n : Nat} (hs : sizeT P t = some n) {rr k : Nat} {cs us : List V} {v : V} (hx : RelV M ρ (.ptr rr k) (a.eval x)) (hy : RelV M ρ v (a.eval y)) (hv : cellsV v = some us) (hr : ob rr = some (.box te cs)) (hn : us.length = n) (hl : k + n ≤ cs.length) :
    EffV r P a (.store t x y) S wl M0 M ρ ob w .undef [(rr, .box te (setV cs k us))] := by
  obtain ⟨i, hi, hf, hp⟩ := relV_ptr hx
  obtain ⟨i', hi', hb⟩ := h.own rr _ hr
  rw [hi] at hi'; cases hi'
  obtain ⟨_, hm, vs, e, hw, hrel, h1, het⟩ := hb
  obtain ⟨xs, hc, hrx, hx1⟩ := cellsV_rel hv hy
  have l1 := hrel.len; have l2 := hrx.len
  have hst := run_storeVar_at (P := P) (k := k) hw hc (by rw [l2, hn]; exact hs) hx1 (by simp; omega)
  obtain ⟨h2, h3⟩ := h.turn hr hi (w' := w.setRow i.b (setAt vs k xs).toArray) i (.box te (setV cs k us)) (fun q _ hq => setRow_other w i.b q _ (hq trivial)) (by simp) rfl rfl rfl (fun _ c hc => by rw [hm.2] at hc; cases hc) ⟨Nat.le_refl _, fun _ => rfl, fun _ => rfl⟩ (fun _ => .inl ⟨trivial, rfl⟩)
    (fun ρ' hle _ => ⟨hf, hm, setAt vs k xs, e, setRow_heap w i.b _ _ e _ hw, setV_rel (RelVs.mono hle _ hrel) (RelVs.mono hle _ hrx), setAt_one h1 hx1, het⟩)
  refine Eff.of_runU (w' := w.setRow i.b (setAt vs k xs).toArray) ?_ rfl ⟨M, _, h2, h3, relV_undef _⟩
  intro d ty pos aft g
  simp [execOp, Instr.storeAt, Instr.sureAddr, hp, hst]

/-! ### Literals -/
theorem setAt_cons {cells us : List Value} {off : Nat} {u : Value} (h : off < cells.length) : setAt cells off (u :: us) = setAt (cells.set off u) (off + 1) us := by
  obtain ⟨xs, y, zs, rfl, hx⟩ : ∃ xs y zs, cells = xs ++ y :: zs ∧ xs.length = off :=
    ⟨cells.take off, cells[off], cells.drop (off + 1), by rw [List.getElem_cons_drop, List.take_append_drop], by simp; omega⟩
  subst hx
  have e1 : (xs ++ y :: zs).set xs.length u = xs ++ u :: zs := by simp
  have e2 : xs.length + 1 = (xs ++ [u]).length := by simp
  have e3 : xs ++ u :: zs = (xs ++ [u]) ++ zs := by simp
  rw [e1, e3, e2]
  unfold setAt
  rw [List.take_left, List.take_left, ← List.drop_drop, ← List.drop_drop, List.drop_left, List.drop_left]
  simp
theorem foldl_setAt : ∀ (us : List Value) (off : Nat) (cells : List Value) (q : Nat), off + q + us.length ≤ cells.length →
    ((us.zipIdx q).foldl (fun (cs : Array Value) (p : Value × Nat) => cs.setIfInBounds (off + p.2) p.1) cells.toArray) = (setAt cells (off + q) us).toArray
  | [], off, cells, q, _ => by simp [setAt]
  | u :: us, off, cells, q, h => by
    simp only [List.zipIdx_cons, List.foldl_cons]
    simp only [List.length_cons] at h
    rw [List.setIfInBounds_toArray, foldl_setAt us off (cells.set (off + q) u) (q + 1) (by simp; omega), setAt_cons (by omega)]
    rfl
theorem fill_step {pl : Nat → Option (Nat × Nat)} {cells us : List Value} {i off : Nat} {v : Value} {rest : List (Nat × Value)} (hp : pl i = some (off, us.length)) (hv : v.cells = us.toArray) (hl : off + us.length ≤ cells.length) :
    Instr.fill pl cells.toArray ((i, v) :: rest) = Instr.fill pl (setAt cells off us).toArray rest := by
  have h2 := foldl_setAt us off cells 0 (by omega)
  simp only [Nat.add_zero] at h2
  have h1 : ¬ (us.length ≠ us.length ∨ off + us.length > cells.length) := by omega
  simp only [Instr.fill, hp, hv, List.size_toArray]
  rw [if_neg (by simpa using hl)]
  congr 1
  rw [← h2]
  simp
def RelP (M : Mem) (ρ : Rho) : List (Nat × V) → List (Nat × Value) → Prop
  | [], ps => ps = []
  | (i, v) :: l, ps => ∃ u ps', ps = (i, u) :: ps' ∧ RelV M ρ v u ∧ RelP M ρ l ps'
theorem evParts_rel (hev : ∀ x, RelV M ρ (ev x) (a.eval x)) : ∀ (ps : List (Nat × Operand)), RelP M ρ (evParts ev ps) (ps.map fun p => (p.1, a.eval p.2))
  | [] => by simp [evParts, RelP]
  | (i, x) :: ps => by simp only [evParts, RelP, List.map_cons]; exact ⟨_, _, rfl, hev x, evParts_rel hev ps⟩
theorem evBuild_fill {pl : Nat → Option (Nat × Nat)} : ∀ {ps : List (Nat × V)} {qs : List (Nat × Value)} {cs cs' : List V} {us : List Value}, RelP M ρ ps qs → RelVs M ρ cs us → evBuild pl cs ps = some cs' → ∃ us', Instr.fill pl us.toArray qs = some us'.toArray ∧ RelVs M ρ cs' us'
  | [], qs, cs, cs', us, hp, hc, he => by
    simp only [RelP] at hp
    subst hp
    simp only [evBuild, Option.some.injEq] at he
    subst he
    exact ⟨us, rfl, hc⟩
  | (i, v) :: ps, qs, cs, cs', us, hp, hc, he => by
    simp only [RelP] at hp
    obtain ⟨u, qs', rfl, hv, hp⟩ := hp
    unfold evBuild at he
    split at he
    · rename_i off n xs h1 h2
      split at he
      · rename_i h3 h4
        obtain ⟨ys, h5, h6, _⟩ := cellsV_rel h2 hv
        have e3 := Nat.eq_of_beq_eq_true h3
        have e4 := nb_le h4
        have l1 := hc.len; have l2 := h6.len
        rw [fill_step (off := off) (us := ys) (by rw [h1, l2, e3]) h5 (by omega)]
        exact evBuild_fill hp (setV_rel hc h6) he
      · cases he
    · cases he
theorem eff_build {t : TypeId} {ps : Array (Nat × Operand)} (h : Ow S wl M0 M ρ ob w) (hev : ∀ x, RelV M ρ (ev x) (a.eval x)) : (evOp P ob d ty ev (.build t ps)).Good (EffV r P a (.build t ps) S wl M0 M ρ ob w) := by
  simp only [evOp]
  split
  · rename_i zs pl hz hpl
    split
    · rename_i cs hcs
      obtain ⟨vs, hv, hzr, ha⟩ := zeroV_spec hz
      obtain ⟨us, h1, h2⟩ := evBuild_fill (evParts_rel hev ps.toList) (hzr _ _) hcs
      unfold zeroT at hv
      cases hi : P.info? t with
      | none => rw [hi] at hv; cases hv
      | some it =>
        rw [hi] at hv
        cases hzz : it.zero with
        | none => simp [hzz] at hv
        | some z =>
          simp [hzz] at hv
          have hb : P.built t (ps.toList.map fun p => (p.1, a.eval p.2)) = some us.toArray := by
            unfold Program.built
            unfold placeT at hpl
            rw [hi]
            have hz' : z.cells = vs.toArray := by rw [← hv]
            split at hpl
            · rename_i fs hu
              split at hpl
              · rename_i q hq; cases hpl
                simp only [hu, hzz, hq, hz']
                exact h1
              · cases hpl
            · rename_i m e hu
              split at hpl
              · rename_i ie hie; cases hpl
                simp only [hu, hzz, hie, hz']
                exact h1
              · cases hpl
            · cases hpl
          have hr := run_build (P := P) w t (ps.map fun (i, x) => (i, a.eval x)) us.toArray (by rw [Array.toList_map]; exact hb)
          refine EffV.val h (u := .agg us.toArray) ?_ rfl (mk_agg h2)
          intro d ty pos aft g
          simp [execOp, hr]
    · trivial
  · trivial

/-! ### Fields, lengths -/
theorem eff_field {t : TypeId} {x : Operand} {i : Nat} (h : Ow S wl M0 M ρ ob w) (hev : ∀ x, RelV M ρ (ev x) (a.eval x)) : (evOp P ob d ty ev (.field t x i)).Good (EffV r P a (.field t x i) S wl M0 M ρ ob w) := by
  simp only [evOp]
  have hx := hev x
  generalize ev x = vx at *
  split
  · rename_i cs fs hu
    split
    · rename_i f hf
      split
      · rename_i n ag hz
        split
        · rename_i hl
          obtain ⟨us, he, hr⟩ := relV_agg hx
          obtain ⟨hs, ha, h1⟩ := szT_spec hz
          have hl := nb_le hl; have l1 := hr.len
          have hu' : ((us.drop f.offset).take n).length = n := take_len (by omega)
          refine EffV.val h (run_field (cs := us) (vs := (us.drop f.offset).take n) he hu hf rfl rfl ha (by rw [hu']; exact hs) (fun e => by rw [hu']; exact h1 e) (fun j hj => ?_)) rfl (mkV_rel (n := n) ((hr.drop _).take n) (fun e => by rw [hu']; exact h1 e))
          rw [List.getElem?_take_of_lt (by omega), List.getElem?_drop]
        · trivial
      · trivial
    · trivial
  · trivial
theorem eff_fieldAddr {t : TypeId} {x : Operand} {i : Nat} (h : Ow S wl M0 M ρ ob w) (hev : ∀ x, RelV M ρ (ev x) (a.eval x)) : (evOp P ob d ty ev (.fieldAddr t x i)).Good (EffV r P a (.fieldAddr t x i) S wl M0 M ρ ob w) := by
  simp only [evOp]
  have hx := hev x
  generalize ev x = vx at *
  split
  · rename_i rr k off hf
    obtain ⟨j, h1, h2, h3⟩ := relV_ptr hx
    exact EffV.val h (run_fieldAddr h3 hf rfl) rfl (by simp only [RelV]; exact ⟨j, h1, h2, rfl⟩)
  · rename_i cs k off hf
    obtain ⟨b, o, us, h1, h2, h3⟩ := relV_rp hx
    exact EffV.val h (run_fieldAddr h1 hf (Nat.add_assoc _ _ _)) rfl (by simp only [RelV]; exact ⟨b, o, us, rfl, h2, h3⟩)
  · rename_i rr g j k off hf
    split
    · rename_i g' e sz es hr
      split
      · rename_i hg
        obtain rfl := Nat.eq_of_beq_eq_true hg
        simp only [RelV] at hx
        obtain ⟨i', h1, h2, h3, h4⟩ := hx
        obtain ⟨h5, h6⟩ := h4 (h.buf_heap hr h1).2.1.symm
        exact EffV.val h (run_fieldAddr h6 hf (Nat.add_assoc _ _ _)) rfl (by simp only [RelV]; exact ⟨i', h1, h2, rfl, fun _ => ⟨h5, rfl⟩⟩)
      · trivial
    · trivial
  · trivial

theorem eff_nilCheck {x : Operand} (h : Ow S wl M0 M ρ ob w) (hev : ∀ x, RelV M ρ (ev x) (a.eval x)) : (evOp P ob d ty ev (.nilCheck x)).Good (EffV r P a (.nilCheck x) S wl M0 M ρ ob w) := by
  simp only [evOp]
  have hx := hev x
  split
  · rename_i r' k hb
    rw [hb] at hx
    obtain ⟨i, h1, h2, h3⟩ := relV_ptr hx
    exact EffV.val h (run_nilCheck h3) rfl (by rw [← h3]; exact hx)
  · rename_i cs k hb
    rw [hb] at hx
    obtain ⟨b, o, us, h3, _⟩ := relV_rp hx
    exact EffV.val h (run_nilCheck h3) rfl (by rw [← h3]; exact hx)
  · rename_i cs hb
    rw [hb] at hx
    have hx := relV_d hx
    cases hu : a.eval x <;> rw [hu] at hx <;> cases hx
    rename_i b o us hc hl hr
    exact EffV.val h (run_nilCheck hu) rfl (by simp only [RelV]; exact ⟨b, o, us, rfl, hc, RelDs.of_get hl hr⟩)
  · rename_i rr g j k hb
    rw [hb] at hx
    split
    · rename_i g' e sz es hr
      split
      · rename_i hg
        obtain rfl := Nat.eq_of_beq_eq_true hg
        simp only [RelV] at hx
        obtain ⟨i', h1, h2, h3, h4⟩ := hx
        obtain ⟨h5, h6⟩ := h4 (h.buf_heap hr h1).2.1.symm
        exact EffV.val h (run_nilCheck h6) rfl (by simp only [RelV]; exact ⟨i', h1, h2, rfl, fun _ => ⟨h5, rfl⟩⟩)
      · trivial
    · trivial
  · trivial

theorem eff_minOp {c : Call} {m n : Int} {k : IntKind} (h : Ow S wl M0 M ρ ob w) {mx : Bool} (hc : c.callee = .builtin (match mx with | true => .max | false => .min)) (hev : ∀ x, RelV M ρ (ev x) (a.eval x)) (he : evsV ev c.args.toList = [.d (.int k m), .d (.int k n)]) :
    EffV r P a (.call c) S wl M0 M ρ ob w (.d (.int k (bif (match mx with | true => decide (n > m) | false => decide (n < m)) then n else m))) [] := by
  have hr := evsV_rel (xs := c.args.toList) hev
  rw [he] at hr
  simp only [RelVs] at hr
  obtain ⟨u, us, e1, h1, u2, us2, e2, h2, e3⟩ := hr
  obtain rfl := relV_int h1
  obtain rfl := relV_int h2
  subst e3; subst e2
  have e4 : c.args.map a.eval = #[.int k m, .int k n] := by
    apply Array.ext'
    rw [Array.toList_map, e1]
  refine EffV.val h (u := .int k (bif (match mx with | true => decide (n > m) | false => decide (n < m)) then n else m)) ?_ rfl mk_int
  intro d ty pos aft g
  cases mx with
  | true =>
    dsimp only at hc ⊢
    simp only [execOp, resolve, hc, e4]
    by_cases hn : n > m <;> simp [invoke, builtin, Builtin.max_, Builtin.max2, hn]
  | false =>
    dsimp only at hc ⊢
    simp only [execOp, resolve, hc, e4]
    by_cases hn : n < m <;> simp [invoke, builtin, Builtin.min_, Builtin.min2, hn]
end
end Go.Proofs.YtilfjfpemjfalaaGreatDoor.Kx
