/- The evaluator is sound: make, literals of slices, stores into elements, indices of values; all operations. -/
import Derived.Test.YtilfjfpemjfalaaGreatDoorRj
namespace Go.Proofs.YtilfjfpemjfalaaGreatDoor.Kx
open Go Go.RowKit
section
variable {r : Option Nat} {P : Program} {a : Act} {w wl : World} {S : Hand} {M0 M : Mem} {ρ : Rho} {ob : Nat → Option IObj} {ev : Operand → V} {d : Nat} {ty : TypeId} {op : Op}

/-- A new buffer, just as long as its elements. -/
theorem new_buf (h : Ow S wl M0 M ρ ob w) (hd : ob d = none) {n tot : Nat} {e : TypeId} {us sp : List Value} {es : List (List Dat)} (hr : rL (rDs n) M us es) (hl : (us ++ sp).length = tot * n) (ht : es.length ≤ tot) (hmax : tot ≤ maxLen) :
    ∃ ρ', Rle M M ρ ρ' ∧ Ow S wl M0 M ρ' (updO ob d (.buf 0 e n es)) (w.alloc (.cells (us ++ sp).toArray e)) ∧ RelV M ρ' (.suf d 0 0) (.slice (some ⟨w.heap.size, 0, none⟩) es.length tot) := by
  obtain ⟨h2, h3⟩ := h.alloc hd (.cells (us ++ sp).toArray e) ⟨w.heap.size, 0, tot, n, es.length, 0, false⟩ (.buf 0 e n es) rfl (fun ρ' _ hM => ⟨rfl, rfl, rfl, rfl, ht, hmax, fun _ => ⟨⟨.inr h.size, fun _ => hM, fun c hc => by rw [show M w.heap.size = none from hM] at hc; cases hc⟩, [], us, sp, World.alloc_heap_new w _, by simp, hl, hr⟩⟩)
  refine ⟨_, h2, h3, ?_⟩
  have := mk_suf (M := M) (p := some ⟨w.heap.size, 0, none⟩) (off := 0) (updO_same ρ d ⟨w.heap.size, 0, tot, n, es.length, 0, false⟩) rfl (Nat.zero_le _) (fun _ => by simp)
  simpa using this

theorem datsOf_len : ∀ {vs : List V} {ob : Nat → Option IObj} {xs : List Dat} {wr : Wr}, datsOf ob vs = some (xs, wr) → xs.length = vs.length
  | [], _, _, _, h => by simp only [datsOf, Option.some.injEq, Prod.mk.injEq] at h; obtain ⟨rfl, _⟩ := h; rfl
  | v :: vs, ob, xs, wr, h => by
    unfold datsOf at h
    split at h
    · split at h
      · rename_i hs; cases h; simp [datsOf_len hs]
      · cases h
    · cases h
theorem replicate_rel {n : Nat} {z : List Dat} {zs : List Value} (hz : z.length = n) (hr : RelDs M z zs) : ∀ k, rL (rDs n) M (List.replicate k zs).flatten (List.replicate k z)
  | 0 => rL_nil
  | k + 1 => ⟨zs, _, by simp [List.replicate_succ], ⟨hz, hr⟩, replicate_rel hz hr k⟩
theorem madeCells_flat {zs : List Value} {n : Nat} (hz : zs.length = n) : ∀ k, (madeCells zs.toArray (k * n)).toList = (List.replicate k zs).flatten := by
  intro k
  apply List.ext_getElem?
  intro j
  have hlen : ((List.replicate k zs).flatten).length = k * n := by rw [List.length_flatten, List.map_replicate, hz, List.sum_replicate_nat]
  have hl2 : (madeCells zs.toArray (k * n)).toList.length = k * n := by rw [Array.length_toList, size_madeCells]
  by_cases hj : j < k * n
  · have hn : 0 < n := by rcases Nat.eq_zero_or_pos n with h | h; · subst h; simp at hj
                          · exact h
    have hm : j % n < n := Nat.mod_lt _ hn
    rw [List.getElem?_eq_getElem (by rw [hl2]; exact hj)]
    have h1 : (madeCells zs.toArray (k * n)).toList[j]'(by rw [hl2]; exact hj) = zs[j % n]'(by omega) := by
      simp only [madeCells, Array.getElem_toList, Array.getElem_map, Array.getElem_range, List.size_toArray, hz]
      rw [getElem!_pos _ _ (by simp; omega)]
      simp
    rw [h1]
    have : ∀ (k j : Nat), j < k * n → ((List.replicate k zs).flatten)[j]? = some (zs[j % n]'(by rw [hz]; exact Nat.mod_lt _ hn)) := by
      intro k
      induction k with
      | zero => intro j hj; simp at hj
      | succ k ih =>
        intro j hj
        rw [List.replicate_succ, List.flatten_cons]
        by_cases hjn : j < n
        · rw [List.getElem?_append_left (by omega), List.getElem?_eq_getElem (by omega)]
          simp only [Nat.mod_eq_of_lt hjn]
        · rw [List.getElem?_append_right (by omega)]
          have e9 := ih (j - n) (by rw [Nat.add_mul] at hj; omega)
          have e8 : (j - n) % n = j % n := (Nat.mod_eq_sub_mod (Nat.le_of_not_lt hjn)).symm
          have e7 : j - zs.length = j - n := by omega
          rw [e7, e9]
          simp only [e8]
    rw [this k j hj]
  · rw [List.getElem?_eq_none (by omega), List.getElem?_eq_none (by omega)]

theorem mk2_some {l c : Int} {z : List Dat} {es : List (List Dat)} (h : mk2 l c z = some es) : 0 ≤ l ∧ l ≤ c ∧ c ≤ 2147483648 ∧ es = List.replicate l.toNat z := by
  unfold mk2 at h
  cases hb : (decide (0 ≤ l) && decide (l ≤ c) && decide (c ≤ 2147483648)) with
  | true =>
    rw [hb] at h
    cases h
    simp only [Bool.and_eq_true, decide_eq_true_eq] at hb
    exact ⟨hb.1.1, hb.1.2, hb.2, rfl⟩
  | false => rw [hb] at h; cases h
theorem eff_make {t : TypeId} {l c : Operand} (h : Ow S wl M0 M ρ ob w) (hev : ∀ x, RelV M ρ (ev x) (a.eval x)) : (evOp P ob d ty ev (.makeSlice t l c)).Good (EffV r P a (.makeSlice t l c) S wl M0 M ρ ob w) := by
  simp only [evOp]
  have hl := hev l
  have hc := hev c
  generalize ev l = vl at *
  generalize ev c = vc at *
  unfold evMake
  split
  · rename_i e l' c' he hl' hc'
    obtain ⟨kl, hkl⟩ := iv_spec hl' hl
    obtain ⟨kc, hkc⟩ := iv_spec hc' hc
    have ht := elemT_spec he
    split
    · rename_i n by_ zs hsz hby hzv
      split
      · rename_i z hds h2 h3 h4 hd
        have h2 := Nat.eq_of_beq_eq_true h2; have h3 := nb_le h3; have h4 := nb_le h4
        intro es hes
        obtain ⟨hb0, hb1, hb2, rfl⟩ := mk2_some hes
        obtain ⟨vs, hzt, hzr, _⟩ := zeroV_spec hzv
        obtain ⟨i, hi, hsize, hbytes, z', hz, hzc⟩ := info_of hsz hby hzt
        subst hsize; subst hbytes
        obtain ⟨M1, r1, o1, d1⟩ := datsOf_sound h (hzr M ρ) hds
        have hvl : vs.length = i.size := by rw [(hzr M ρ).len, h2]
        have hzl : z.length = i.size := by rw [datsOf_len hds, h2]
        have hzz : z'.cells = vs.toArray := by rw [← hzc]
        have hbb : (i.bytes : Int) * c' ≤ 281474976710656 := by
          have h5 : i.bytes * c'.toNat ≤ 4096 * 2147483648 := Nat.mul_le_mul h4 (by omega)
          have h6 : ((i.bytes * c'.toNat : Nat) : Int) = (i.bytes : Int) * c' := by rw [Int.natCast_mul]; congr 1; omega
          omega
        have hr := run_make (P := P) w t e i z' ht hi hz kl kc l' c' hb0 hb1 hbb (by omega)
        have hflat : (madeCells vs.toArray (c'.toNat * i.size)) = ((List.replicate l'.toNat vs).flatten ++ (List.replicate (c'.toNat - l'.toNat) vs).flatten).toArray := by
          apply Array.ext'
          rw [madeCells_flat hvl, ← List.flatten_append, List.replicate_append_replicate]
          congr 2
          omega
        rw [hzz, hflat] at hr
        obtain ⟨ρ', h5, h6, h7⟩ := new_buf o1 (tot := c'.toNat) (e := e) hd (replicate_rel hzl d1 l'.toNat) (sp := (List.replicate (c'.toNat - l'.toNat) vs).flatten) (by
          rw [← List.flatten_append, List.replicate_append_replicate, List.length_flatten, List.map_replicate, List.sum_replicate_nat, hvl]
          congr 1; omega) (by rw [List.length_replicate]; omega) (by unfold maxLen; omega)
        rw [List.length_replicate] at h7
        refine Eff.of_run (v := .slice (some ⟨w.heap.size, 0, none⟩) l'.toNat c'.toNat) (w' := w.alloc (.cells ((List.replicate l'.toNat vs).flatten ++ (List.replicate (c'.toNat - l'.toNat) vs).flatten).toArray e)) ?_ rfl ⟨M1, ρ', r1.trans h5, h6, h7⟩
        intro d ty pos aft g
        simp [execOp, hkl, hkc, hr]
      · trivial
    · trivial
  · trivial

/-! ### A literal of a slice -/
theorem RelP.mono {M' : Mem} (r1 : Rle M M' ρ ρ) : ∀ {ps : List (Nat × V)} {qs : List (Nat × Value)}, RelP M ρ ps qs → RelP M' ρ ps qs
  | [], _, h => h
  | (j, v) :: ps, qs, h => by
    simp only [RelP] at h ⊢
    obtain ⟨u, q2, rfl, h1, h2⟩ := h
    exact ⟨u, q2, rfl, RelV.mono r1 _ h1, RelP.mono r1 h2⟩
/-- A new block that nobody looks at. -/
theorem Ow.garbage (h : Ow S wl M0 M ρ ob w) (o : Obj) : Ow S wl M0 M ρ ob (w.alloc o) := by
  have old : ∀ b, b < w.heap.size → (w.alloc o).heap[b]? = w.heap[b]? := fun b hb => Below.heap_alloc _ _ _ hb
  have hsz : (w.alloc o).heap.size = w.heap.size + 1 := by simp
  refine ⟨by rw [hsz]; have := h.size; omega, h.os, h.tape, h.output, fun k hk hS => by rw [old k (by have := h.size; omega)]; exact h.old k hk hS, fun b c hc => by rw [old b (h.sits.lt hc)]; exact h.sits b c hc, h.le, h.gl, h.new, ?_, h.dom, h.inj, h.held⟩
  intro r y hy
  obtain ⟨j, h1, h2⟩ := h.own r y hy
  exact ⟨j, h1, h2.mono (Rle.refl _ _) (fun _ => rfl) (fun hl => old _ (live_mine h2 hl).2)⟩
theorem ptD_sound {m : Nat} (h : Ow S wl M0 M ρ ob w) {v : V} {u : Value} {x : Dat} {wr : Wr} (hv : RelV M ρ v u) (hd : ptD m ob v = some (x, wr)) : ∃ M', Rle M M' ρ ρ ∧ Ow S wl M0 M' ρ (wrO ob wr) w ∧ RelD M' x u := by
  unfold ptD at hd
  split at hd
  · rename_i cs k wr1 ha
    split at hd
    · rename_i hb
      cases hd
      have hl := nb_le hb
      obtain ⟨M', r1, o1, h1⟩ := argC_sound h hv ha
      obtain ⟨b, o, us, rfl, ⟨c, hc, hcc⟩, hr⟩ := relV_rp (h1 ρ)
      refine ⟨M', r1, o1, .pt _ b (o + k) ((us.drop k).take m) ⟨c, hc, fun j hj => ?_⟩ ?_ ?_⟩
      · simp only [List.length_take, List.length_drop] at hj
        rw [List.getElem?_take_of_lt (by omega), List.getElem?_drop, Nat.add_assoc]
        exact hcc (k + j) (by omega)
      · exact ((hr.drop k).take m).len
      · exact fun j c u h2 h3 => ((hr.drop k).take m).get h2 h3
    · cases hd
  · cases hd
theorem elsOf_sound {m : Nat} (h : Ow S wl M0 M ρ ob w) {vs : List V} {us : List Value} {xs : List Dat} {wr : Wr} (hv : RelVs M ρ vs us) (hd : elsOf m ob vs = some (xs, wr)) : ∃ M', Rle M M' ρ ρ ∧ Ow S wl M0 M' ρ (wrO ob wr) w ∧ RelDs M' xs us := by
  unfold elsOf at hd
  split at hd
  · exact datsOf_sound h hv hd
  · split at hd
    · rename_i u
      split at hd
      · rename_i x wr1 hx
        cases hd
        simp only [RelVs] at hv
        obtain ⟨u', us', rfl, h1, rfl⟩ := hv
        obtain ⟨M', r1, o1, h2⟩ := ptD_sound h h1 hx
        exact ⟨M', r1, o1, u', [], rfl, h2, rfl⟩
      · exact datsOf_sound h hv hd
    · exact datsOf_sound h hv hd
theorem litEls_sound {m n : Nat} : ∀ {ps : List (Nat × V)} {qs : List (Nat × Value)} {ob : Nat → Option IObj} {M : Mem} {i : Nat} {es : List (List Dat)} {wr : Wr} (_h : Ow S wl M0 M ρ ob w), RelP M ρ ps qs → litEls P m ob n i ps = some (es, wr) →
    ∃ M', Rle M M' ρ ρ ∧ Ow S wl M0 M' ρ (wrO ob wr) w ∧ es.length = ps.length ∧ ∃ us, rL (rDs n) M' us es ∧ (∀ cells : List Value, (i + ps.length) * n ≤ cells.length → Instr.fill (fun i => some (i * n, n)) cells.toArray qs = some (setAt cells (i * n) us).toArray)
  | [], qs, ob, M, i, es, wr, h, hp, he => by
    simp only [litEls, Option.some.injEq, Prod.mk.injEq] at he
    obtain ⟨rfl, rfl⟩ := he
    simp only [RelP] at hp
    subst hp
    exact ⟨M, Rle.refl _ _, h, rfl, [], rL_nil, fun cells _ => by simp [Instr.fill, setAt]⟩
  | (j, v) :: ps, qs, ob, M, i, es, wr, h, hp, he => by
    simp only [RelP] at hp
    obtain ⟨u, qs', rfl, hv, hp⟩ := hp
    unfold litEls at he
    split at he
    · rename_i us hij hus
      obtain rfl := Nat.eq_of_beq_eq_true hij
      split at he
      · rename_i xs wr1 hds
        split at he
        · rename_i hxl
          have hxl := Nat.eq_of_beq_eq_true hxl
          split at he
          · rename_i es' wr2 hlit
            cases he
            obtain ⟨ws, hc, hrw, _⟩ := cellsV_rel hus hv
            obtain ⟨M1, r1, o1, d1⟩ := elsOf_sound h hrw hds
            have hp1 := RelP.mono r1 hp
            obtain ⟨M2, r2, o2, l2, vs, hr2, hf⟩ := litEls_sound o1 hp1 hlit
            have hwl : ws.length = n := by rw [d1.len, hxl]
            refine ⟨M2, r1.trans r2, by rw [wrO_append]; exact o2, by simp [l2], ws ++ vs, ⟨ws, vs, rfl, ⟨hxl, d1.mono r2.le⟩, hr2⟩, fun cells hcl => ?_⟩
            simp only [List.length_cons] at hcl
            have e0 : (i + (ps.length + 1)) * n = i * n + n + ps.length * n := by rw [Nat.add_mul, Nat.add_mul]; omega
            have e3 : (i + 1 + ps.length) * n = i * n + n + ps.length * n := by rw [Nat.add_mul, Nat.add_mul]; omega
            rw [fill_step (off := i * n) (us := ws) (by rw [hwl]) hc (by rw [e0] at hcl; omega), hf _ (by rw [setAt_length _ _ _ (by rw [hwl]; rw [e0] at hcl; omega), e3]; rw [e0] at hcl; exact hcl)]
            congr 2
            rw [e0] at hcl
            unfold setAt
            have e1 : (i + 1) * n = (cells.take (i * n) ++ ws).length := by rw [List.length_append, List.length_take, hwl, Nat.add_mul]; omega
            rw [e1, List.take_left, ← List.drop_drop, List.drop_left, List.drop_drop, List.length_append]
            simp only [List.append_assoc, Nat.add_assoc]
          · cases he
        · cases he
      · cases he
    · cases he
theorem eff_buildSlice {t : TypeId} {n : Nat} {ps : Array (Nat × Operand)} (h : Ow S wl M0 M ρ ob w) (hev : ∀ x, RelV M ρ (ev x) (a.eval x)) : (evOp P ob d ty ev (.buildSlice t n ps)).Good (EffV r P a (.buildSlice t n ps) S wl M0 M ρ ob w) := by
  simp only [evOp]
  split
  · rename_i e he
    have ht := elemT_spec he
    split
    · rename_i sz zs hsz hzt
      split
      · rename_i es wr hlit hn h1 h2 h3
        have hn := Nat.eq_of_beq_eq_true hn; have h1 := nb_le h1; have h2 := nb_le h2; have h3 := Nat.eq_of_beq_eq_true h3
        obtain ⟨M1, r1, o1, l1, us, hr, hf⟩ := litEls_sound h (evParts_rel (ev := fun x => typed P e (ev x)) (fun x => typed_rel (hev x)) ps.toList) hlit
        have hpl : (evParts (fun x => typed P e (ev x)) ps.toList).length = n := by
          rw [← hn]
          have : ∀ l : List (Nat × Operand), (evParts (fun x => typed P e (ev x)) l).length = l.length := fun l => by
            induction l with
            | nil => rfl
            | cons p l ih => obtain ⟨i, x⟩ := p; simp [evParts, ih]
          exact this _
        obtain ⟨v, hzv, hzc⟩ := run_zeroT (w := w) hzt
        have hul : us.length = n * sz := by rw [rL_len hr, l1, hpl]; rfl
        have hfill : ∀ (cells : Array Value), cells.size = n * sz → Instr.fill (fun i => some (i * sz, sz)) cells (ps.toList.map fun p => (p.1, a.eval p.2)) = some us.toArray := fun cells hcl => by
          have := hf cells.toList (by rw [hpl, Array.length_toList, hcl]; simp)
          rw [Array.toArray_toList] at this
          rw [this]
          congr 2
          unfold setAt
          rw [Nat.zero_mul, List.take_zero, Nat.zero_add, hul, List.drop_of_length_le (by rw [Array.length_toList]; omega)]
          simp
        have hrun : ∀ (d : Option Tmp) (ty : TypeId) (pos : String) (aft : Array Edge) (g : Option (Nat × Bool)), (execOp a.eval ⟨d, .buildSlice t n ps, ty, pos, aft, g⟩).run P w = .ok (.value (.slice (some ⟨w.heap.size, 0, none⟩) n n)) (w.alloc (.cells us.toArray e)) := fun d ty pos aft g => by
          have hs2 : ¬ 16777216 < n * sz := by omega
          have hs3 : (ps.map fun (i, x) => (i, a.eval x)).toList = ps.toList.map fun p => (p.1, a.eval p.2) := by rw [Array.toList_map]
          by_cases h0 : n * sz = 0
          · have h5 := hfill #[] (by simp [h0])
            simp only [execOp, Instr.buildSlice, hs3, Sem.run_bind, run_underlying ht, Result.andThen_ok, run_sizeT hsz, gt_iff_lt, Nat.reducePow, if_neg hs2, if_pos h0, Sem.run_pure]
            have h6 : ((Array.range (n * sz)).map fun x => (#[] : Array Value)[x % (#[] : Array Value).size]!) = #[] := by rw [h0]; simp
            rw [h6, h5]
            simp [newRow]
          · have h5 := hfill ((Array.range (n * sz)).map (fun x => v.cells[x % v.cells.size]!)) (by simp)
            simp only [execOp, Instr.buildSlice, hs3, Sem.run_bind, run_underlying ht, Result.andThen_ok, run_sizeT hsz, gt_iff_lt, Nat.reducePow, if_neg hs2, if_neg h0, Sem.run_pure, hzv]
            rw [h5]
            simp [newRow]
        split
        · rename_i hd
          split
          · -- no elements: nothing is looked at
            have : ps.toList = [] := List.eq_nil_of_length_eq_zero (by omega)
            rw [this] at hlit
            refine Eff.of_run hrun rfl ⟨M, ρ, Rle.refl _ _, h.garbage _, ?_⟩
            simp only [RelV]
            exact ⟨_, rfl⟩
          · refine EffV.after r1 ?_
            obtain ⟨ρ', h5, h6, h7⟩ := new_buf o1 (e := e) (tot := n) (sp := []) hd hr (by simpa using hul) (by omega) (by have : n * 1 ≤ n * sz := Nat.mul_le_mul_left _ h1; unfold maxLen; omega)
            rw [l1, hpl] at h7
            exact Eff.of_run hrun rfl ⟨M1, ρ', h5, by simpa [wrO] using h6, h7⟩
        · trivial
      · trivial
    · trivial
  · trivial
end
end Go.Proofs.YtilfjfpemjfalaaGreatDoor.Kx
