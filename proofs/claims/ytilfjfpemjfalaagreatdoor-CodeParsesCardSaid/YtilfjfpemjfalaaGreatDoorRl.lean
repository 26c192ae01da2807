/- The evaluator is sound: stores into elements, indices of values; all operations. -/
import Derived.Test.YtilfjfpemjfalaaGreatDoorRkb
namespace Go.Proofs.YtilfjfpemjfalaaGreatDoor.Kx
open Go Go.RowKit
section
variable {r : Option Nat} {P : Program} {a : Act} {w wl : World} {S : Hand} {M0 M : Mem} {ρ : Rho} {ob : Nat → Option IObj} {ev : Operand → V} {d : Nat} {ty : TypeId} {op : Op}

theorem setD_rel {cs xs : List Dat} {us vs : List Value} {k : Nat} (h : RelDs M cs us) (h' : RelDs M xs vs) : RelDs M (setD cs k xs) (setAt us k vs) := by
  unfold setD setAt
  rw [h'.len]
  exact ((h.take k).append h').append (h.drop _)
theorem setAt_setAt {us u : List Value} {o k n : Nat} {xs : List Value} (hu : u = (us.drop o).take n) (hl : o + n ≤ us.length) (hk : k + xs.length ≤ n) : setAt us (o + k) xs = setAt us o (setAt u k xs) := by
  have hul : u.length = n := by rw [hu]; simp; omega
  have e1 : (setAt u k xs).length = n := by rw [setAt_length _ _ _ (by omega), hul]
  have e2 : us = us.take o ++ (u ++ us.drop (o + n)) := by rw [hu, ← List.drop_drop, List.take_append_drop, List.take_append_drop]
  apply List.ext_getElem?
  intro j
  have f : ∀ (l ys : List Value) (p j : Nat), p + ys.length ≤ l.length → (setAt l p ys)[j]? = if j < p then l[j]? else if j < p + ys.length then ys[j - p]? else l[j]? := fun l ys p j hp => by
    unfold setAt
    rw [List.append_assoc]
    split
    · rw [List.getElem?_append_left (by simp; omega), List.getElem?_take_of_lt (by assumption)]
    · rw [List.getElem?_append_right (by simp; omega), List.length_take, Nat.min_eq_left (by omega)]
      split
      · rw [List.getElem?_append_left (by omega)]
      · rw [List.getElem?_append_right (by omega), List.getElem?_drop]
        congr 1; omega
  rw [f _ _ _ _ (by omega), f _ _ _ _ (by omega), e1, f u xs k (j - o) (by omega)]
  have g : ∀ j, o ≤ j → j < o + n → u[j - o]? = us[j]? := fun j h1 h2 => by
    rw [hu, List.getElem?_take_of_lt (by omega), List.getElem?_drop]
    congr 1; omega
  by_cases h1 : j < o
  · rw [if_pos (show j < o + k by omega), if_pos h1]
  · rw [if_neg h1]
    by_cases h2 : j < o + n
    · rw [if_pos h2]
      by_cases h3 : j < o + k
      · rw [if_pos h3, if_pos (show j - o < k by omega), g j (by omega) h2]
      · rw [if_neg h3, if_neg (show ¬ j - o < k by omega)]
        by_cases h4 : j < o + k + xs.length
        · rw [if_pos h4, if_pos (show j - o < k + xs.length by omega)]
          congr 1; omega
        · rw [if_neg h4, if_neg (show ¬ j - o < k + xs.length by omega), g j (by omega) h2]
    · rw [if_neg h2, if_neg (show ¬ j < o + k by omega), if_neg (show ¬ j < o + k + xs.length by omega)]
theorem setAt_append_right {pre us xs : List Value} {o : Nat} : setAt (pre ++ us) (pre.length + o) xs = pre ++ setAt us o xs := by
  unfold setAt
  rw [List.take_append, List.take_of_length_le (by omega), Nat.add_sub_cancel_left, Nat.add_assoc, List.drop_append, List.drop_of_length_le (by omega), Nat.add_sub_cancel_left]
  simp
theorem setAt_append_left {us sp xs : List Value} {o : Nat} (h : o + xs.length ≤ us.length) : setAt (us ++ sp) o xs = setAt us o xs ++ sp := by
  unfold setAt
  rw [List.take_append_of_le_length (by omega), List.drop_append_of_le_length (by omega)]
  simp

theorem store_ept {t : TypeId} {x y : Operand} (h : Ow S wl M0 M ρ ob w) {n : Nat} (hs : sizeT P t = some n) {rr g j k sz : Nat} {e : TypeId} {es : List (List Dat)} {old xs : List Dat} {ws : List Value} {u : Value} (hx : RelV M ρ (.ept rr g j k) (a.eval x)) (hy : a.eval y = u) (hc : u.cells = ws.toArray) (hw1 : ∀ v ∈ ws, v.oneCell' = true) (hrel : RelDs M xs ws)
    (hr : ob rr = some (.buf g e sz es)) (hn : xs.length = n) (hl : k + n ≤ sz) (hpn : Nat.blt g 1000000 = true) (ho : es[j]? = some old) :
    EffV r P a (.store t x y) S wl M0 M ρ ob w .undef [(rr, .buf g e sz (es.set j (setD old k xs)))] := by
  obtain ⟨i, hi, hg, hp⟩ := relV_ept hx
  obtain ⟨hfix, hg', hsz, hnn, ht, hmax, hh⟩ := h.buf_heap hr hi
  obtain ⟨hjn, hp⟩ := hp hg'.symm
  obtain ⟨hm, pre, us, sp, hw, hpre, hlen, hrl⟩ := hh (by omega)
  obtain ⟨q1, q2, q3⟩ := rL_piece hrl ho
  obtain ⟨e1, e2⟩ := pre_len hrl (off := j + 1) (by omega)
  rw [Nat.add_mul, Nat.one_mul] at e2
  have hwl : ws.length = n := by rw [hrel.len, hn]
  have hoff : (i.base + j) * i.sz + k = pre.length + (j * sz + k) := by rw [hpre, hsz, Nat.add_mul]; omega
  have hst := run_storeVar_at (P := P) (k := (i.base + j) * i.sz + k) hw hc (by rw [hwl]; exact hs) hw1 (by rw [hoff]; simp; omega)
  have hnew : setAt (pre ++ (us ++ sp)).toArray.toList ((i.base + j) * i.sz + k) ws = pre ++ (setAt us (j * sz) (setAt ((us.drop (j * sz)).take sz) k ws) ++ sp) := by
    rw [hoff]
    simp only [List.toList_toArray]
    rw [setAt_append_right, setAt_append_left (by omega), setAt_setAt (n := sz) rfl (by omega) (by omega)]
  rw [hnew] at hst
  have hrl2 : rL (rDs sz) M (setAt us (j * sz) (setAt ((us.drop (j * sz)).take sz) k ws)) (es.set j (setD old k xs)) := rL_set hrl (by omega) (u := setAt ((us.drop (j * sz)).take sz) k ws) ⟨by unfold setD; simp; omega, setD_rel q3 hrel⟩
  obtain ⟨h5, h6⟩ := h.turn (w' := w.setRow i.b (pre ++ (setAt us (j * sz) (setAt ((us.drop (j * sz)).take sz) k ws) ++ sp)).toArray) hr hi i (.buf g e sz (es.set j (setD old k xs))) (fun q _ hq => setRow_other w i.b q _ (hq (by simp only [live]; omega))) (by simp) rfl rfl rfl (fun _ c hc => by rw [hm.2.1 hpn] at hc; cases hc) ⟨Nat.le_refl _, fun _ => rfl, fun _ => rfl⟩ (fun hl => .inl ⟨hl, rfl⟩)
    (fun ρ' _ _ => ⟨hfix, hg', hsz, by simpa using hnn, ht, hmax, fun _ => ⟨hm, pre, _, sp, setRow_heap w i.b _ _ e _ hw, hpre, by
      rw [List.length_append, setAt_length _ _ _ (by rw [setAt_length _ _ _ (by omega)]; omega)]
      rw [List.length_append] at hlen
      exact hlen, hrl2⟩⟩)
  refine Eff.of_runU (w' := w.setRow i.b (pre ++ (setAt us (j * sz) (setAt ((us.drop (j * sz)).take sz) k ws) ++ sp)).toArray) ?_ rfl ⟨M, _, h5, h6, relV_undef _⟩
  intro d ty pos aft g
  simp [execOp, Instr.storeAt, Instr.sureAddr, hp, hy, hst]

theorem eff_insert {t : TypeId} {m k v : Operand} {res : Res} (h : res.Good (EffV r P a (.mapUpdate t m k v) S wl M0 M ρ ob w)) : res.Good (EffV r P a (.insert t m k v) S wl M0 M ρ ob w) := by
  have key : ∀ {R : Value → World → Prop}, Eff r P a (.mapUpdate t m k v) w R → Eff r P a (.insert t m k v) w R := fun h d ty pos aft g K Q hK => by
    have := h d ty pos aft g K Q hK
    refine ⟨fun _ _ => trivial, ?_⟩
    have h2 := this.2
    rw [show (WF r).round = r from rfl, sem_plain rfl] at h2 ⊢
    have e : execOp a.eval ⟨d, .insert t m k v, ty, pos, aft, g⟩ = execOp a.eval ⟨d, .mapUpdate t m k v, ty, pos, aft, g⟩ := rfl
    rw [e]
    generalize (execOp a.eval ⟨d, .mapUpdate t m k v, ty, pos, aft, g⟩).run P w = res at h2 ⊢
    cases res with
    | ok x w' => cases x <;> exact h2
    | halt x w' => cases x <;> exact h2
  cases res with
  | bad => trivial
  | ok v wr => exact key h
  | opt1 o kk => exact fun x hx => key (h x hx)
  | opt2 o kk => exact fun x hx => key (h x hx)
  | call f args => exact h
theorem eff_store {t : TypeId} {x y : Operand} (h : Ow S wl M0 M ρ ob w) (hev : ∀ x, RelV M ρ (ev x) (a.eval x)) : (evOp P ob d ty ev (.store t x y)).Good (EffV r P a (.store t x y) S wl M0 M ρ ob w) := by
  simp only [evOp]
  have hx := hev x
  have hy := typed_rel (P := P) (t := t) (hev y)
  generalize ev x = vx at *
  generalize typed P t (ev y) = vy at *
  unfold evStore
  split
  · rename_i n rr k hs
    split
    · rename_i cs us hr hus
      split
      · rename_i h1 h2
        exact store_box h hs hx hy hus hr (Nat.eq_of_beq_eq_true h1) (nb_le h2)
      · trivial
    · trivial
  · rename_i n rr g j k hs
    split
    · rename_i us hus
      split
      · rename_i xs wr hds
        split
        · rename_i g' e sz es hr
          split
          · rename_i h1 h2 h3 h4
            obtain rfl := Nat.eq_of_beq_eq_true h1
            intro es' hes
            split at hes
            · rename_i old hold
              cases hes
              obtain ⟨ws, hc, hrw, hw1⟩ := cellsV_rel hus hy
              obtain ⟨M1, r1, o1, d1⟩ := datsOf_sound h hrw hds
              refine EffV.after r1 ?_
              exact store_ept o1 hs (RelV.mono r1 _ hx) rfl hc hw1 d1 hr (Nat.eq_of_beq_eq_true h2) (nb_le h3) h4 hold
            · cases hes
          · trivial
        · trivial
      · trivial
    · trivial
  · trivial

theorem eff_index {t : TypeId} {x i : Operand} (h : Ow S wl M0 M ρ ob w) (hev : ∀ x, RelV M ρ (ev x) (a.eval x)) : (evOp P ob d ty ev (.index t x i)).Good (EffV r P a (.index t x i) S wl M0 M ρ ob w) := by
  simp only [evOp]
  have hx := hev x
  have hi := hev i
  generalize ev x = vx at *
  generalize ev i = vi at *
  unfold evIndex
  split
  · trivial
  · rename_i j hj
    obtain ⟨k, hk⟩ := iv_spec hj hi
    split
    · rename_i s
      split
      · rename_i ht
        intro cs hcs
        split at hcs
        · rename_i c hc
          cases hcs
          obtain ⟨hj0, hj1⟩ := geti_nat hc
          exact EffV.val h (run_index_str (i := j.toNat) (relV_str hx) (by rw [hk, ← hj0]) ht hj1) rfl mk_int
        · cases hcs
      · trivial
    · rename_i cs
      obtain ⟨us, hu, hr⟩ := relV_agg hx
      split
      · rename_i n e ht
        have ht' := arrT_spec ht
        split
        · rename_i s ag hz
          obtain ⟨hs, ha, h1⟩ := szT_spec hz
          have part : ∀ (q : Nat), q < n → (q + 1) * s ≤ us.length → j = (q : Int) → ∀ v, RelV M ρ v (mkv ag ((us.drop (q * s)).take s)) → EffV r P a (.index t x i) S wl M0 M ρ ob w v [] := fun q hq hql hjq v hv => by
            have hl' : ((us.drop (q * s)).take s).length = s := take_len (by rw [Nat.add_mul] at hql; omega)
            refine EffV.val h (run_index (i := q) (vs := (us.drop (q * s)).take s) hu (by rw [hk, hjq]) ht' hq ha hs hl' (fun e => by rw [hl']; exact h1 e) (fun p hp => ?_)) rfl hv
            rw [List.getElem?_take_of_lt (by omega), List.getElem?_drop]
          split
          · split
            · rename_i g1 g2 g3
              have g1 := of_decide_eq_true g1; have g2 := nb_lt g2; have g3 := nb_le g3
              have hl := hr.len
              have h5 : (j.toNat + 1) * s ≤ n * s := Nat.mul_le_mul_right _ (by omega)
              refine part j.toNat g2 (by omega) (by omega) _ (mkV_rel (n := s) ((hr.drop _).take s) (fun e => ?_))
              rw [Nat.add_mul] at h5
              rw [take_len (by omega)]; exact h1 e
            · trivial
          · split
            · rename_i ds g1 g2
              have g2 := Nat.eq_of_beq_eq_true g2
              have hd := relVs_dOf g1 hr
              intro c hc
              obtain ⟨hj0, hj1⟩ := geti_nat hc
              obtain ⟨h3, h4⟩ := chunks_get _ _ _ _ _ hj1
              have hl := hr.len
              have h5 : (j.toNat + 1) * s ≤ n * s := Nat.mul_le_mul_right _ (by omega)
              refine part j.toNat h3 (by omega) hj0 _ ?_
              dsimp only
              split
              · rename_i hb
                rw [h4]
                rw [Nat.add_mul] at h5
                exact mkV_rel (n := s) (RelVs.dV ((hd.drop _).take s)) (fun e => by rw [take_len (by omega)]; exact h1 e)
              · exact relV_undef _
            · trivial
        · trivial
      · trivial
    · trivial

theorem eff_builtin2 {c : Call} {x y : Operand} (hc : c.args.toList = [x, y]) : c.args = #[x, y] := by
  apply Array.ext'; rw [hc]
/-- Every operation that is reckoned is sound. -/
theorem evOp_sound (h : Ow S wl M0 M ρ ob w) (hev : ∀ x, RelV M ρ (ev x) (a.eval x)) : (evOp P ob d ty ev op).Good (EffV r P a op S wl M0 M ρ ob w) := by
  cases op with
  | move x => exact EffV.val h (run_move rfl) rfl (typed_rel (hev x))
  | assign x => exact EffV.val h (run_assign rfl) rfl (typed_rel (hev x))
  | pick c x y => exact eff_pick h hev
  | alloc t => exact eff_allocOp h
  | box t x => exact eff_boxOp h hev
  | build t ps => exact eff_build h hev
  | buildSlice t n ps => exact eff_buildSlice h hev
  | load t x => exact eff_load h hev
  | store t x y => exact eff_store h hev
  | nilCheck x => exact eff_nilCheck h hev
  | binOp o t x y u => exact eff_binOp2 h hev
  | unOp o t x => exact eff_unOp h hev
  | convert s t x => exact eff_convert2 h hev
  | makeInterface t x => exact eff_makeIface h
  | makeFunc f x y => exact eff_makeFunc h hev
  | makeSlice t l c => exact eff_make h hev
  | makeMap t hint => cases hint with
    | none => exact eff_makeMap h
    | some _ => trivial
  | lookup t m k ok => exact eff_lookup h hev
  | mapUpdate t m k v => exact eff_mapPut h hev
  | insert t m k v => exact eff_insert (eff_mapPut (ty := ty) (d := d) h hev)
  | slice t x lo hi mx => exact eff_slice h hev
  | fieldAddr t x i => exact eff_fieldAddr h hev
  | field t x i => exact eff_field h hev
  | indexAddr t x i => exact eff_indexAddr h hev
  | index t x i => exact eff_index h hev
  | extract x i => exact eff_extract h hev
  | call c =>
    obtain ⟨callee, args, tys⟩ := c
    cases callee with
    | builtin b =>
      cases b <;> first | trivial | skip
      · simp only [evOp]
        split
        · rename_i s x t t2 h1 h2
          exact eff_append h hev (by rw [show args = #[s, x] from Array.ext' h1, show tys = #[t, t2] from Array.ext' h2])
        · trivial
      · simp only [evOp]
        split
        · rename_i x t h1 h2
          exact eff_len h hev (by rw [show args = #[x] from Array.ext' h1, show tys = #[t] from Array.ext' h2])
        · trivial
      · simp only [evOp]
        split
        · rename_i k m k' n he
          split
          · rename_i hk
            obtain rfl := ikb_eq hk
            exact eff_minOp (mx := true) h rfl hev he
          · trivial
        · trivial
      · simp only [evOp]
        split
        · rename_i k m k' n he
          split
          · rename_i hk
            obtain rfl := ikb_eq hk
            exact eff_minOp (mx := false) h rfl hev he
          · trivial
        · trivial
      · simp only [evOp]
        split
        · rename_i x h1
          obtain rfl : args = #[x] := Array.ext' h1
          exact eff_sdata h hev
        · trivial
      · simp only [evOp]
        split
        · rename_i x n pt it h1 h2
          obtain rfl : args = #[x, n] := Array.ext' h1
          obtain rfl : tys = #[pt, it] := Array.ext' h2
          exact eff_ustr h hev
        · trivial
    | value f =>
      simp only [evOp]
      split <;> trivial
    | invoke x m => trivial
  | _ => trivial
end
end Go.Proofs.YtilfjfpemjfalaaGreatDoor.Kx
