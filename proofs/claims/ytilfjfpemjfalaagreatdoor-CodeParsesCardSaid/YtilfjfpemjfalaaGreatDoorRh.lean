/- The evaluator is sound: lengths, elements, parts of slices, append. -/
import Derived.Test.YtilfjfpemjfalaaGreatDoorRg
namespace Go.Proofs.YtilfjfpemjfalaaGreatDoor.Kx
open Go Go.RowKit
section
variable {r : Option Nat} {P : Program} {a : Act} {w wl : World} {S : Hand} {M0 M : Mem} {ρ : Rho} {ob : Nat → Option IObj} {ev : Operand → V} {d : Nat} {ty : TypeId} {op : Op}

/-- What is frozen on the way does not bear on what comes then. -/
theorem EffV.after {M' : Mem} {wr wr' : Wr} {v : V} (hr : Rle M M' ρ ρ) (h : EffV r P a op S wl M0 M' ρ (wrO ob wr) w v wr') : EffV r P a op S wl M0 M ρ ob w v (wr ++ wr') :=
  Eff.mono h fun u w' ⟨M2, ρ2, h1, h2, h3⟩ => ⟨M2, ρ2, hr.trans h1, by rw [wrO_append]; exact h2, h3⟩

theorem elemT_spec {t e : TypeId} (h : elemT P t = some e) : P.underlying t = some (.slice e) := by
  unfold elemT at h
  split at h
  · rename_i e' he; cases h; exact he
  · cases h
theorem arrT_spec {t e : TypeId} {n : Nat} (h : arrT P t = some (n, e)) : P.underlying t = some (.array n e) := by
  unfold arrT at h
  split at h
  · rename_i e' he; cases h; exact he
  · cases h
theorem relD_sl_slice {sz : Nat} {es : List (List Dat)} {u : Value} (h : RelD M (.sl sz es) u) : ∃ p cap, u = .slice p es.length cap ∧ es.length ≤ cap := by
  cases h with
  | sl _ _ p cap b o us hcap => exact ⟨p, cap, rfl, hcap⟩
theorem run_len_map {x : Operand} {t k e : TypeId} {b : Nat} {l : List MapEntry} {clock : Nat} {w : World} (hx : a.eval x = .map (some b)) (ht : P.underlying t = some (.map k e)) (hb : w.heap[b]? = some (.map l.toArray clock)) : Run P a (.call { callee := .builtin .len, args := #[x], argTypes := #[t] }) w (.int .i64 l.length) w := by
  intro d ty pos aft g
  simp [execOp, resolve, invoke, builtin, hx, Builtin.len_, run_underlying ht, goInt, getObj, Sem.run, hb, Result.andThen]
theorem run_len_mapnil {x : Operand} {t k e : TypeId} {w : World} (hx : a.eval x = .map none) (ht : P.underlying t = some (.map k e)) : Run P a (.call { callee := .builtin .len, args := #[x], argTypes := #[t] }) w (.int .i64 0) w := by
  intro d ty pos aft g
  simp [execOp, resolve, invoke, builtin, hx, Builtin.len_, run_underlying ht, goInt]
theorem eff_len {c : Call} (h : Ow S wl M0 M ρ ob w) (hev : ∀ x, RelV M ρ (ev x) (a.eval x)) {x : Operand} {t : TypeId} (hc : c = { callee := .builtin .len, args := #[x], argTypes := #[t] }) : (evLen ob P t (ev x)).Good (EffV r P a (.call c) S wl M0 M ρ ob w) := by
  subst hc
  have hx := hev x
  generalize ev x = vx at *
  unfold evLen
  split
  · rename_i n e ht; exact EffV.val h (run_len_arr ht) rfl mk_int
  · rename_i ht
    split
    · rename_i s; exact EffV.val h (run_len_str (relV_str hx) ht) rfl mk_int
    · trivial
  · rename_i e ht
    split
    · rename_i es
      obtain ⟨p, cap, hu, _⟩ := relD_sl_slice (relV_d hx)
      exact EffV.val h (run_len_slice hu ht) rfl mk_int
    · simp only [RelV] at hx
      obtain ⟨p, hu⟩ := hx
      exact EffV.val h (run_len_slice hu ht) rfl mk_int
    · rename_i q g off
      split
      · rename_i g' e' sz es hr
        split
        · rename_i hg
          obtain rfl := Nat.eq_of_beq_eq_true hg
          obtain ⟨i, hi, _, hu⟩ := relV_suf hx
          obtain ⟨_, hg', _, hn, _⟩ := h.buf_heap hr hi
          obtain ⟨ho, p, hu, _⟩ := hu hg'.symm
          exact EffV.val h (run_len_slice hu ht) rfl (by rw [List.length_drop, hn]; exact mk_int)
        · trivial
      · rename_i g' sz es hr
        split
        · rename_i hg
          obtain rfl := Nat.eq_of_beq_eq_true hg
          obtain ⟨i, hi, _, hu⟩ := relV_suf hx
          obtain ⟨hg', _, hn, _⟩ := h.fzs_at hr hi
          obtain ⟨ho, p, hu, _⟩ := hu hg'.symm
          exact EffV.val h (run_len_slice hu ht) rfl (by rw [List.length_drop, hn]; exact mk_int)
        · trivial
      · trivial
    · rename_i q g off len
      split
      · rename_i g' e' sz es hr
        split
        · rename_i hg
          obtain rfl := Nat.eq_of_beq_eq_true hg
          obtain ⟨i, hi, _, hu⟩ := relV_osl hx
          obtain ⟨_, hg', _, hn, _⟩ := h.buf_heap hr hi
          obtain ⟨ho, p, hu, _⟩ := hu hg'.symm
          exact EffV.val h (run_len_slice hu ht) rfl mk_int
        · trivial
      · rename_i g' sz es hr
        split
        · rename_i hg
          obtain rfl := Nat.eq_of_beq_eq_true hg
          obtain ⟨i, hi, _, hu⟩ := relV_osl hx
          obtain ⟨hg', _, hn, _⟩ := h.fzs_at hr hi
          obtain ⟨ho, p, hu, _⟩ := hu hg'.symm
          exact EffV.val h (run_len_slice hu ht) rfl mk_int
        · trivial
      · trivial
    · trivial
  · rename_i kt et ht
    split
    · rename_i q
      split
      · rename_i kk ag sz es hr
        simp only [RelV] at hx
        obtain ⟨i, hi, _, hu⟩ := hx
        obtain ⟨j, hj, hfix, hm, ents, clock, hb, h0, l, rfl, hl⟩ := h.own q _ hr
        rw [hi] at hj; cases hj
        exact EffV.val h (run_len_map hu ht hb) rfl (by rw [hl.len]; exact mk_int)
      · trivial
    · have hu : a.eval x = .map none := by
        have hx := relV_d hx
        generalize a.eval x = u at hx
        cases hx; rfl
      exact EffV.val h (run_len_mapnil hu ht) rfl mk_int
    · trivial
  · trivial

/-! ### The address of an element -/
theorem geti_nat {α : Type} {l : List α} {j : Int} {y : α} (h : geti l j = some y) : j = (j.toNat : Int) ∧ l[j.toNat]? = some y := by
  obtain ⟨k, rfl, hk⟩ := geti_some h
  exact ⟨by simp, by simpa using hk⟩
theorem iv_spec {v : V} {n : Int} {u : Value} (h : iv v = some n) (hv : RelV M ρ v u) : ∃ k, u = .int k n := by
  unfold iv at h
  split at h
  · rename_i k m; cases h; exact ⟨k, relV_int hv⟩
  · cases h
theorem at_ro {t e : TypeId} {x i : Operand} (h : Ow S wl M0 M ρ ob w) (ht : elemT P t = some e) {n : Nat} (hs : sizeT P e = some n) {es : List (List Dat)} {j : Int} {k : IntKind} {cs : List Dat} (hx : RelD M (.sl n es) (a.eval x)) (hi : a.eval i = .int k j) (hj : geti es j = some cs) :
    EffV r P a (.indexAddr t x i) S wl M0 M ρ ob w (.rp cs 0) [] := by
  obtain ⟨hj0, hj1⟩ := geti_nat hj
  have ht' := elemT_spec ht
  generalize hu : a.eval x = u at hx
  cases hx with
  | sl _ _ p cap b o us hcap ha hc hss hr =>
    have hlt : j.toNat < es.length := (List.getElem?_eq_some_iff.1 hj1).1
    have hp := ha (fun e => by subst e; simp at hlt)
    subst hp
    obtain ⟨l1, l2⟩ := hss _ _ hj1
    refine EffV.val h (run_indexAddr (i := j.toNat) hu (by rw [hi, ← hj0]) ht' hs hlt) rfl ?_
    simp only [RelV]
    exact ⟨b, o + j.toNat * n, us j.toNat, by simp, hc _ hlt, RelDs.of_get (by omega) (fun q c u h1 h2 => hr _ q cs c u hj1 h1 h2)⟩
theorem at_own {t e : TypeId} {x i : Operand} (h : Ow S wl M0 M ρ ob w) (ht : elemT P t = some e) {n : Nat} (hs : sizeT P e = some n) {q g off len : Nat} {e' : TypeId} {es : List (List Dat)} {j : Int} {k : IntKind} (hr : ob q = some (.buf g e' n es))
    (hx : ∃ i, ρ q = some i ∧ off + len ≤ i.n ∧ ∃ p, a.eval x = .slice p len (i.tot - off) ∧ (off < i.tot → p = some ⟨i.b, (i.base + off) * i.sz, none⟩)) (hi : a.eval i = .int k j) (hj0 : j = (j.toNat : Int)) (hlt : j.toNat < len) :
    EffV r P a (.indexAddr t x i) S wl M0 M ρ ob w (.ept q g (off + j.toNat) 0) [] := by
  obtain ⟨f, hf, ho, p, hu, hp⟩ := hx
  obtain ⟨_, hg, hsz, hn, htot, _⟩ := h.buf_heap hr hf
  have hp := hp (by omega)
  subst hp
  refine EffV.val h (run_indexAddr (i := j.toNat) hu (by rw [hi, ← hj0]) (elemT_spec ht) hs hlt) rfl ?_
  simp only [RelV]
  exact ⟨f, hf, by omega, rfl, fun _ => ⟨by omega, by rw [hsz]; simp only [Nat.add_mul, Nat.add_zero]; congr 3; omega⟩⟩
theorem chunks_get : ∀ (s n : Nat) (l : List Dat) (j : Nat) (c : List Dat), (chunks s n l)[j]? = some c → j < n ∧ c = (l.drop (j * s)).take s
  | _, 0, _, _, _, h => by simp [chunks] at h
  | s, n + 1, l, 0, c, h => by simp [chunks] at h; subst h; simp
  | s, n + 1, l, j + 1, c, h => by
    simp only [chunks, List.getElem?_cons_succ] at h
    obtain ⟨h1, h2⟩ := chunks_get s n (l.drop s) j c h
    refine ⟨by omega, ?_⟩
    rw [h2, List.drop_drop, Nat.add_mul, Nat.one_mul, Nat.add_comm]
theorem nb_lt {a b : Nat} (h : Nat.blt a b = true) : a < b := by simpa [Nat.blt_eq] using h
theorem at_arr {t e : TypeId} {x i : Operand} (h : Ow S wl M0 M ρ ob w) {n s : Nat} (ht : arrT P t = some (n, e)) (hs : sizeT P e = some s) {b o : Nat} {j : Int} {k : IntKind} (hx : a.eval x = .pointer (some ⟨b, o, none⟩)) (hi : a.eval i = .int k j) (hj0 : j = (j.toNat : Int)) (hlt : j.toNat < n) {v : V} (hv : RelV M ρ v (.pointer (some ⟨b, o + j.toNat * s, none⟩))) :
    EffV r P a (.indexAddr t x i) S wl M0 M ρ ob w v [] :=
  EffV.val h (run_indexAddr_arr (i := j.toNat) hx (by rw [hi, ← hj0]) (arrT_spec ht) hs hlt) rfl hv
theorem chunk_rel {s n k : Nat} {cs c : List Dat} {j : Int} {b o : Nat} {us : List Value} (hM : Cells M b o us) (hr : RelDs M cs us) (hj : geti (chunks s n (cs.drop k)) j = some c) : j = (j.toNat : Int) ∧ j.toNat < n ∧
    RelV M ρ (match Nat.beq c.length s with | true => .rp c 0 | false => .undef) (.pointer (some ⟨b, o + k + j.toNat * s, none⟩)) := by
  obtain ⟨hj0, hj1⟩ := geti_nat hj
  obtain ⟨h1, h2⟩ := chunks_get _ _ _ _ _ hj1
  refine ⟨hj0, h1, ?_⟩
  split
  · rename_i hb
    have hb := Nat.eq_of_beq_eq_true hb
    rw [List.drop_drop] at h2
    simp only [RelV]
    have hl := hr.len
    obtain ⟨blk, hblk, hq⟩ := hM
    refine ⟨b, o + k + j.toNat * s, (us.drop (k + j.toNat * s)).take s, by simp, ⟨blk, hblk, fun q hq' => ?_⟩, by rw [h2]; exact (hr.drop _).take s⟩
    simp only [List.length_take, List.length_drop] at hq'
    rw [List.getElem?_take_of_lt (by omega), List.getElem?_drop, ← hq _ (by omega)]
    congr 1; omega
  · exact relV_undef _

theorem relVs_dOf : ∀ {cs : List V} {ds : List Dat} {us : List Value}, dOf cs = some ds → RelVs M ρ cs us → RelDs M ds us
  | [], ds, us, h, hr => by simp only [dOf, Option.some.injEq] at h; subst h; simp only [RelVs] at hr; exact hr
  | c :: cs, ds, us, h, hr => by
    simp only [RelVs] at hr
    obtain ⟨u, us', rfl, h1, h2⟩ := hr
    cases c with
    | d x =>
      simp only [dOf] at h
      split at h
      · rename_i xs hx; cases h; exact ⟨u, us', rfl, relV_d h1, relVs_dOf hx h2⟩
      · cases h
    | _ => simp [dOf] at h
theorem suf_osl (h : Ow S wl M0 M ρ ob w) {q g off sz : Nat} {e : TypeId} {es : List (List Dat)} {u : Value} (hr : ob q = some (.buf g e sz es)) (hv : RelV M ρ (.suf q g off) u) :
    ∃ i, ρ q = some i ∧ off + (es.drop off).length ≤ i.n ∧ ∃ p, u = .slice p (es.drop off).length (i.tot - off) ∧ (off < i.tot → p = some ⟨i.b, (i.base + off) * i.sz, none⟩) := by
  obtain ⟨i, hi, _, hu⟩ := relV_suf hv
  obtain ⟨_, hg, hsz, hn, _⟩ := h.buf_heap hr hi
  obtain ⟨ho, p, hu, hp⟩ := hu hg.symm
  exact ⟨i, hi, by rw [List.length_drop]; omega, p, by rw [hu, List.length_drop, hn], hp⟩
theorem eff_indexAddr {t : TypeId} {x i : Operand} (h : Ow S wl M0 M ρ ob w) (hev : ∀ x, RelV M ρ (ev x) (a.eval x)) : (evOp P ob d ty ev (.indexAddr t x i)).Good (EffV r P a (.indexAddr t x i) S wl M0 M ρ ob w) := by
  simp only [evOp]
  have hx := hev x
  have hi := hev i
  generalize ev x = vx at *
  generalize ev i = vi at *
  unfold evIndexAddr
  split
  · trivial
  · rename_i j hj
    obtain ⟨k, hk⟩ := iv_spec hj hi
    split
    · split
      · rename_i e he
        split
        · rename_i n hs
          split
          · rename_i hn
            obtain rfl := Nat.eq_of_beq_eq_true hn
            intro cs hcs
            exact at_ro h he hs (relV_d hx) hk hcs
          · trivial
        · trivial
      · trivial
    · rename_i q g off
      split
      · rename_i e he
        split
        · rename_i n g' e' sz es hs hr
          split
          · rename_i hg hn
            obtain rfl := Nat.eq_of_beq_eq_true hg
            obtain rfl := Nat.eq_of_beq_eq_true hn
            intro cs hcs
            obtain ⟨hj0, hj1⟩ := geti_nat hcs
            exact at_own h he hs hr (suf_osl h hr hx) hk hj0 (List.getElem?_eq_some_iff.1 hj1).1
          · trivial
        · rename_i n g' sz es hs hr
          split
          · rename_i hg hn
            obtain rfl := Nat.eq_of_beq_eq_true hg
            obtain rfl := Nat.eq_of_beq_eq_true hn
            intro cs hcs
            exact at_ro h he hs (fz_suf h hr hx) hk hcs
          · trivial
        · trivial
      · trivial
    · rename_i q g off len
      split
      · rename_i e he
        split
        · rename_i n g' e' sz es hs hr
          split
          · rename_i hg hn
            obtain rfl := Nat.eq_of_beq_eq_true hg
            obtain rfl := Nat.eq_of_beq_eq_true hn
            intro cs hcs
            obtain ⟨hj0, hj1⟩ := geti_nat hcs
            have hlt := (List.getElem?_eq_some_iff.1 hj1).1
            simp only [List.length_take] at hlt
            obtain ⟨f, hf, _, hu⟩ := relV_osl hx
            obtain ⟨_, hg', _⟩ := h.buf_heap hr hf
            exact at_own h he hs hr ⟨f, hf, hu hg'.symm⟩ hk hj0 (by omega)
          · trivial
        · rename_i n g' sz es hs hr
          split
          · rename_i hg hn
            obtain rfl := Nat.eq_of_beq_eq_true hg
            obtain rfl := Nat.eq_of_beq_eq_true hn
            intro cs hcs
            exact at_ro h he hs (fz_osl h hr hx) hk hcs
          · trivial
        · trivial
      · trivial
    · rename_i cs k'
      obtain ⟨b, o, us, hp, hM, hrel⟩ := relV_rp hx
      split
      · rename_i n e ht
        split
        · rename_i s hs
          split
          · split
            · rename_i h1 h2
              have h1 := of_decide_eq_true h1
              exact at_arr h ht hs hp hk (by omega) (nb_lt h2) (by simp only [RelV]; exact ⟨b, o, us, by rw [Nat.add_assoc], hM, hrel⟩)
            · trivial
          · intro c hc
            obtain ⟨h1, h2, h3⟩ := chunk_rel (ρ := ρ) hM hrel hc
            exact at_arr h ht hs hp hk h1 h2 h3
        · trivial
      · trivial
    · rename_i q k'
      obtain ⟨f, hf, hfix, hp⟩ := relV_ptr hx
      split
      · rename_i n e ht
        split
        · rename_i s hs
          split
          · split
            · rename_i h1 h2
              have h1 := of_decide_eq_true h1
              exact at_arr h ht hs hp hk (by omega) (nb_lt h2) (by simp only [RelV]; exact ⟨f, hf, hfix, rfl⟩)
            · trivial
          · split
            · rename_i cs hr
              split
              · rename_i ds hds
                intro c hc
                obtain ⟨f', hf', hok⟩ := h.own q _ hr
                rw [hf] at hf'; cases hf'
                obtain ⟨_, c0, us, hM, hP, hrel, _⟩ := hok
                obtain ⟨h1, h2, h3⟩ := chunk_rel (o := 0) (ρ := ρ) ⟨_, hM, fun j hj => by rw [List.getElem?_eq_getElem hj]; exact hP _ _ (by simp [hj])⟩ (relVs_dOf hds hrel) hc
                rw [Nat.zero_add] at h3
                exact at_arr h ht hs hp hk h1 h2 h3
              · trivial
            · split
              · rename_i h1 h2
                have h1 := of_decide_eq_true h1
                exact at_arr h ht hs hp hk (by omega) (nb_lt h2) (by simp only [RelV]; exact ⟨f, hf, hfix, rfl⟩)
              · trivial
            · trivial
        · trivial
      · trivial
    · trivial
end
end Go.Proofs.YtilfjfpemjfalaaGreatDoor.Kx
