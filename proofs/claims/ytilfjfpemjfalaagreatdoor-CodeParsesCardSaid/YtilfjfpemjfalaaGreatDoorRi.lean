/- The evaluator is sound: slice expressions, append, make, literals of slices, stores into elements. -/
import Derived.Test.YtilfjfpemjfalaaGreatDoorRh
namespace Go.Proofs.YtilfjfpemjfalaaGreatDoor.Kx
open Go Go.RowKit
section
variable {r : Option Nat} {P : Program} {a : Act} {w wl : World} {S : Hand} {M0 M : Mem} {ρ : Rho} {ob : Nat → Option IObj} {ev : Operand → V} {d : Nat} {ty : TypeId} {op : Op}

def isB (a : Act) (o : Option Operand) (dflt m : Nat) : Prop := match o with
  | none => m = dflt
  | some x => ∃ k, a.eval x = .int k (m : Int)
theorem run_bound {k : IntKind} {m y : Nat} {c : BoundsCode} (h : m ≤ y) : (Instr.sliceBound (.int k (m : Int)) y c).run P w = .ok m w := by
  have h2 : (0 : Int) ≤ (m : Int) ∧ (m : Int) ≤ (y : Int) := by omega
  simp only [Instr.sliceBound, asIntOf, Sem.run_bind, Sem.run_pure, Result.andThen_ok]
  rw [if_pos h2]
  simp
theorem run_bounds {b : Bool} {len cap l hh : Nat} {lo hi : Option Operand} (hlo : isB a lo 0 l) (hhi : isB a hi len hh) (h1 : l ≤ hh) (h2 : hh ≤ cap) :
    (Instr.sliceBounds b len cap (lo.map a.eval) (hi.map a.eval) none).run P w = .ok (l, hh, cap) w := by
  cases lo with
  | none =>
    simp only [isB] at hlo; subst hlo
    cases hi with
    | none => simp only [isB] at hhi; subst hhi; simp [Instr.sliceBounds]
    | some y => obtain ⟨k, hy⟩ := hhi; simp [Instr.sliceBounds, hy, run_bound h2]
  | some x =>
    obtain ⟨k, hx⟩ := hlo
    cases hi with
    | none => simp only [isB] at hhi; subst hhi; simp [Instr.sliceBounds, hx, run_bound h1]
    | some y => obtain ⟨k', hy⟩ := hhi; simp [Instr.sliceBounds, hx, hy, run_bound h1, run_bound h2]
theorem run_sliceOp {t e : TypeId} {x : Operand} {lo hi : Option Operand} {n len cap l hh : Nat} {p : Option Addr} (ht : P.underlying t = some (.slice e)) (hs : sizeT P e = some n) (hx : a.eval x = .slice p len cap) (hlo : isB a lo 0 l) (hhi : isB a hi len hh) (h1 : l ≤ hh) (h2 : hh ≤ cap) :
    Run P a (.slice t x lo hi none) w (.slice (if cap = l then p else p.map (·.add (l * n))) (hh - l) (cap - l)) w := by
  intro d ty pos aft g
  have hb := run_bounds (P := P) (w := w) (b := true) hlo hhi h1 h2
  simp [execOp, Instr.sliceAt, Instr.slice, run_underlying ht, hx, hb, run_sizeT hs]
theorem run_sliceArr {t e : TypeId} {x : Operand} {lo hi : Option Operand} {n s b o l hh : Nat} (ht : P.underlying t = some (.array n e)) (hs : sizeT P e = some s) (hx : a.eval x = .pointer (some ⟨b, o, none⟩)) (hlo : isB a lo 0 l) (hhi : isB a hi n hh) (h1 : l ≤ hh) (h2 : hh ≤ n) :
    Run P a (.slice t x lo hi none) w (.slice (some (if n = l then ⟨b, o, none⟩ else (⟨b, o, none⟩ : Addr).add (l * s))) (hh - l) (n - l)) w := by
  intro d ty pos aft g
  have hb := run_bounds (P := P) (w := w) (b := false) hlo hhi h1 h2
  simp [execOp, Instr.sliceAt, Instr.sureAddr, run_underlying ht, hx, hb, run_sizeT hs]
theorem run_sliceStr {t : TypeId} {x : Operand} {lo hi : Option Operand} {s : List UInt8} {l hh : Nat} (ht : P.underlying t = some .string) (hx : a.eval x = strv s) (hlo : isB a lo 0 l) (hhi : isB a hi s.length hh) (h1 : l ≤ hh) (h2 : hh ≤ s.length) :
    Run P a (.slice t x lo hi none) w (strv ((s.drop l).take (hh - l))) w := by
  intro d ty pos aft g
  have hb := run_bounds (P := P) (w := w) (b := false) (len := (⟨s.toArray⟩ : ByteArray).size) hlo (hhi : isB a hi (⟨s.toArray⟩ : ByteArray).size hh) h1 (show hh ≤ (⟨s.toArray⟩ : ByteArray).size from h2)
  have he : (⟨s.toArray⟩ : ByteArray).extract l hh = ⟨((s.drop l).take (hh - l)).toArray⟩ := by
    apply ByteArray.ext
    simp [ByteArray.data_extract, List.extract_eq_take_drop]
  simp [execOp, Instr.sliceAt, Instr.slice, run_underlying ht, hx, strv, hb, he]
theorem slc_some {α : Type} {l l' : List α} {lo hi : Int} (h : slc l lo hi = some l') : 0 ≤ lo ∧ lo ≤ hi ∧ hi ≤ l.length ∧ l' = (l.drop lo.toNat).take (hi - lo).toNat := by
  unfold slc at h
  cases hb : (decide (0 ≤ lo) && decide (lo ≤ hi) && decide (hi ≤ l.length)) with
  | true =>
    rw [hb] at h
    cases h
    simp only [Bool.and_eq_true, decide_eq_true_eq] at hb
    exact ⟨hb.1.1, hb.1.2, hb.2, rfl⟩
  | false => rw [hb] at h; cases h

/-- Bounds that were reckoned: none stands for what Go puts there. -/
theorem isB_get {o : Option Operand} {x : Option Int} {dflt : Nat} (h : match o, x with | none, none => True | some y, some n => ∃ k, a.eval y = .int k n | _, _ => False) (h0 : 0 ≤ x.getD dflt) : isB a o dflt (x.getD dflt).toNat := by
  cases o with
  | none => cases x with
    | none => simp [isB]
    | some n => exact h.elim
  | some y => cases x with
    | none => exact h.elim
    | some n =>
      obtain ⟨k, hk⟩ := h
      simp only [Option.getD_some] at h0 ⊢
      exact ⟨k, by rw [hk]; congr 1; omega⟩

theorem isB_get0 {o : Option Operand} {x : Option Int} (h : match o, x with | none, none => True | some y, some n => ∃ k, a.eval y = .int k n | _, _ => False) (h0 : 0 ≤ x.getD 0) : isB a o 0 (x.getD 0).toNat := isB_get (dflt := 0) h h0
theorem slice_ro {t e : TypeId} {x : Operand} {lo hi : Option Operand} (h : Ow S wl M0 M ρ ob w) {n : Nat} {xl xh : Option Int} (ht : P.underlying t = some (.slice e)) (hs : sizeT P e = some n)
    (hlo : match lo, xl with | none, none => True | some y, some n => ∃ k, a.eval y = .int k n | _, _ => False) (hhi : match hi, xh with | none, none => True | some y, some n => ∃ k, a.eval y = .int k n | _, _ => False)
    {es es' : List (List Dat)} (hx : RelD M (.sl n es) (a.eval x)) (hc : slc es (xl.getD 0) (xh.getD es.length) = some es') : EffV r P a (.slice t x lo hi none) S wl M0 M ρ ob w (.d (.sl n es')) [] := by
  obtain ⟨h0, h1, h2, rfl⟩ := slc_some hc
  generalize hu : a.eval x = u at hx
  cases hx with
  | sl _ _ p cap b o us hcap ha hcc hss hr =>
    have b1 := isB_get0 hlo h0
    have b2 := isB_get (dflt := es.length) hhi (by omega)
    have hl : (((es.drop (xl.getD 0).toNat).take (xh.getD es.length - xl.getD 0).toNat)).length = (xh.getD es.length).toNat - (xl.getD 0).toNat := by rw [List.length_take, List.length_drop]; omega
    refine EffV.val h (run_sliceOp ht hs hu b1 b2 (by omega) (by omega)) rfl ?_
    rw [← hl]
    refine relV_d' (.sl n _ _ _ b (o + (xl.getD 0).toNat * n) (fun j => us ((xl.getD 0).toNat + j)) (by rw [hl]; omega) (fun hne => ?_) (fun j hj => ?_) (fun j cs hj => ?_) (fun j q cs c u hj h3 h4 => ?_))
    · have hpos := List.length_pos_iff.2 hne
      have hne' : es ≠ [] := fun e => by subst e; simp at hpos
      rw [if_neg (by omega), ha hne']
      simp [add_zero_off]
    · have := hcc ((xl.getD 0).toNat + j) (by omega)
      rw [Nat.add_mul] at this
      rwa [Nat.add_assoc]
    · rw [List.getElem?_take_of_lt (by have := (List.getElem?_eq_some_iff.1 hj).1; omega), List.getElem?_drop] at hj
      exact hss _ cs hj
    · rw [List.getElem?_take_of_lt (by have := (List.getElem?_eq_some_iff.1 hj).1; omega), List.getElem?_drop] at hj
      exact hr _ q cs c u hj h3 h4
theorem chunks_len : ∀ (s n : Nat) (l : List Dat), (chunks s n l).length = n
  | _, 0, _ => rfl
  | s, n + 1, l => by simp only [chunks, List.length_cons, chunks_len s n]
theorem slice_arr {t e : TypeId} {x : Operand} {lo hi : Option Operand} (h : Ow S wl M0 M ρ ob w) {n s k : Nat} {xl xh : Option Int} {cs : List Dat} (ht : P.underlying t = some (.array n e)) (hs : sizeT P e = some s)
    (hlo : match lo, xl with | none, none => True | some y, some n => ∃ k, a.eval y = .int k n | _, _ => False) (hhi : match hi, xh with | none, none => True | some y, some n => ∃ k, a.eval y = .int k n | _, _ => False)
    (hl : k + n * s ≤ cs.length) {es' : List (List Dat)} (hx : RelV M ρ (.rp cs k) (a.eval x)) (hc : slc (chunks s n (cs.drop k)) (xl.getD 0) (xh.getD n) = some es') : EffV r P a (.slice t x lo hi none) S wl M0 M ρ ob w (.d (.sl s es')) [] := by
  obtain ⟨h0, h1, h2, rfl⟩ := slc_some hc
  rw [chunks_len] at h2
  simp only [RelV] at hx
  obtain ⟨b, o, us, hu, hM, hr⟩ := hx
  have b1 := isB_get0 hlo h0
  have b2 := isB_get (dflt := n) hhi (by omega)
  have hlen : ((((chunks s n (cs.drop k)).drop (xl.getD 0).toNat).take (xh.getD n - xl.getD 0).toNat)).length = (xh.getD n).toNat - (xl.getD 0).toNat := by rw [List.length_take, List.length_drop, chunks_len]; omega
  refine EffV.val h (run_sliceArr ht hs hu b1 b2 (by omega) (by omega)) rfl ?_
  rw [← hlen]
  have hul := hr.len
  obtain ⟨blk, hblk, hq⟩ := hM
  have hmul : ∀ {i : Nat}, (xl.getD 0).toNat + i < n → k + ((xl.getD 0).toNat + i) * s + s ≤ cs.length := fun {i} hi => by
    have : ((xl.getD 0).toNat + i + 1) * s ≤ n * s := Nat.mul_le_mul_right s (by omega)
    rw [Nat.add_mul, Nat.one_mul] at this
    omega
  refine relV_d' (.sl s _ _ _ b (o + k + (xl.getD 0).toNat * s) (fun i => (us.drop (k + ((xl.getD 0).toNat + i) * s)).take s) (by rw [hlen]; omega) (fun hne => ?_) (fun i hi => ⟨blk, hblk, fun q hq' => ?_⟩) (fun i c hi => ?_) (fun i q c d u hi h3 h4 => ?_))
  · have hpos := List.length_pos_iff.2 hne
    rw [if_neg (by omega)]
    simp [Addr.add]
  · rw [hlen] at hi
    simp only [List.length_take, List.length_drop] at hq'
    rw [List.getElem?_take_of_lt (by omega), List.getElem?_drop, ← hq _ (by omega)]
    congr 1
    rw [Nat.add_mul]
    omega
  · have hlt := (List.getElem?_eq_some_iff.1 hi).1
    rw [hlen] at hlt
    rw [List.getElem?_take_of_lt (by omega), List.getElem?_drop] at hi
    obtain ⟨g1, g2⟩ := chunks_get _ _ _ _ _ hi
    have := hmul g1
    rw [g2]
    simp only [List.length_take, List.length_drop]
    omega
  · have hlt := (List.getElem?_eq_some_iff.1 hi).1
    rw [hlen] at hlt
    rw [List.getElem?_take_of_lt (by omega), List.getElem?_drop] at hi
    obtain ⟨g1, g2⟩ := chunks_get _ _ _ _ _ hi
    rw [g2, List.drop_drop] at h3
    exact ((hr.drop (k + ((xl.getD 0).toNat + i) * s)).take s).get h3 h4
theorem slice_own {t e : TypeId} {x : Operand} {lo hi : Option Operand} (h : Ow S wl M0 M ρ ob w) {n l hh : Nat} (ht : P.underlying t = some (.slice e)) (hs : sizeT P e = some n) {q g off len : Nat} {e' : TypeId} {es : List (List Dat)} (hr : ob q = some (.buf g e' n es))
    (hx : ∃ i, ρ q = some i ∧ off + len ≤ i.n ∧ ∃ p, a.eval x = .slice p len (i.tot - off) ∧ (off < i.tot → p = some ⟨i.b, (i.base + off) * i.sz, none⟩)) (hlo : isB a lo 0 l) (hhi : isB a hi len hh) (h1 : l ≤ hh) (h2 : hh ≤ len) :
    EffV r P a (.slice t x lo hi none) S wl M0 M ρ ob w (.osl q g (off + l) (hh - l)) [] ∧ (len = es.length - off → hh = len → off ≤ es.length → EffV r P a (.slice t x lo hi none) S wl M0 M ρ ob w (.suf q g (off + l)) []) := by
  obtain ⟨i, hi', ho, p, hu, hp⟩ := hx
  obtain ⟨_, hg, hsz, hn, htot, _⟩ := h.buf_heap hr hi'
  have hrun := run_sliceOp (w := w) ht hs hu hlo hhi h1 (by omega)
  have hadr : off + l < i.tot → (if i.tot - off = l then p else p.map (·.add (l * n))) = some ⟨i.b, (i.base + (off + l)) * i.sz, none⟩ := fun hlt => by
    rw [if_neg (by omega), hp (by omega)]
    simp only [Option.map_some, add_zero_off, hsz, ← Nat.add_mul, Nat.add_assoc]
  have e1 : i.tot - off - l = i.tot - (off + l) := by omega
  rw [e1] at hrun
  refine ⟨EffV.val h hrun rfl ?_, fun e2 e3 e4 => EffV.val h hrun rfl ?_⟩
  · simp only [RelV]
    exact ⟨i, hi', by omega, rfl, fun _ => ⟨by omega, _, rfl, hadr⟩⟩
  · simp only [RelV]
    exact ⟨i, hi', by omega, rfl, fun _ => ⟨by omega, _, by congr 1; omega, hadr⟩⟩

theorem eff_evSlice {t : TypeId} {x : Operand} {lo hi : Option Operand} (h : Ow S wl M0 M ρ ob w) {v : V} {xl xh : Option Int} (hx : RelV M ρ v (a.eval x))
    (hlo : match lo, xl with | none, none => True | some y, some n => ∃ k, a.eval y = .int k n | _, _ => False) (hhi : match hi, xh with | none, none => True | some y, some n => ∃ k, a.eval y = .int k n | _, _ => False) :
    (evSlice P ob t v xl xh).Good (EffV r P a (.slice t x lo hi none) S wl M0 M ρ ob w) := by
  unfold evSlice
  split
  · rename_i ht
    split
    · rename_i s
      intro z hz
      have hz := chk_some hz
      simp only [Bool.and_eq_true, decide_eq_true_eq] at hz
      obtain ⟨⟨h0, h1⟩, h2⟩ := hz
      have b1 := isB_get0 hlo h0
      have b2 := isB_get (dflt := s.length) hhi (by omega)
      have := run_sliceStr (w := w) ht (relV_str hx) b1 b2 (by omega) (by omega)
      have e1 : (xh.getD s.length).toNat - (xl.getD 0).toNat = (xh.getD s.length - xl.getD 0).toNat := by omega
      rw [e1] at this
      exact EffV.val h this rfl mk_str
    · trivial
  · rename_i e ht
    split
    · trivial
    · rename_i n hs
      split
      · rename_i sz es
        split
        · rename_i hn
          obtain rfl := Nat.eq_of_beq_eq_true hn
          intro es' hes
          exact slice_ro h ht hs hlo hhi (relV_d hx) hes
        · trivial
      · rename_i q g off
        split
        · rename_i g' sz es hr
          split
          · rename_i hg hn
            obtain rfl := Nat.eq_of_beq_eq_true hg
            obtain rfl := Nat.eq_of_beq_eq_true hn
            intro es' hes
            exact slice_ro h ht hs hlo hhi (fz_suf h hr hx) hes
          · trivial
        · rename_i g' e' sz es hr
          split
          · rename_i hg hn
            obtain rfl := Nat.eq_of_beq_eq_true hg
            obtain rfl := Nat.eq_of_beq_eq_true hn
            have hso := suf_osl h hr hx
            obtain ⟨i, hi0, _, hu0⟩ := relV_suf hx
            have hoff : off ≤ es.length := by
              obtain ⟨_, hg', _, hn', _⟩ := h.buf_heap hr hi0
              have := (hu0 hg'.symm).1
              omega
            split
            · intro z hz
              have hz := chk_some hz
              simp only [Bool.and_eq_true, decide_eq_true_eq] at hz
              obtain ⟨h0, h1⟩ := hz
              have b1 := isB_get0 hlo h0
              have b2 := isB_get (dflt := (es.drop off).length) (x := none) hhi (by simp)
              simp only [Option.getD_none, Int.toNat_natCast] at b2
              exact (slice_own h ht hs hr hso b1 b2 (by omega) (Nat.le_refl _)).2 (by rw [List.length_drop]) rfl hoff
            · rename_i hv
              intro z hz
              have hz := chk_some hz
              simp only [Bool.and_eq_true, decide_eq_true_eq] at hz
              obtain ⟨⟨h0, h1⟩, h2⟩ := hz
              have b1 := isB_get0 hlo h0
              have b2 := isB_get (dflt := (es.drop off).length) (x := some hv) hhi (by simp only [Option.getD_some]; omega)
              simp only [Option.getD_some] at b2
              have := (slice_own (r := r) (M0 := M0) h ht hs hr hso b1 b2 (by omega) (by omega)).1
              have e1 : hv.toNat - (xl.getD 0).toNat = (hv - xl.getD 0).toNat := by omega
              rw [e1] at this
              exact this
          · trivial
        · trivial
      · trivial
  · rename_i n e ht
    split
    · rename_i sz cs k hs
      split
      · rename_i hb
        intro es' hes
        exact slice_arr h ht hs hlo hhi (nb_le hb) hx hes
      · trivial
    · trivial
  · trivial
theorem eff_slice {t : TypeId} {x : Operand} {lo hi mx : Option Operand} (h : Ow S wl M0 M ρ ob w) (hev : ∀ x, RelV M ρ (ev x) (a.eval x)) : (evOp P ob d ty ev (.slice t x lo hi mx)).Good (EffV r P a (.slice t x lo hi mx) S wl M0 M ρ ob w) := by
  cases mx with
  | some m => trivial
  | none =>
    simp only [evOp]
    cases lo with
    | none =>
      cases hi with
      | none => exact eff_evSlice h (hev x) trivial trivial
      | some y =>
        dsimp only
        split
        · rename_i n hn; exact eff_evSlice h (hev x) trivial (iv_spec hn (hev y))
        · trivial
    | some z =>
      cases hi with
      | none =>
        dsimp only
        split
        · rename_i n hn; exact eff_evSlice h (hev x) (iv_spec hn (hev z)) trivial
        · trivial
      | some y =>
        dsimp only
        split
        · rename_i l n hl hn; exact eff_evSlice h (hev x) (iv_spec hl (hev z)) (iv_spec hn (hev y))
        · trivial
end
end Go.Proofs.YtilfjfpemjfalaaGreatDoor.Kx
