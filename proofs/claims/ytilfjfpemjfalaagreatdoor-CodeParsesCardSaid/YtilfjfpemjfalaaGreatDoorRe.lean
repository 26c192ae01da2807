/- The evaluator is sound: strings, structs, variables. -/
import Derived.Test.YtilfjfpemjfalaaGreatDoorRd
namespace Go.Proofs.YtilfjfpemjfalaaGreatDoor.Kx
open Go Go.RowKit
section
variable {r : Option Nat} {P : Program} {a : Act} {w wl : World} {S : Hand} {M0 M : Mem} {ρ : Rho} {ob : Nat → Option IObj} {ev : Operand → V} {d : Nat} {ty : TypeId} {op : Op}

theorem str_toList (s : List UInt8) : (⟨s.toArray⟩ : ByteArray).toList = s := by
  simp
theorem run_str_eql {t t' : TypeId} {x y : Operand} {s u : List UInt8} (hx : a.eval x = strv s) (hy : a.eval y = strv u) : Run P a (.binOp .eql t x y t') w (.bool (s == u)) w := by
  intro d ty pos aft g
  simp [execOp, hx, hy, strv, eqGuard, binOp, Op.stringOp, str_toList]
theorem run_str_neq {t t' : TypeId} {x y : Operand} {s u : List UInt8} (hx : a.eval x = strv s) (hy : a.eval y = strv u) : Run P a (.binOp .neq t x y t') w (.bool (!(s == u))) w := by
  intro d ty pos aft g
  simp [execOp, hx, hy, strv, eqGuard, binOp, Op.stringOp, str_toList]

theorem eff_binOp {o : BinOp} {t t' : TypeId} {x y : Operand} (h : Ow S wl M0 M ρ ob w) (hev : ∀ x, RelV M ρ (ev x) (a.eval x)) : (evBin P o t (ev x) (ev y) (isConst y)).Good (EffV r P a (.binOp o t x y t') S wl M0 M ρ ob w) := by
  have hx := hev x
  have hy := hev y
  generalize ev x = vx at *
  generalize ev y = vy at *
  unfold evBin
  split
  · have hx := relV_int hx
    have hy := relV_int hy
    split
    · rename_i hs; exact eff_evShift hs h hx hy
    · split
      · rename_i hk; obtain rfl := ikb_eq hk; exact eff_evInt h hx hy
      · trivial
  · have hx := relV_bool hx
    have hy := relV_bool hy
    split
    · rename_i ht
      split
      · exact EffV.val h (run_eqb hx hy ht) rfl mk_bool
      · exact EffV.val h (run_neb hx hy ht) rfl mk_bool
      · trivial
    · trivial
  · have hx := relV_str hx
    have hy := relV_str hy
    split
    · intro z hz; exact EffV.val h (run_str_add hx hy (of_decide_eq_true (chk_some hz))) rfl mk_str
    · exact EffV.val h (run_str_eql hx hy) rfl mk_bool
    · exact EffV.val h (run_str_neq hx hy) rfl mk_bool
    · trivial
  · trivial

/-! ### Variables -/
theorem nb_le {a b : Nat} (h : Nat.ble a b = true) : a ≤ b := Nat.le_of_ble_eq_true h
theorem get_slice {us cs : List Value} {k n : Nat} (h : us = (cs.drop k).take n) {j : Nat} {v : Value} (hj : us[j]? = some v) : cs[k + j]? = some v := by
  subst h
  rw [List.getElem?_take] at hj
  split at hj
  · rwa [List.getElem?_drop] at hj
  · cases hj
theorem Ow.box_heap {te : TypeId} (h : Ow S wl M0 M ρ ob w) {r : Nat} {cs : List V} (hr : ob r = some (.box te cs)) {i : Inf} (hi : ρ r = some i) : ∃ us e, w.heap[i.b]? = some (.cells us.toArray e (0, 0)) ∧ RelVs M ρ cs us ∧ (∀ u ∈ us, u.oneCell' = true) ∧ e = te := by
  obtain ⟨j, h1, h2⟩ := h.own r _ hr
  rw [hi] at h1; cases h1
  exact h2.2.2
theorem relV_d' {M : Mem} {ρ : Rho} {x : Dat} {u : Value} (h : RelD M x u) : RelV M ρ (.d x) u := by simp only [RelV]; exact h
theorem take_len {α : Type} {cs : List α} {k n : Nat} (h : k + n ≤ cs.length) : ((cs.drop k).take n).length = n := by simp; omega

theorem load_box {te t : TypeId} {x : Operand} (h : Ow S wl M0 M ρ ob w) {n : Nat} {ag : Bool} (hz : szT P t = some (n, ag)) {rr k : Nat} {cs : List V} (hx : RelV M ρ (.ptr rr k) (a.eval x)) (hr : ob rr = some (.box te cs)) (hl : k + n ≤ cs.length) :
    EffV r P a (.load t x) S wl M0 M ρ ob w (mkV ag ((cs.drop k).take n)) [] := by
  obtain ⟨hs, ha, h1⟩ := szT_spec hz
  obtain ⟨i, hi, hf, hp⟩ := relV_ptr hx
  obtain ⟨us, e, hw, hrel, _⟩ := h.box_heap hr hi
  have hlen := hrel.len
  have hu : ((us.drop k).take n).length = n := take_len (by omega)
  refine EffV.val h (run_load (vs := (us.drop k).take n) hp ha (by rw [hu]; exact hs) (fun e => by rw [hu]; exact h1 e) (fun j v hj => ?_)) rfl (mkV_rel (n := n) ((hrel.drop k).take n) (fun e => by rw [hu]; exact h1 e))
  have := get_slice rfl hj
  simp [World.cell?, hw, this]
theorem load_fzb {t : TypeId} {x : Operand} (h : Ow S wl M0 M ρ ob w) {n : Nat} {ag : Bool} (hz : szT P t = some (n, ag)) {rr k : Nat} {cs : List V} (hx : RelV M ρ (.ptr rr k) (a.eval x)) (hr : ob rr = some (.fzb cs)) (hl : k + n ≤ cs.length) :
    EffV r P a (.load t x) S wl M0 M ρ ob w (mkV ag ((cs.drop k).take n)) [] := by
  obtain ⟨hs, ha, h1⟩ := szT_spec hz
  obtain ⟨i, hi, hf, hp⟩ := relV_ptr hx
  obtain ⟨j, hj, _, c, us, hM, hP, hrel, _⟩ := h.own rr _ hr
  rw [hi] at hj; cases hj
  have hlen := hrel.len
  have hu : ((us.drop k).take n).length = n := take_len (by omega)
  refine EffV.val h (run_load (vs := (us.drop k).take n) hp ha (by rw [hu]; exact hs) (fun e => by rw [hu]; exact h1 e) (fun j v hj => ?_)) rfl (mkV_rel (n := n) ((hrel.drop k).take n) (fun e => by rw [hu]; exact h1 e))
  exact h.sits.cell hM (hP _ _ (by simpa using get_slice rfl hj))
theorem load_rp {t : TypeId} {x : Operand} (h : Ow S wl M0 M ρ ob w) {n : Nat} {ag : Bool} (hz : szT P t = some (n, ag)) {b o k : Nat} {cs : List Dat} {us : List Value} (hx : a.eval x = .pointer (some ⟨b, o + k, none⟩)) (hc : Cells M b o us) (hrel : RelDs M cs us) (hl : k + n ≤ cs.length) :
    EffV r P a (.load t x) S wl M0 M ρ ob w (mkV ag (dV ((cs.drop k).take n))) [] := by
  obtain ⟨hs, ha, h1⟩ := szT_spec hz
  have hlen := hrel.len
  have hu : ((us.drop k).take n).length = n := take_len (by omega)
  refine EffV.val h (run_load (vs := (us.drop k).take n) hx ha (by rw [hu]; exact hs) (fun e => by rw [hu]; exact h1 e) (fun j v hj => ?_)) rfl (mkV_rel (n := n) (RelVs.dV ((hrel.drop k).take n)) (fun e => by rw [hu]; exact h1 e))
  have := hc.cell h.sits (get_slice rfl hj)
  rwa [← Nat.add_assoc] at this

/-! ### An element of an own slice -/
theorem Ow.buf_heap (h : Ow S wl M0 M ρ ob w) {r g sz : Nat} {e : TypeId} {es : List (List Dat)} (hr : ob r = some (.buf g e sz es)) {i : Inf} (hi : ρ r = some i) :
    i.fix = false ∧ i.g = g ∧ i.sz = sz ∧ i.n = es.length ∧ i.n ≤ i.tot ∧ i.tot ≤ maxLen ∧ (0 < i.tot → MineB S wl M i g ∧ ∃ pre us sp, w.heap[i.b]? = some (.cells (pre ++ (us ++ sp)).toArray e (0, 0)) ∧ pre.length = i.base * sz ∧ (us ++ sp).length = i.tot * sz ∧ rL (rDs sz) M us es) := by
  obtain ⟨j, h1, h2⟩ := h.own r _ hr
  rw [hi] at h1; cases h1
  exact h2
theorem relV_ept {M : Mem} {ρ : Rho} {r g j k : Nat} {u : Value} (h : RelV M ρ (.ept r g j k) u) : ∃ i, ρ r = some i ∧ g ≤ i.g ∧ (g = i.g → j < i.n ∧ u = .pointer (some ⟨i.b, (i.base + j) * i.sz + k, none⟩)) := by
  simp only [RelV] at h; obtain ⟨i, h1, h2, _, h3⟩ := h; exact ⟨i, h1, h2, h3⟩
theorem load_ept {t : TypeId} {x : Operand} (h : Ow S wl M0 M ρ ob w) {n : Nat} {ag : Bool} (hz : szT P t = some (n, ag)) {rr g j k sz : Nat} {e : TypeId} {es : List (List Dat)} {cs : List Dat} (hx : RelV M ρ (.ept rr g j k) (a.eval x)) (hr : ob rr = some (.buf g e sz es)) (hl : k + n ≤ sz) (hj : es[j]? = some cs) :
    EffV r P a (.load t x) S wl M0 M ρ ob w (mkV ag (dV ((cs.drop k).take n))) [] := by
  obtain ⟨hs, ha, h1⟩ := szT_spec hz
  obtain ⟨i, hi, hg, hp⟩ := relV_ept hx
  obtain ⟨_, hg', hsz, hn, ht, _, hh⟩ := h.buf_heap hr hi
  obtain ⟨hjn, hp⟩ := hp hg'.symm
  obtain ⟨_, pre, us, sp, hw, hpre, hlen, hrel⟩ := hh (by omega)
  obtain ⟨u, hu, hc⟩ := rL_get hrel hj
  have hul : u.length = sz := (rDs sz).len hu
  have hcl : cs.length = sz := hu.1
  have hu' : ((u.drop k).take n).length = n := take_len (by omega)
  refine EffV.val h (run_load (vs := (u.drop k).take n) hp ha (by rw [hu']; exact hs) (fun e => by rw [hu']; exact h1 e) (fun q v hq => ?_)) rfl (mkV_rel (n := n) (RelVs.dV ((hu.2.drop k).take n)) (fun e => by rw [hu']; exact h1 e))
  have h3 := get_slice rfl hq
  have h4 : k + q < u.length := (List.getElem?_eq_some_iff.1 h3).1
  have h5 := hc (k + q) h4
  rw [h3] at h5
  have e1 : (rDs sz).n = sz := rfl
  rw [e1] at h5
  have h6 := (List.getElem?_eq_some_iff.1 h5).1
  simp only [World.cell?, hw]
  simp
  have e2 : (i.base + j) * i.sz + k + q = pre.length + (j * sz + (k + q)) := by rw [hpre, hsz, Nat.add_mul]; omega
  rw [e2, List.getElem?_append_right (by omega), Nat.add_sub_cancel_left, List.getElem?_append_left h6, h5]

theorem eff_load {t : TypeId} {x : Operand} (h : Ow S wl M0 M ρ ob w) (hev : ∀ x, RelV M ρ (ev x) (a.eval x)) : (evOp P ob d ty ev (.load t x)).Good (EffV r P a (.load t x) S wl M0 M ρ ob w) := by
  simp only [evOp]
  have hx := hev x
  generalize ev x = vx at *
  unfold evLoad
  split
  · rename_i n ag hz
    split
    · rename_i cs k
      split
      · rename_i hl
        obtain ⟨b, o, us, h1, h2, h3⟩ := relV_rp hx
        exact load_rp h hz h1 h2 h3 (nb_le hl)
      · trivial
    · rename_i rr k
      split
      · rename_i cs hr
        split
        · rename_i hl; exact load_box h hz hx hr (nb_le hl)
        · trivial
      · rename_i cs hr
        split
        · rename_i hl
          exact load_fzb h hz hx hr (nb_le hl)
        · trivial
      · trivial
    · rename_i rr g j k
      split
      · rename_i g' e sz es hr
        split
        · rename_i hg hl
          obtain rfl := Nat.eq_of_beq_eq_true hg
          intro cs hcs
          exact load_ept h hz hx hr (nb_le hl) hcs
        · trivial
      · trivial
    · trivial
  · trivial
end
end Go.Proofs.YtilfjfpemjfalaaGreatDoor.Kx
