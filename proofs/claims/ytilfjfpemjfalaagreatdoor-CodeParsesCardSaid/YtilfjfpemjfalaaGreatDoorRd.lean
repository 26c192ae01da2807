/- The evaluator is sound: operations on values, variables, fields. -/
import Derived.Test.YtilfjfpemjfalaaGreatDoorRc
namespace Go.Proofs.YtilfjfpemjfalaaGreatDoor.Kx
open Go Go.RowKit

def Res.Good (G : V → Wr → Prop) : Res → Prop
  | .ok v wr => G v wr
  | .opt1 o k => ∀ x, o = some x → G (k x).1 (k x).2
  | .opt2 o k => ∀ x, o = some x → G (k x).1 (k x).2
  | _ => True

section
variable {M : Mem} {ρ : Rho}
theorem relV_d {x : Dat} {u : Value} (h : RelV M ρ (.d x) u) : RelD M x u := by simpa [RelV] using h
theorem relV_int {k : IntKind} {n : Int} {u : Value} (h : RelV M ρ (.d (.int k n)) u) : u = .int k n := by cases relV_d h; rfl
theorem relV_bool {b : Bool} {u : Value} (h : RelV M ρ (.d (.bool b)) u) : u = .bool b := by cases relV_d h; rfl
theorem relV_str {s : List UInt8} {u : Value} (h : RelV M ρ (.d (.str s)) u) : u = strv s := by cases relV_d h; rfl
theorem mk_int {k : IntKind} {n : Int} : RelV M ρ (.d (.int k n)) (.int k n) := by simp only [RelV]; constructor
theorem mk_bool {b : Bool} : RelV M ρ (.d (.bool b)) (.bool b) := by simp only [RelV]; constructor
theorem mk_str {s : List UInt8} : RelV M ρ (.d (.str s)) (strv s) := by simp only [RelV]; constructor
theorem relV_tup {vs : List V} {u : Value} (h : RelV M ρ (.tup vs) u) : ∃ us, u = .tuple us.toArray ∧ RelVs M ρ vs us := by simpa [RelV] using h
theorem relV_agg {vs : List V} {u : Value} (h : RelV M ρ (.agg vs) u) : ∃ us, u = .agg us.toArray ∧ RelVs M ρ vs us := by simpa [RelV] using h
theorem mk_agg {vs : List V} {us : List Value} (h : RelVs M ρ vs us) : RelV M ρ (.agg vs) (.agg us.toArray) := by simp only [RelV]; exact ⟨us, rfl, h⟩
theorem relV_ptr {r k : Nat} {u : Value} (h : RelV M ρ (.ptr r k) u) : ∃ i, ρ r = some i ∧ i.fix = true ∧ u = .pointer (some ⟨i.b, k, none⟩) := by simpa [RelV] using h
theorem relV_rp {cs : List Dat} {k : Nat} {u : Value} (h : RelV M ρ (.rp cs k) u) : ∃ b o us, u = .pointer (some ⟨b, o + k, none⟩) ∧ Cells M b o us ∧ RelDs M cs us := by simpa [RelV] using h

theorem RelVs.len : ∀ {vs : List V} {us : List Value}, RelVs M ρ vs us → us.length = vs.length
  | [], _, h => by simp only [RelVs] at h; rw [h]; rfl
  | _ :: _, _, h => by simp only [RelVs] at h; obtain ⟨u, us', e, _, h2⟩ := h; rw [e, List.length_cons, List.length_cons, h2.len]
theorem RelVs.get : ∀ {vs : List V} {us : List Value}, RelVs M ρ vs us → ∀ {j : Nat} {v : V}, vs[j]? = some v → ∃ u, us[j]? = some u ∧ RelV M ρ v u
  | [], _, _, _, _, h => by cases h
  | x :: _, _, h, j, v, hv => by
    simp only [RelVs] at h
    obtain ⟨u, us', rfl, h1, h2⟩ := h
    cases j with
    | zero => simp at hv; subst hv; exact ⟨u, rfl, h1⟩
    | succ j => simp at hv; obtain ⟨y, h3, h4⟩ := h2.get hv; exact ⟨y, by simpa using h3, h4⟩
theorem RelVs.append : ∀ {xs ys : List V} {us vs : List Value}, RelVs M ρ xs us → RelVs M ρ ys vs → RelVs M ρ (xs ++ ys) (us ++ vs)
  | [], _, _, _, h, k => by simp only [RelVs] at h; rw [h]; exact k
  | _ :: _, _, _, _, h, k => by
    simp only [RelVs] at h
    obtain ⟨u, us', rfl, h1, h2⟩ := h
    show RelVs M ρ (_ :: (_ ++ _)) _
    simp only [RelVs]
    exact ⟨u, us' ++ _, rfl, h1, h2.append k⟩
theorem RelVs.take : ∀ {xs : List V} {us : List Value} (n : Nat), RelVs M ρ xs us → RelVs M ρ (xs.take n) (us.take n)
  | _, _, 0, _ => by simp [RelVs]
  | [], _, n + 1, h => by simp only [RelVs] at h; rw [h]; simp [RelVs]
  | _ :: _, _, n + 1, h => by
    simp only [RelVs] at h
    obtain ⟨u, us', rfl, h1, h2⟩ := h
    simp only [List.take_succ_cons, RelVs]
    exact ⟨u, us'.take n, rfl, h1, h2.take n⟩
theorem RelVs.drop : ∀ {xs : List V} {us : List Value} (n : Nat), RelVs M ρ xs us → RelVs M ρ (xs.drop n) (us.drop n)
  | _, _, 0, h => h
  | [], _, n + 1, h => by simp only [RelVs] at h; rw [h]; simp [RelVs]
  | _ :: _, _, n + 1, h => by
    simp only [RelVs] at h
    obtain ⟨u, us', rfl, h1, h2⟩ := h
    exact h2.drop n
theorem RelVs.dV : ∀ {xs : List Dat} {us : List Value}, RelDs M xs us → RelVs M ρ (dV xs) us
  | [], _, h => by simp only [Kx.dV, RelVs]; exact h
  | _ :: _, _, ⟨u, us', e, h1, h2⟩ => by simp only [Kx.dV, RelVs, RelV]; exact ⟨u, us', e, h1, RelVs.dV h2⟩
theorem dV_length : ∀ (xs : List Dat), (dV xs).length = xs.length
  | [] => rfl
  | _ :: xs => by simp [dV, dV_length xs]

theorem isC_one : ∀ {v : V} {u : Value}, isC v = true → RelV M ρ v u → u.oneCell' = true
  | .d x, u, _, h => (relV_d h).one
  | .rp cs k, u, _, h => by obtain ⟨b, o, us, rfl, _⟩ := relV_rp h; rfl
  | .ptr r k, u, _, h => by obtain ⟨i, _, _, rfl⟩ := relV_ptr h; rfl
  | .suf r g off, u, _, h => by simp only [RelV] at h; obtain ⟨i, _, _, h1, _⟩ := h; exact h1
  | .osl r g off len, u, _, h => by simp only [RelV] at h; obtain ⟨i, _, _, h1, _⟩ := h; exact h1
  | .ept r g j k, u, _, h => by simp only [RelV] at h; obtain ⟨i, _, _, h1, _⟩ := h; exact h1
  | .esl _, u, _, h => by simp only [RelV] at h; obtain ⟨a, rfl⟩ := h; rfl
  | .mp r, u, _, h => by simp only [RelV] at h; obtain ⟨i, _, _, rfl⟩ := h; rfl
  | .yl r, u, _, h => by simp only [RelV] at h; obtain ⟨i, _, _, rfl⟩ := h; rfl
  | .fn f a b, u, _, h => by simp only [RelV] at h; obtain ⟨fs, cs, rfl, _⟩ := h; rfl
  | .agg _, _, h, _ => by cases h
  | .tup _, _, h, _ => by cases h
  | .undef, _, h, _ => by cases h
  | .un, _, h, _ => by cases h
theorem allC_one : ∀ {vs : List V} {us : List Value}, allC vs = true → RelVs M ρ vs us → ∀ u ∈ us, u.oneCell' = true
  | [], us, _, h, u, hu => by simp only [RelVs] at h; rw [h] at hu; cases hu
  | v :: vs, us, hc, h, x, hx => by
    simp only [RelVs] at h
    obtain ⟨u, us', rfl, h1, h2⟩ := h
    unfold allC at hc
    split at hc
    · rename_i hv
      rcases List.mem_cons.1 hx with rfl | hx
      · exact isC_one hv h1
      · exact allC_one hc h2 x hx
    · cases hc
/-- A value and its cells. -/
theorem cellsV_rel {v : V} {cs : List V} {u : Value} (hc : cellsV v = some cs) (h : RelV M ρ v u) : ∃ us, u.cells = us.toArray ∧ RelVs M ρ cs us ∧ (∀ u ∈ us, u.oneCell' = true) := by
  have one : ∀ {v : V}, isC v = true → RelV M ρ v u → ∃ us, u.cells = us.toArray ∧ RelVs M ρ [v] us ∧ (∀ u ∈ us, u.oneCell' = true) := fun {v} hv h =>
    ⟨[u], by rw [oneCell_cells (isC_one hv h)], by simp only [RelVs]; exact ⟨u, [], rfl, h, rfl⟩, fun x hx => by simp at hx; subst hx; exact isC_one hv h⟩
  cases v with
  | agg l =>
    obtain ⟨us, rfl, h1⟩ := relV_agg h
    simp only [cellsV] at hc
    split at hc
    · rename_i ha; cases hc; exact ⟨us, rfl, h1, allC_one ha h1⟩
    · cases hc
  | tup => cases hc
  | undef => cases hc
  | un => cases hc
  | _ => cases hc; exact one rfl h
theorem mkV_rel {ag : Bool} {cs : List V} {us : List Value} {n : Nat} (h : RelVs M ρ cs us) : (ag = false → us.length = 1) → RelV M ρ (mkV ag cs) (mkv ag us) := by
  intro h1
  cases ag with
  | true => exact mk_agg h
  | false =>
    have := h1 rfl
    match us, cs, this, h with
    | [u], [c], _, h => simp only [RelVs] at h; obtain ⟨_, _, e, h2, _⟩ := h; simp at e; obtain ⟨rfl, _⟩ := e; exact h2
    | [u], [], _, h => simp only [RelVs] at h; cases h
    | [u], _ :: _ :: _, _, _ => simp only [mkV, RelV]
end

section
variable {r : Option Nat} {P : Program} {a : Act} {w wl : World} {S : Hand} {M0 M : Mem} {ρ : Rho} {ob : Nat → Option IObj} {ev : Operand → V} {d : Nat} {ty : TypeId} {op : Op}

/-- The operation comes to v, and to these objects. -/
def EffV (r : Option Nat) (P : Program) (a : Act) (op : Op) (S : Hand) (wl : World) (M0 M : Mem) (ρ : Rho) (ob : Nat → Option IObj) (w : World) (v : V) (wr : Wr) : Prop :=
  Eff r P a op w (fun u w' => ∃ M' ρ', Rle M M' ρ ρ' ∧ Ow S wl M0 M' ρ' (wrO ob wr) w' ∧ RelV M' ρ' v u)
theorem EffV.val (h : Ow S wl M0 M ρ ob w) {u : Value} {v : V} (hr : Run P a op w u w) (hd : isDefer op = false) (hv : RelV M ρ v u) : EffV r P a op S wl M0 M ρ ob w v [] :=
  Eff.of_run hr hd ⟨M, ρ, Rle.refl _ _, h, hv⟩

theorem eff_pick {c x y : Operand} (h : Ow S wl M0 M ρ ob w) (hev : ∀ x, RelV M ρ (ev x) (a.eval x)) : (evOp P ob d ty ev (.pick c x y)).Good (EffV r P a (.pick c x y) S wl M0 M ρ ob w) := by
  simp only [evOp]
  split
  · rename_i b hb
    have hc := hev c
    rw [hb] at hc
    cases b with
    | true => exact EffV.val h (run_pick_t (relV_bool hc) rfl rfl) rfl (hev x)
    | false => exact EffV.val h (run_pick_f (relV_bool hc) rfl rfl) rfl (hev y)
  · trivial

theorem eff_unOp {o : UnOp} {t : TypeId} {x : Operand} (h : Ow S wl M0 M ρ ob w) (hev : ∀ x, RelV M ρ (ev x) (a.eval x)) : (evOp P ob d ty ev (.unOp o t x)).Good (EffV r P a (.unOp o t x) S wl M0 M ρ ob w) := by
  simp only [evOp]
  have hx := hev x
  split
  · rename_i b hb; rw [hb] at hx; exact EffV.val h (run_not (relV_bool hx)) rfl mk_bool
  · rename_i k n hb; rw [hb] at hx; exact EffV.val h (run_neg (relV_int hx)) rfl mk_int
  · trivial

theorem eff_convert {s t : TypeId} {x : Operand} (h : Ow S wl M0 M ρ ob w) (hev : ∀ x, RelV M ρ (ev x) (a.eval x)) : (match ev x, P.underlying s, P.underlying t with
    | .d (.int _ n), some _, some (.int k) => Res.ok (.d (.int k (k.wrap n))) []
    | _, _, _ => .bad).Good (EffV r P a (.convert s t x) S wl M0 M ρ ob w) := by
  have hx := hev x
  split
  · rename_i k n sd k' hb hs ht; rw [hb] at hx; exact EffV.val h (run_conv (relV_int hx) hs ht) rfl mk_int
  · trivial

theorem eff_extract {x : Operand} {i : Nat} (h : Ow S wl M0 M ρ ob w) (hev : ∀ x, RelV M ρ (ev x) (a.eval x)) : (evOp P ob d ty ev (.extract x i)).Good (EffV r P a (.extract x i) S wl M0 M ρ ob w) := by
  simp only [evOp]
  have hx := hev x
  split
  · rename_i vs hb
    rw [hb] at hx
    split
    · rename_i v hv
      obtain ⟨us, he, hr⟩ := relV_tup hx
      obtain ⟨u, h1, h2⟩ := hr.get hv
      exact EffV.val h (run_extract he h1) rfl h2
    · trivial
  · trivial

theorem evsV_rel {xs : List Operand} (hev : ∀ x, RelV M ρ (ev x) (a.eval x)) : RelVs M ρ (evsV ev xs) (xs.map a.eval) := by
  induction xs with
  | nil => simp only [evsV, RelVs, List.map_nil]
  | cons x xs ih => simp only [evsV, RelVs, List.map_cons]; exact ⟨_, _, rfl, hev x, ih⟩

theorem eff_makeFunc {fn : Fn} {first cap : Array Operand} (h : Ow S wl M0 M ρ ob w) (hev : ∀ x, RelV M ρ (ev x) (a.eval x)) : (evOp P ob d ty ev (.makeFunc fn first cap)).Good (EffV r P a (.makeFunc fn first cap) S wl M0 M ρ ob w) := by
  cases fn with
  | func f =>
    simp only [evOp, Res.Good]
    refine EffV.val h (run_makeFunc (fs := first.toList.map a.eval) (cs := cap.toList.map a.eval) (Array.ext' (by rw [Array.toList_map])) (Array.ext' (by rw [Array.toList_map]))) rfl ?_
    simp only [RelV]
    exact ⟨_, _, rfl, evsV_rel hev, evsV_rel hev⟩
  | _ => trivial

theorem chk_some {b : Bool} {x : List Dat} (h : chk b = some x) : b = true := by
  cases b with
  | true => rfl
  | false => cases h

theorem eff_evInt {o : BinOp} {t t' : TypeId} {x y : Operand} {k : IntKind} {m n : Int} {yc : Bool} (h : Ow S wl M0 M ρ ob w) (hx : a.eval x = .int k m) (hy : a.eval y = .int k n) :
    (evInt o k m n yc).Good (EffV r P a (.binOp o t x y t') S wl M0 M ρ ob w) := by
  have big : ∀ v, intOp o k m n = some v → ∀ v', RelV M ρ v' v → EffV r P a (.binOp o t x y t') S wl M0 M ρ ob w v' [] := fun v hv v' hr => EffV.val h (run_int hx hy hv) rfl hr
  unfold evInt
  cases o <;> dsimp only <;> first | trivial | exact big _ rfl _ mk_int | exact big _ rfl _ mk_bool | skip
  · cases yc with
    | true =>
      dsimp only
      split
      · rename_i hn; exact EffV.val h (run_quo hx hy (of_decide_eq_true hn)) rfl mk_int
      · trivial
    | false => intro z hz; exact EffV.val h (run_quo hx hy (of_decide_eq_true (chk_some hz))) rfl mk_int
  · cases yc with
    | true =>
      dsimp only
      split
      · rename_i hn; exact EffV.val h (run_rem hx hy (of_decide_eq_true hn)) rfl mk_int
      · trivial
    | false => intro z hz; exact EffV.val h (run_rem hx hy (of_decide_eq_true (chk_some hz))) rfl mk_int

theorem eff_evShift {o : BinOp} {t t' : TypeId} {x y : Operand} {k k' : IntKind} {m n : Int} {yc : Bool} (hs : isShift o = true) (h : Ow S wl M0 M ρ ob w) (hx : a.eval x = .int k m) (hy : a.eval y = .int k' n) :
    (evShift o k m n yc).Good (EffV r P a (.binOp o t x y t') S wl M0 M ρ ob w) := by
  have key : 0 ≤ n → EffV r P a (.binOp o t x y t') S wl M0 M ρ ob w (shV o k m n) [] := fun hn => by
    cases o <;> first | cases hs | skip
    · exact EffV.val h (run_shl hx hy hn) rfl mk_int
    · exact EffV.val h (run_shr hx hy hn) rfl mk_int
  unfold evShift
  cases yc with
  | true =>
    dsimp only
    split
    · rename_i hn; exact key (of_decide_eq_true hn)
    · trivial
  | false => intro z hz; exact key (of_decide_eq_true (chk_some hz))

theorem str_size (s : List UInt8) : (⟨s.toArray⟩ : ByteArray).size = s.length := rfl
theorem str_append (s u : List UInt8) : (⟨s.toArray⟩ : ByteArray) ++ ⟨u.toArray⟩ = ⟨(s ++ u).toArray⟩ := by
  apply ByteArray.ext
  simp [ByteArray.data_append]
theorem run_str_add {t t' : TypeId} {x y : Operand} {s u : List UInt8} (hx : a.eval x = strv s) (hy : a.eval y = strv u) (hl : s.length + u.length ≤ 4611686018427387904) : Run P a (.binOp .add t x y t') w (strv (s ++ u)) w := by
  intro d ty pos aft g
  have : ¬ (((⟨s.toArray⟩ : ByteArray).size + (⟨u.toArray⟩ : ByteArray).size : Nat) : Int) > IntKind.i64.max := by
    rw [str_size, str_size]; simp [IntKind.max, IntKind.signed, IntKind.bits]; omega
  simp [execOp, hx, hy, strv, eqGuard, binOp, Op.stringOp, this, str_append]
  show (s.length : Int) + (u.length : Int) ≤ 9223372036854775807
  omega
theorem str_beq (s u : List UInt8) : ((⟨s.toArray⟩ : ByteArray) == ⟨u.toArray⟩) = (s == u) := by
  show (s.toArray == u.toArray) = (s == u)
  simp
theorem run_equalIn_str (n : Nat) {t : TypeId} {s u : List UInt8} (ht : P.underlying t = some .string) : (Op.equalIn (n + 1) t (strv s) (strv u)).run P w = .ok (s == u) w := by
  simp only [Op.equalIn, Sem.run_bind, run_underlying ht, Result.andThen_ok, strv]
  rw [← str_beq]; rfl
theorem run_equal_str {t : TypeId} {s u : List UInt8} (ht : P.underlying t = some .string) : (Op.equal t (strv s) (strv u)).run P w = .ok (s == u) w := run_equalIn_str 9999 ht
end
end Go.Proofs.YtilfjfpemjfalaaGreatDoor.Kx
