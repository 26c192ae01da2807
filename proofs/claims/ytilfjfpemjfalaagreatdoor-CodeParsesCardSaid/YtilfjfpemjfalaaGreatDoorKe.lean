/- The operations, one lemma each: what each yields, from what its operands are. -/
import Derived.Test.YtilfjfpemjfalaaGreatDoorKd
import Derived.Laws.AppendOwn
import Derived.ChangeKeysEq
namespace Go.Proofs.YtilfjfpemjfalaaGreatDoor.Kx
open Go Go.RowKit
section
variable {P : Program} {a : Act} {w : World}

/-! ### Values alone -/
theorem run_move {x : Operand} {v : Value} (h : a.eval x = v) : Run P a (.move x) w v w := by
  intro d ty pos aft g; simp [execOp, h]
theorem run_assign {x : Operand} {v : Value} (h : a.eval x = v) : Run P a (.assign x) w v w := by
  intro d ty pos aft g; simp [execOp, h]
theorem run_pick {c x y : Operand} {b : Bool} {v : Value} (hc : a.eval c = .bool b) (h : (match b with | true => a.eval x | false => a.eval y) = v) : Run P a (.pick c x y) w v w := by
  intro d ty pos aft g
  subst h
  cases b <;> simp [execOp, hc, asBool]
theorem run_pick_t {c x y : Operand} {b : Bool} {v : Value} (hc : a.eval c = .bool b) (hb : b = true) (h : a.eval x = v) : Run P a (.pick c x y) w v w := by
  subst hb; exact run_pick hc h
theorem run_pick_f {c x y : Operand} {b : Bool} {v : Value} (hc : a.eval c = .bool b) (hb : b = false) (h : a.eval y = v) : Run P a (.pick c x y) w v w := by
  subst hb; exact run_pick hc h
theorem run_not {x : Operand} {t : TypeId} {b : Bool} (h : a.eval x = .bool b) : Run P a (.unOp .not t x) w (.bool (!b)) w := by
  intro d ty pos aft g; simp [execOp, h, Op.unary]
theorem run_neg {x : Operand} {t : TypeId} {k : IntKind} {m : Int} (h : a.eval x = .int k m) : Run P a (.unOp .neg t x) w (.int k (k.wrap (0 - m))) w := by
  intro d ty pos aft g; simp [execOp, h, Op.unary, Op.intArith]
theorem run_extract {x : Operand} {vs : List Value} {i : Nat} {v : Value} (h : a.eval x = .tuple vs.toArray) (hv : vs[i]? = some v) : Run P a (.extract x i) w v w := by
  intro d ty pos aft g; simp [execOp, h, Instr.extract, hv]
theorem run_nilCheck {x : Operand} {p : Addr} (h : a.eval x = .pointer (some p)) : Run P a (.nilCheck x) w (.pointer (some p)) w := by
  intro d ty pos aft g; simp [execOp, h]
theorem run_makeFunc {fn : Fn} {first captured : Array Operand} {fs cs : List Value} (hf : first.map a.eval = fs.toArray) (hc : captured.map a.eval = cs.toArray) : Run P a (.makeFunc fn first captured) w (.func fn fs.toArray cs.toArray) w := by
  intro d ty pos aft g; simp [execOp, Instr.makeFunc, hf, hc]

/-- What an operator comes to on two integers of one kind. -/
def intOp (op : BinOp) (k : IntKind) (m n : Int) : Option Value :=
  match op with
  | .add => some (.int k (k.wrap (m + n)))
  | .sub => some (.int k (k.wrap (m - n)))
  | .mul => some (.int k (k.wrap (m * n)))
  | .eql => some (.bool (m == n))
  | .neq => some (.bool (m != n))
  | .lss => some (.bool (decide (m < n)))
  | .leq => some (.bool (decide (m ≤ n)))
  | .gtr => some (.bool (decide (m > n)))
  | .geq => some (.bool (decide (m ≥ n)))
  | .and => some (.int k (k.wrap (BitVec.ofInt k.bits m &&& BitVec.ofInt k.bits n).toNat))
  | .or => some (.int k (k.wrap (BitVec.ofInt k.bits m ||| BitVec.ofInt k.bits n).toNat))
  | .xor => some (.int k (k.wrap (BitVec.ofInt k.bits m ^^^ BitVec.ofInt k.bits n).toNat))
  | .andNot => some (.int k (k.wrap (BitVec.ofInt k.bits m &&& ~~~ BitVec.ofInt k.bits n).toNat))
  | _ => none
theorem run_int {op : BinOp} {t u : TypeId} {x y : Operand} {k : IntKind} {m n : Int} {v : Value} (hx : a.eval x = .int k m) (hy : a.eval y = .int k n) (h : intOp op k m n = some v) : Run P a (.binOp op t x y u) w v w := by
  intro d ty pos aft g
  cases op <;> simp [intOp] at h <;> subst h <;> simp [execOp, hx, hy, eqGuard, binOp, Op.intArith, Op.intCmp, Op.intBits]
theorem run_quo {t u : TypeId} {x y : Operand} {k : IntKind} {m n : Int} (hx : a.eval x = .int k m) (hy : a.eval y = .int k n) (h : n ≠ 0) : Run P a (.binOp .quo t x y u) w (.int k (k.wrap (m.tdiv n))) w := by
  intro d ty pos aft g
  simp [execOp, hx, hy, eqGuard, binOp, Op.intDiv, h]
theorem run_rem {t u : TypeId} {x y : Operand} {k : IntKind} {m n : Int} (hx : a.eval x = .int k m) (hy : a.eval y = .int k n) (h : n ≠ 0) : Run P a (.binOp .rem t x y u) w (.int k (m.tmod n)) w := by
  intro d ty pos aft g
  simp [execOp, hx, hy, eqGuard, binOp, Op.intDiv, h]
theorem run_shl {t u : TypeId} {x y : Operand} {k k' : IntKind} {m n : Int} (hx : a.eval x = .int k m) (hy : a.eval y = .int k' n) (h : 0 ≤ n) : Run P a (.binOp .shl t x y u) w (.int k (k.wrap (m * 2 ^ (min n.toNat k.bits)))) w := by
  intro d ty pos aft g
  have : ¬ n < 0 := by omega
  simp [execOp, hx, hy, eqGuard, binOp, Op.shift, this]
theorem run_shr {t u : TypeId} {x y : Operand} {k k' : IntKind} {m n : Int} (hx : a.eval x = .int k m) (hy : a.eval y = .int k' n) (h : 0 ≤ n) : Run P a (.binOp .shr t x y u) w (.int k (m.fdiv (2 ^ (min n.toNat k.bits)))) w := by
  intro d ty pos aft g
  have : ¬ n < 0 := by omega
  simp [execOp, hx, hy, eqGuard, binOp, Op.shift, this]
theorem run_conv {s t : TypeId} {x : Operand} {k k' : IntKind} {m : Int} {sd : TypeDesc} (hx : a.eval x = .int k m) (hs : P.underlying s = some sd) (ht : P.underlying t = some (.int k')) : Run P a (.convert s t x) w (.int k' (k'.wrap m)) w := by
  intro d ty pos aft g
  have hc : (convert s t (.int k m)).run P w = .ok (.int k' (k'.wrap m)) w := by
    simp only [convert, Sem.run_bind, run_underlying hs, run_underlying ht, Result.andThen_ok]
    rfl
  simp [execOp, hx, hc]
theorem run_equalIn_bool (d : Nat) {t : TypeId} {b c : Bool} (ht : P.underlying t = some .bool) : (Op.equalIn (d + 1) t (.bool b) (.bool c)).run P w = .ok (b == c) w := by
  simp only [Op.equalIn, Sem.run_bind, run_underlying ht, Result.andThen_ok]
  rfl
theorem run_equal_bool {t : TypeId} {b c : Bool} (ht : P.underlying t = some .bool) : (Op.equal t (.bool b) (.bool c)).run P w = .ok (b == c) w := run_equalIn_bool 9999 ht
/-- Two bools compared. -/
theorem run_eqb {t u : TypeId} {x y : Operand} {b c : Bool} (hx : a.eval x = .bool b) (hy : a.eval y = .bool c) (ht : P.underlying t = some .bool) : Run P a (.binOp .eql t x y u) w (.bool (b == c)) w := by
  intro d ty pos aft g
  have hb : binOp .eql t (.bool b) (.bool c) = (do pure (.bool (← Op.equal t (.bool b) (.bool c)))) := rfl
  have hg : eqGuard .eql t x y (.bool b) (.bool c) = pure () := rfl
  simp [execOp, hx, hy, hg, hb, run_equal_bool ht]
theorem run_neb {t u : TypeId} {x y : Operand} {b c : Bool} (hx : a.eval x = .bool b) (hy : a.eval y = .bool c) (ht : P.underlying t = some .bool) : Run P a (.binOp .neq t x y u) w (.bool (!(b == c))) w := by
  intro d ty pos aft g
  have hb : binOp .neq t (.bool b) (.bool c) = (do let e ← Op.equal t (.bool b) (.bool c); pure (.bool (!e))) := rfl
  have hg : eqGuard .neq t x y (.bool b) (.bool c) = pure () := rfl
  simp [execOp, hx, hy, hg, hb, run_equal_bool ht]

/-! ### Length, elements, fields -/
theorem run_len_slice {x : Operand} {t : TypeId} {e : TypeId} {p : Option Addr} {n c : Nat} (hx : a.eval x = .slice p n c) (ht : P.underlying t = some (.slice e)) : Run P a (.call { callee := .builtin .len, args := #[x], argTypes := #[t] }) w (.int .i64 n) w := by
  intro d ty pos aft g
  simp [execOp, resolve, invoke, builtin, hx, Builtin.len_, run_underlying ht, goInt]
theorem run_len_str {x : Operand} {t : TypeId} {s : List UInt8} (hx : a.eval x = strv s) (ht : P.underlying t = some .string) : Run P a (.call { callee := .builtin .len, args := #[x], argTypes := #[t] }) w (.int .i64 s.length) w := by
  intro d ty pos aft g
  have : (⟨s.toArray⟩ : ByteArray).size = s.length := rfl
  simp [execOp, resolve, invoke, builtin, hx, strv, Builtin.len_, run_underlying ht, goInt, this]
theorem run_len_arr {x : Operand} {t e : TypeId} {n : Nat} (ht : P.underlying t = some (.array n e)) : Run P a (.call { callee := .builtin .len, args := #[x], argTypes := #[t] }) w (.int .i64 n) w := by
  intro d ty pos aft g
  simp [execOp, resolve, invoke, builtin, Builtin.len_, run_underlying ht, goInt]

def sizeT (P : Program) (t : TypeId) : Option Nat := (P.info? t).map (·.size)
theorem run_sizeT {t : TypeId} {n : Nat} (h : sizeT P t = some n) : (sizeOf t).run P w = .ok n w := by
  unfold sizeT at h
  cases hi : P.info? t with
  | none => rw [hi] at h; cases h
  | some i => rw [hi] at h; simp at h; subst h; simp [sizeOf, typeInfo, hi]

theorem add_zero_off (b o n : Nat) : (⟨b, o, none⟩ : Addr).add n = ⟨b, o + n, none⟩ := by
  unfold Addr.add; split <;> simp_all

theorem run_indexAddr {x y : Operand} {t e : TypeId} {b o n c s : Nat} {k : IntKind} {i : Nat} (hx : a.eval x = .slice (some ⟨b, o, none⟩) n c) (hy : a.eval y = .int k i) (ht : P.underlying t = some (.slice e)) (hs : sizeT P e = some s) (hi : i < n) :
    Run P a (.indexAddr t x y) w (.pointer (some ⟨b, o + i * s, none⟩)) w := by
  intro d ty pos aft g
  have h2 : (0 : Int) ≤ (i : Int) ∧ (i : Int) < (n : Int) := by omega
  simp only [execOp, Instr.indexAt, asIntOf, hx, hy, Sem.run_bind, Sem.run_pure, Result.andThen_ok, run_underlying ht]
  rw [if_pos h2]
  simp [run_sizeT hs, add_zero_off]
theorem run_indexAddr_arr {x y : Operand} {t e : TypeId} {b o n s : Nat} {k : IntKind} {i : Nat} (hx : a.eval x = .pointer (some ⟨b, o, none⟩)) (hy : a.eval y = .int k i) (ht : P.underlying t = some (.array n e)) (hs : sizeT P e = some s) (hi : i < n) :
    Run P a (.indexAddr t x y) w (.pointer (some ⟨b, o + i * s, none⟩)) w := by
  intro d ty pos aft g
  have h2 : (0 : Int) ≤ (i : Int) ∧ (i : Int) < (n : Int) := by omega
  simp only [execOp, Instr.indexAt, Instr.sureAddr, asIntOf, hx, hy, Sem.run_bind, Sem.run_pure, Result.andThen_ok, run_underlying ht]
  rw [if_pos h2]
  simp [run_sizeT hs, add_zero_off]

/-- Where a struct's field lies: its first cell, and that it has cells. -/
def fieldT (P : Program) (t : TypeId) (i : Nat) : Option Nat :=
  match P.underlying t with
  | some (.struct fs) => match fs[i]? with
    | some f => match sizeT P f.type with
      | some 0 => none
      | some _ => some f.offset
      | none => none
    | none => none
  | _ => none
theorem run_fieldAddr {x : Operand} {t : TypeId} {b o o' i k : Nat} (hx : a.eval x = .pointer (some ⟨b, o, none⟩)) (hf : fieldT P t i = some k) (ho : o + k = o') : Run P a (.fieldAddr t x i) w (.pointer (some ⟨b, o', none⟩)) w := by
  intro d ty pos aft g
  subst ho
  unfold fieldT at hf
  split at hf
  · rename_i fs hu
    split at hf
    · rename_i f hfi
      split at hf
      · cases hf
      · rename_i n hn hs
        simp at hf; subst hf
        have hs' : n ≠ 0 := fun e => by subst e; exact hn rfl
        simp [execOp, Instr.fieldAt, Instr.sureAddr, run_underlying hu, hfi, hx, fieldPlace, run_sizeT hs, hs', add_zero_off]
      · cases hf
    · cases hf
  · cases hf

def aggT (P : Program) (t : TypeId) : Option Bool :=
  match P.underlying t with
  | some (.struct _) | some (.array _ _) => some true
  | some _ => some false
  | none => none
theorem run_aggT {t : TypeId} {b : Bool} (h : aggT P t = some b) : (isAgg t).run P w = .ok b w := by
  unfold aggT at h
  cases hu : P.underlying t with
  | none => rw [hu] at h; cases h
  | some u =>
    rw [hu] at h
    cases u <;> simp at h <;> subst h <;> simp [isAgg, run_underlying hu]

/-- A load: agg says whether the type is a struct or an array. -/
theorem run_load {x : Operand} {t : TypeId} {b o : Nat} {vs : List Value} {agg : Bool} (hx : a.eval x = .pointer (some ⟨b, o, none⟩)) (ht : aggT P t = some agg) (hs : sizeT P t = some vs.length) (h1 : agg = false → vs.length = 1)
    (hc : ∀ j v, vs[j]? = some v → w.cell? ⟨b, o + j, none⟩ = some v) : Run P a (.load t x) w (mkv agg vs) w := by
  intro d ty pos aft g
  cases agg with
  | true =>
    have := run_loadCells_list (P := P) w ⟨b, o, none⟩ vs (fun j v hv => by rw [add_zero_off]; exact hc j v hv)
    simp [execOp, Instr.loadAt, Instr.sureAddr, hx, loadVar, run_aggT ht, run_sizeT hs, this, mkv]
  | false =>
    match vs, h1 rfl with
    | [v], _ =>
      have := hc 0 v rfl
      simp only [Nat.add_zero] at this
      simp [execOp, Instr.loadAt, Instr.sureAddr, hx, loadVar, run_aggT ht, this, mkv]

/-- A field, an element of a value. -/
theorem run_part {t : TypeId} {cs vs : List Value} {o : Nat} {agg : Bool} (ht : aggT P t = some agg) (hs : sizeT P t = some vs.length) (h1 : agg = false → vs.length = 1)
    (hc : ∀ j, j < vs.length → cs[o + j]? = vs[j]?) : (part t cs.toArray o).run P w = .ok (mkv agg vs) w := by
  cases agg with
  | true =>
    have : cs.toArray.extract o (o + vs.length) = vs.toArray := by
      apply Array.ext'
      simp only [Array.toList_extract, List.extract_eq_take_drop, Nat.add_sub_cancel_left]
      show _ = vs
      apply List.ext_getElem?
      intro j
      by_cases hj : j < vs.length
      · rw [List.getElem?_take_of_lt hj, List.getElem?_drop, hc j hj]
      · rw [List.getElem?_eq_none (by simp; omega), List.getElem?_eq_none (by omega)]
    simp only [part, Sem.run_bind, run_aggT ht, Result.andThen_ok, run_sizeT hs, this, if_true]
    rfl
  | false =>
    match vs, h1 rfl with
    | [v], _ =>
      have := hc 0 (by simp)
      simp only [Nat.add_zero] at this
      simp [part, run_aggT ht, this, mkv]
theorem run_field {x : Operand} {t u : TypeId} {i o : Nat} {fs : Array Field} {fd : Field} {cs vs : List Value} {agg : Bool} (hx : a.eval x = .agg cs.toArray) (ht : P.underlying t = some (.struct fs)) (hf : fs[i]? = some fd) (hu : fd.type = u) (ho : fd.offset = o)
    (hg : aggT P u = some agg) (hs : sizeT P u = some vs.length) (h1 : agg = false → vs.length = 1) (hc : ∀ j, j < vs.length → cs[o + j]? = vs[j]?) : Run P a (.field t x i) w (mkv agg vs) w := by
  intro d ty pos aft g
  subst hu; subst ho
  simp [execOp, Instr.field, run_underlying ht, hf, hx, asAgg, run_part hg hs h1 hc]
theorem run_index {x y : Operand} {t e : TypeId} {n s : Nat} {k : IntKind} {i : Nat} {cs vs : List Value} {agg : Bool} (hx : a.eval x = .agg cs.toArray) (hy : a.eval y = .int k i) (ht : P.underlying t = some (.array n e)) (hi : i < n)
    (hg : aggT P e = some agg) (hs : sizeT P e = some s) (hl : vs.length = s) (h1 : agg = false → vs.length = 1) (hc : ∀ j, j < vs.length → cs[i * s + j]? = vs[j]?) : Run P a (.index t x y) w (mkv agg vs) w := by
  intro d ty pos aft g
  subst hl
  have h2 : (0 : Int) ≤ (i : Int) ∧ (i : Int) < (n : Int) := by omega
  simp only [execOp, Instr.index, asIntOf, hx, hy, Sem.run_bind, Sem.run_pure, Result.andThen_ok, run_underlying ht]
  rw [if_pos h2]
  simp [run_sizeT hs, run_part hg hs h1 hc]
theorem run_index_str {x y : Operand} {t : TypeId} {k : IntKind} {i : Nat} {s : List UInt8} {c : UInt8} (hx : a.eval x = strv s) (hy : a.eval y = .int k i) (ht : P.underlying t = some .string) (hi : s[i]? = some c) : Run P a (.index t x y) w (.int .u8 c.toNat) w := by
  intro d ty pos aft g
  have hlt : i < s.length := (List.getElem?_eq_some_iff.1 hi).1
  have : (⟨s.toArray⟩ : ByteArray)[i]? = some c := by
    have hsz : i < (⟨s.toArray⟩ : ByteArray).size := by simpa [ByteArray.size] using hlt
    rw [getElem?_pos (⟨s.toArray⟩ : ByteArray) i hsz, ← (List.getElem?_eq_some_iff.1 hi).2]
    rfl
  simp [execOp, Instr.index, asIntOf, hx, hy, strv, run_underlying ht, this]
end
end Go.Proofs.YtilfjfpemjfalaaGreatDoor.Kx
