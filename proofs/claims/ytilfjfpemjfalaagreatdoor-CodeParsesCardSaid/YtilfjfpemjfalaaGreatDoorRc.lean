/- What an operation comes to, reckoned on abstract values. -/
import Derived.Test.YtilfjfpemjfalaaGreatDoorRb
namespace Go.Proofs.YtilfjfpemjfalaaGreatDoor.Kx
open Go Go.RowKit

abbrev Wr := List (Nat × IObj)
/-- opt1, opt2: where a look-up or a check has an answer, this is what comes of it. -/
inductive Res where
  | bad
  | ok (v : V) (wr : Wr)
  | opt1 (o : Option (List Dat)) (k : List Dat → V × Wr)
  | opt2 (o : Option (List (List Dat))) (k : List (List Dat) → V × Wr)
  | call (f : FuncId) (args : List V)

def obGet : List (Nat × IObj) → Nat → Option IObj
  | [], _ => none
  | (r, o) :: l, s => match Nat.beq s r with | true => some o | false => obGet l s
def obSet : List (Nat × IObj) → Nat → IObj → List (Nat × IObj)
  | [], d, o => [(d, o)]
  | (r, x) :: l, d, o => match Nat.beq d r with | true => (r, o) :: l | false => (r, x) :: obSet l d o
theorem obGet_set : ∀ (l : List (Nat × IObj)) (d : Nat) (o : IObj), obGet (obSet l d o) = updO (obGet l) d o
  | [], d, o => by
    funext s
    simp only [obSet, obGet, updO]
    cases Nat.beq s d <;> rfl
  | (r, x) :: l, d, o => by
    funext s
    have ih := congrFun (obGet_set l d o) s
    cases h : Nat.beq d r with
    | true =>
      obtain rfl := Nat.eq_of_beq_eq_true h
      simp only [obSet, h, obGet, updO]
      cases h' : Nat.beq s d <;> simp [h']
    | false =>
      simp only [obSet, h, obGet, ih, updO]
      cases h1 : Nat.beq s r <;> cases h2 : Nat.beq s d <;> simp only
      obtain rfl := Nat.eq_of_beq_eq_true h1
      obtain rfl := Nat.eq_of_beq_eq_true h2
      exact absurd (Nat.beq_refl s) (by rw [h]; simp)
def wrO (ob : Nat → Option IObj) : Wr → Nat → Option IObj
  | [] => ob
  | (d, o) :: wr => wrO (updO ob d o) wr
def obWr (l : List (Nat × IObj)) : Wr → List (Nat × IObj)
  | [] => l
  | (d, o) :: wr => obWr (obSet l d o) wr
theorem obGet_wr : ∀ (wr : Wr) (l : List (Nat × IObj)), obGet (obWr l wr) = wrO (obGet l) wr
  | [], _ => rfl
  | (d, o) :: wr, l => by simp only [obWr, wrO]; rw [obGet_wr wr, obGet_set]

def isC : V → Bool
  | .agg _ | .tup _ | .undef | .un => false
  | _ => true
def allC : List V → Bool
  | [] => true
  | v :: l => match isC v with | true => allC l | false => false
/-- A value's cells. -/
def cellsV : V → Option (List V)
  | .agg cs => match allC cs with | true => some cs | false => none
  | .tup _ | .undef | .un => none
  | c => some [c]
def mkV (agg : Bool) (cs : List V) : V := match agg with
  | true => .agg cs
  | false => match cs with | [c] => c | _ => .undef
def dV : List Dat → List V
  | [] => []
  | x :: l => .d x :: dV l
def valV : Value → V
  | .int k n => .d (.int k n)
  | .bool b => .d (.bool b)
  | .string s => .d (.str s.data.toList)
  | .pointer none => .d .nilp
  | .slice none 0 0 => .esl 0
  | .map none => .d .nilm
  | .nilFunc => .d .nilf
  | .nilIface => .d (.ife false)
  | _ => .undef
def valVs : List Value → List V
  | [] => []
  | v :: l => valV v :: valVs l
/-- The types of a type's cells. -/
def cellTys (P : Program) : Nat → TypeId → List TypeId
  | 0, _ => []
  | n + 1, t => match P.underlying t with
    | some (.struct fs) => fs.toList.flatMap fun f => cellTys P n f.type
    | some (.array k e) => (List.replicate k (cellTys P n e)).flatten
    | _ => [t]
def szE (P : Program) (t : TypeId) : Nat := match P.underlying t with
  | some (.slice e) => match sizeT P e with | some n => n | none => 0
  | _ => 0
/-- A nil slice by its type. -/
def typed (P : Program) (t : TypeId) : V → V
  | .esl _ => .esl (szE P t)
  | v => v
def typeds (P : Program) : List TypeId → List V → List V
  | t :: ts, v :: vs => typed P t v :: typeds P ts vs
  | _, vs => vs
/-- The zero value's cells. -/
def zeroV (P : Program) (t : TypeId) : Option (List V) := match zeroT P t with
  | some vs => match typeds P (cellTys P 8 t) (valVs vs) with
    | l => match allC l with | true => some l | false => none
  | none => none

section
variable (ob : Nat → Option IObj)
/-- A value as a datum; what is our own is held for good from then on. -/
def datOf : V → Option (Dat × Wr)
  | .d x => some (x, [])
  | .esl sz => some (.sl sz [], [])
  | .suf r g off => match ob r with
    | some (.buf g' _ sz es) => match Nat.beq g g' with | true => some (.sl sz (es.drop off), [(r, .fzs g sz es)]) | false => none
    | some (.fzs g' sz es) => match Nat.beq g g' with | true => some (.sl sz (es.drop off), []) | false => none
    | _ => none
  | .osl r g off len => match ob r with
    | some (.buf g' _ sz es) => match Nat.beq g g' with | true => some (.sl sz ((es.drop off).take len), [(r, .fzs g sz es)]) | false => none
    | some (.fzs g' sz es) => match Nat.beq g g' with | true => some (.sl sz ((es.drop off).take len), []) | false => none
    | _ => none
  | .fn f [] [] => some (.fnc f, [])
  | _ => none
end
def datsOf (ob : Nat → Option IObj) : List V → Option (List Dat × Wr)
  | [] => some ([], [])
  | v :: l => match datOf ob v with
    | some (x, wr) => match datsOf (wrO ob wr) l with
      | some (xs, wr') => some (x :: xs, wr ++ wr')
      | none => none
    | none => none
/-- The cells of a variable as data; what is no datum is not looked at. -/
def maskDs (ob : Nat → Option IObj) : List V → List Dat × Wr
  | [] => ([], [])
  | v :: l => match datOf ob v with
    | some (x, wr) => match maskDs (wrO ob wr) l with | (xs, wr') => (x :: xs, wr ++ wr')
    | none => match maskDs ob l with | (xs, wr') => (.any :: xs, wr')
/-- Values handed to a function that only reads: each own slice is a datum from then on, and each variable that is pointed to. -/
def argC (ob : Nat → Option IObj) : V → Option (V × Wr)
  | .agg cs => match datsOf ob cs with | some (xs, wr) => some (.agg (dV xs), wr) | none => none
  | .rp cs k => some (.rp cs k, [])
  | .ptr r k => match ob r with
    | some (.fzb cs) => match maskDs ob cs with | (xs, wr) => some (.rp xs k, wr)
    | some (.box te cs) => match maskDs (updO ob r (.fzb cs)) cs with | (xs, wr) => some (.rp xs k, (r, .fzb cs) :: wr)
    | _ => none
  | v => match datOf ob v with | some (x, wr) => some (.d x, wr) | none => none
def argCs (ob : Nat → Option IObj) : List V → Option (List V × Wr)
  | [] => some ([], [])
  | v :: l => match argC ob v with
    | some (x, wr) => match argCs (wrO ob wr) l with
      | some (xs, wr') => some (x :: xs, wr ++ wr')
      | none => none
    | none => none
def argOf (ob : Nat → Option IObj) : V → Option (V × Wr)
  | .fn f first cap => match first, cap with
    | [], [] => some (.d (.fnc f), [])
    | _, _ => match argCs ob first with
      | some (xs, wr) => match argCs (wrO ob wr) cap with | some (ys, wr') => some (.fn f xs ys, wr ++ wr') | none => none
      | none => none
  | v => argC ob v
def argsOf (ob : Nat → Option IObj) : List V → Option (List V × Wr)
  | [] => some ([], [])
  | v :: l => match argOf ob v with
    | some (x, wr) => match argsOf (wrO ob wr) l with
      | some (xs, wr') => some (x :: xs, wr ++ wr')
      | none => none
    | none => none

def setV (vs : List V) (o : Nat) (u : List V) : List V := vs.take o ++ u ++ vs.drop (o + u.length)
def setD (vs : List Dat) (o : Nat) (u : List Dat) : List Dat := vs.take o ++ u ++ vs.drop (o + u.length)
/-- The parts of a literal, put into the zero value's cells. -/
def evBuild (pl : Nat → Option (Nat × Nat)) : List V → List (Nat × V) → Option (List V)
  | cs, [] => some cs
  | cs, (i, v) :: r => match pl i, cellsV v with
    | some (off, n), some us => match Nat.beq us.length n, Nat.ble (off + n) cs.length with
      | true, true => evBuild pl (setV cs off us) r
      | _, _ => none
    | _, _ => none
/-- Where the parts of a struct or an array lie. -/
def placeT (P : Program) (t : TypeId) : Option (Nat → Option (Nat × Nat)) :=
  match P.underlying t with
  | some (.struct fs) => match fs.toList.mapM (fun f => (P.info? f.type).map fun i => (f.offset, i.size)) with
    | some pl => some fun i => pl.toArray[i]?
    | none => none
  | some (.array _ e) => match P.info? e with
    | some ie => some fun i => some (i * ie.size, ie.size)
    | none => none
  | _ => none
def elemT (P : Program) (t : TypeId) : Option TypeId := match P.underlying t with
  | some (.slice e) => some e
  | _ => none
def arrT (P : Program) (t : TypeId) : Option (Nat × TypeId) := match P.underlying t with
  | some (.array n e) => some (n, e)
  | _ => none
/-- A slice's elements from lo to hi. -/
def slc {α : Type} (l : List α) (lo hi : Int) : Option (List α) :=
  bif decide (0 ≤ lo) && decide (lo ≤ hi) && decide (hi ≤ l.length) then some ((l.drop lo.toNat).take (hi - lo).toNat) else none
def chk (b : Bool) : Option (List Dat) := bif b then some [] else none
/-- The pieces of a row of cells, sz each. -/
def chunks (sz : Nat) : Nat → List Dat → List (List Dat)
  | 0, _ => []
  | n + 1, l => l.take sz :: chunks sz n (l.drop sz)
def dOf : List V → Option (List Dat)
  | [] => some []
  | .d x :: l => match dOf l with | some xs => some (x :: xs) | none => none
  | _ :: _ => none
def iv (v : V) : Option Int := match v with | .d (.int _ n) => some n | _ => none
def isConst : Operand → Bool | .const _ => true | _ => false

def evInt (op : BinOp) (k : IntKind) (m n : Int) (yc : Bool) : Res := match op with
  | .quo => match yc with
    | true => match decide (n ≠ 0) with | true => .ok (.d (.int k (k.wrap (m.tdiv n)))) [] | false => .bad
    | false => .opt1 (chk (decide (n ≠ 0))) fun _ => (.d (.int k (k.wrap (m.tdiv n))), [])
  | .rem => match yc with
    | true => match decide (n ≠ 0) with | true => .ok (.d (.int k (m.tmod n))) [] | false => .bad
    | false => .opt1 (chk (decide (n ≠ 0))) fun _ => (.d (.int k (m.tmod n)), [])
  | .add => .ok (.d (.int k (k.wrap (m + n)))) []
  | .sub => .ok (.d (.int k (k.wrap (m - n)))) []
  | .mul => .ok (.d (.int k (k.wrap (m * n)))) []
  | .eql => .ok (.d (.bool (m == n))) []
  | .neq => .ok (.d (.bool (m != n))) []
  | .lss => .ok (.d (.bool (decide (m < n)))) []
  | .leq => .ok (.d (.bool (decide (m ≤ n)))) []
  | .gtr => .ok (.d (.bool (decide (m > n)))) []
  | .geq => .ok (.d (.bool (decide (m ≥ n)))) []
  | .and => .ok (.d (.int k (k.wrap (BitVec.ofInt k.bits m &&& BitVec.ofInt k.bits n).toNat))) []
  | .or => .ok (.d (.int k (k.wrap (BitVec.ofInt k.bits m ||| BitVec.ofInt k.bits n).toNat))) []
  | .xor => .ok (.d (.int k (k.wrap (BitVec.ofInt k.bits m ^^^ BitVec.ofInt k.bits n).toNat))) []
  | .andNot => .ok (.d (.int k (k.wrap (BitVec.ofInt k.bits m &&& ~~~ BitVec.ofInt k.bits n).toNat))) []
  | _ => .bad
def shV (op : BinOp) (k : IntKind) (m n : Int) : V := match op with
  | .shl => .d (.int k (k.wrap (m * 2 ^ (min n.toNat k.bits))))
  | _ => .d (.int k (m.fdiv (2 ^ (min n.toNat k.bits))))
def evShift (op : BinOp) (k : IntKind) (m n : Int) (yc : Bool) : Res := match yc with
  | true => match decide (0 ≤ n) with | true => .ok (shV op k m n) [] | false => .bad
  | false => .opt1 (chk (decide (0 ≤ n))) fun _ => (shV op k m n, [])
def isShift : BinOp → Bool | .shl | .shr => true | _ => false
def ikb : IntKind → IntKind → Bool
  | .i8, .i8 | .i16, .i16 | .i32, .i32 | .i64, .i64 | .u8, .u8 | .u16, .u16 | .u32, .u32 | .u64, .u64 => true
  | _, _ => false
theorem ikb_eq {j k : IntKind} (h : ikb j k = true) : j = k := by cases j <;> cases k <;> first | rfl | cases h
def evBin (P : Program) (op : BinOp) (t : TypeId) (x y : V) (yc : Bool) : Res := match x, y with
  | .d (.int k m), .d (.int k' n) => match isShift op with
    | true => evShift op k m n yc
    | false => match ikb k k' with | true => evInt op k m n yc | false => .bad
  | .d (.bool b), .d (.bool c) => match P.underlying t with
    | some .bool => match op with
      | .eql => .ok (.d (.bool (b == c))) []
      | .neq => .ok (.d (.bool (!(b == c)))) []
      | _ => .bad
    | _ => .bad
  | .d (.str s), .d (.str u) => match op with
    | .add => .opt1 (chk (decide (s.length + u.length ≤ 4611686018427387904))) fun _ => (.d (.str (s ++ u)), [])
    | .eql => .ok (.d (.bool (s == u))) []
    | .neq => .ok (.d (.bool (!(s == u)))) []
    | _ => .bad
  | _, _ => .bad

/-- A type's number of cells, and whether it is a struct or an array. -/
def szT (P : Program) (t : TypeId) : Option (Nat × Bool) := match sizeT P t, aggT P t with
  | some n, some true => some (n, true)
  | some n, some false => match Nat.beq n 1 with | true => some (n, false) | false => none
  | _, _ => none
theorem szT_spec {P : Program} {t : TypeId} {n : Nat} {ag : Bool} (h : szT P t = some (n, ag)) : sizeT P t = some n ∧ aggT P t = some ag ∧ (ag = false → n = 1) := by
  unfold szT at h
  split at h
  · rename_i h1 h2; cases h; exact ⟨h1, h2, fun e => by cases e⟩
  · rename_i h1 h2
    split at h
    · rename_i hb; cases h; exact ⟨h1, h2, fun _ => Nat.eq_of_beq_eq_true hb⟩
    · cases h
  · cases h
def evLoad (P : Program) (ob : Nat → Option IObj) (t : TypeId) (p : V) : Res := match szT P t with
  | some (n, ag) => match p with
    | .rp cs k => match Nat.ble (k + n) cs.length with | true => .ok (mkV ag (dV ((cs.drop k).take n))) [] | false => .bad
    | .ptr r k => match ob r with
      | some (.box te cs) => match Nat.ble (k + n) cs.length with | true => .ok (mkV ag ((cs.drop k).take n)) [] | false => .bad
      | some (.fzb cs) => match Nat.ble (k + n) cs.length with | true => .ok (mkV ag ((cs.drop k).take n)) [] | false => .bad
      | _ => .bad
    | .ept r g j k => match ob r with
      | some (.buf g' _ sz es) => match Nat.beq g g', Nat.ble (k + n) sz with
        | true, true => .opt1 es[j]? fun cs => (mkV ag (dV ((cs.drop k).take n)), [])
        | _, _ => .bad
      | _ => .bad
    | _ => .bad
  | _ => .bad
def evStore (P : Program) (ob : Nat → Option IObj) (t : TypeId) (p v : V) : Res := match sizeT P t, p with
  | some n, .ptr r k => match ob r, cellsV v with
    | some (.box te cs), some us => match Nat.beq us.length n, Nat.ble (k + n) cs.length with
      | true, true => .ok .undef [(r, .box te (setV cs k us))]
      | _, _ => .bad
    | _, _ => .bad
  | some n, .ept r g j k => match cellsV v with
    | some us => match datsOf ob us with
      | some (xs, wr) => match wrO ob wr r with
        | some (.buf g' e sz es) => match Nat.beq g g', Nat.beq xs.length n, Nat.ble (k + n) sz, Nat.blt g 1000000 with
          | true, true, true, true => .opt2 (match es[j]? with | some old => some (es.set j (setD old k xs)) | none => none) fun es' => (.undef, wr ++ [(r, .buf g e sz es')])
          | _, _, _, _ => .bad
        | _ => .bad
      | none => .bad
    | none => .bad
  | _, _ => .bad
def evIndexAddr (P : Program) (ob : Nat → Option IObj) (t : TypeId) (x i : V) (ic : Bool) : Res := match iv i with
  | none => .bad
  | some j => match x with
    | .d (.sl sz es) => match elemT P t with
      | some e => match sizeT P e with
        | some n => match Nat.beq n sz with
          | true => .opt1 (geti es j) fun cs => (.rp cs 0, [])
          | false => .bad
        | none => .bad
      | none => .bad
    | .suf r g off => match elemT P t with
      | some e => match sizeT P e, ob r with
        | some n, some (.buf g' _ sz es) => match Nat.beq g g', Nat.beq n sz with
          | true, true => .opt1 (geti (es.drop off) j) fun _ => (.ept r g (off + j.toNat) 0, [])
          | _, _ => .bad
        | some n, some (.fzs g' sz es) => match Nat.beq g g', Nat.beq n sz with
          | true, true => .opt1 (geti (es.drop off) j) fun cs => (.rp cs 0, [])
          | _, _ => .bad
        | _, _ => .bad
      | none => .bad
    | .osl r g off len => match elemT P t with
      | some e => match sizeT P e, ob r with
        | some n, some (.buf g' _ sz es) => match Nat.beq g g', Nat.beq n sz with
          | true, true => .opt1 (geti ((es.drop off).take len) j) fun _ => (.ept r g (off + j.toNat) 0, [])
          | _, _ => .bad
        | some n, some (.fzs g' sz es) => match Nat.beq g g', Nat.beq n sz with
          | true, true => .opt1 (geti ((es.drop off).take len) j) fun cs => (.rp cs 0, [])
          | _, _ => .bad
        | _, _ => .bad
      | none => .bad
    | .rp cs k => match arrT P t with
      | some (n, e) => match sizeT P e with
        | some s => match ic with
          | true => match decide (0 ≤ j), Nat.blt j.toNat n with
            | true, true => .ok (.rp cs (k + j.toNat * s)) []
            | _, _ => .bad
          | false => .opt1 (geti (chunks s n (cs.drop k)) j) fun c => (match Nat.beq c.length s with | true => .rp c 0 | false => .undef, [])
        | none => .bad
      | none => .bad
    | .ptr r k => match arrT P t with
      | some (n, e) => match sizeT P e with
        | some s => match ic with
          | true => match decide (0 ≤ j), Nat.blt j.toNat n with
            | true, true => .ok (.ptr r (k + j.toNat * s)) []
            | _, _ => .bad
          | false => match ob r with
            | some (.fzb cs) => match dOf cs with
              | some ds => .opt1 (geti (chunks s n (ds.drop k)) j) fun c => (match Nat.beq c.length s with | true => .rp c 0 | false => .undef, [])
              | none => .bad
            | some (.box _ _) => match decide (0 ≤ j), Nat.blt j.toNat n with
              | true, true => .ok (.ptr r (k + j.toNat * s)) []
              | _, _ => .bad
            | _ => .bad
        | none => .bad
      | none => .bad
    | _ => .bad
def evIndex (P : Program) (t : TypeId) (x i : V) (ic : Bool) : Res := match iv i with
  | none => .bad
  | some j => match x with
    | .d (.str s) => match P.underlying t with
      | some .string => .opt1 (match geti s j with | some c => some [.int .u8 c.toNat] | none => none) fun cs => (match cs with | [c] => .d c | _ => .undef, [])
      | _ => .bad
    | .agg cs => match arrT P t with
      | some (n, e) => match szT P e with
        | some (s, ag) => match ic with
          | true => match decide (0 ≤ j), Nat.blt j.toNat n, Nat.ble (n * s) cs.length with
            | true, true, true => .ok (mkV ag ((cs.drop (j.toNat * s)).take s)) []
            | _, _, _ => .bad
          | false => match dOf cs, Nat.beq cs.length (n * s) with
            | some ds, true => .opt1 (geti (chunks s n ds) j) fun c => (match Nat.beq c.length s with | true => mkV ag (dV c) | false => .undef, [])
            | _, _ => .bad
        | _ => .bad
      | none => .bad
    | _ => .bad
def evSlice (P : Program) (ob : Nat → Option IObj) (t : TypeId) (x : V) (lo hi : Option Int) : Res := match P.underlying t with
  | some .string => match x with
    | .d (.str s) => match lo.getD 0, hi.getD s.length with
      | l, h => .opt1 (chk (decide (0 ≤ l) && decide (l ≤ h) && decide (h ≤ s.length))) fun _ => (.d (.str ((s.drop l.toNat).take (h - l).toNat)), [])
    | _ => .bad
  | some (.slice e) => match sizeT P e with
    | none => .bad
    | some n => match x with
      | .d (.sl sz es) => match Nat.beq n sz with
        | true => .opt2 (slc es (lo.getD 0) (hi.getD es.length)) fun es' => (.d (.sl sz es'), [])
        | false => .bad
      | .suf r g off => match ob r with
        | some (.fzs g' sz es) => match Nat.beq g g', Nat.beq n sz with
          | true, true => .opt2 (slc (es.drop off) (lo.getD 0) (hi.getD (es.drop off).length)) fun es' => (.d (.sl sz es'), [])
          | _, _ => .bad
        | some (.buf g' _ sz es) => match Nat.beq g g', Nat.beq n sz with
          | true, true => match hi with
            | none => .opt1 (chk (decide (0 ≤ lo.getD 0) && decide (lo.getD 0 ≤ (es.drop off).length))) fun _ => (.suf r g (off + (lo.getD 0).toNat), [])
            | some h => .opt1 (chk (decide (0 ≤ lo.getD 0) && decide (lo.getD 0 ≤ h) && decide (h ≤ (es.drop off).length))) fun _ => (.osl r g (off + (lo.getD 0).toNat) (h - lo.getD 0).toNat, [])
          | _, _ => .bad
        | _ => .bad
      | _ => .bad
  | some (.array n e) => match sizeT P e, x with
    | some sz, .rp cs k => match Nat.ble (k + n * sz) cs.length with
      | true => .opt2 (slc (chunks sz n (cs.drop k)) (lo.getD 0) (hi.getD n)) fun es' => (.d (.sl sz es'), [])
      | false => .bad
    | _, _ => .bad
  | _ => .bad
/-- n cells' worth of room for an append. -/
def roomOk (bytes m : Nat) : Bool := decide (m ≤ 2147483648) && decide (bytes ≤ 4096)
def app2 (es new : List (List Dat)) : Option (List (List Dat)) := app es new
def bytesT (P : Program) (t : TypeId) : Option Nat := (P.info? t).map (·.bytes)
/-- What is appended: its elements. -/
def byteD (b : UInt8) : List Dat := [.int .u8 b.toNat]
def newsOf (P : Program) (ob : Nat → Option IObj) (n : Nat) (t t2 : TypeId) (v : V) : Option (List (List Dat) × Wr) := match Nat.beq t t2 with
  | true => match datOf ob v with
    | some (.sl sz es, wr) => match Nat.beq sz n with | true => some (es, wr) | false => none
    | _ => none
  | false => match v, P.underlying t2 with
    | .d (.str s), some .string => match Nat.beq n 1 with | true => some (s.map byteD, []) | false => none
    | _, _ => none
def evAppend (P : Program) (ob : Nat → Option IObj) (d : Nat) (t t2 : TypeId) (s x : V) : Res := match elemT P t with
  | some e => match sizeT P e, bytesT P e, zeroT P e with
    | some n, some by_, some zs => match newsOf P ob n t t2 x, Nat.ble 1 n, Nat.ble by_ 4096, Nat.beq zs.length n with
      | some (es2, wr), true, true, true => match s with
        | .esl _ => match wrO ob wr d with
          | none => .opt2 (app2 [] es2) fun es' => (.suf d 0 0, wr ++ [(d, .buf 0 e n es')])
          | some _ => .bad
        | .suf r g off => match wrO ob wr r with
          | some (.buf g' e' sz es) => match Nat.beq g g', Nat.beq sz n, Nat.beq e e' with
            | true, true, true => .opt2 (app2 (es.drop off) es2) fun es' => (.suf r (g + 1) 0, wr ++ [(r, .buf (g + 1) e n es')])
            | _, _, _ => .bad
          | _ => .bad
        | _ => .bad
      | _, _, _, _ => .bad
    | _, _, _ => .bad
  | none => .bad
def evLen (ob : Nat → Option IObj) (P : Program) (t : TypeId) (x : V) : Res := match P.underlying t with
  | some (.array n _) => .ok (.d (.int .i64 n)) []
  | some .string => match x with | .d (.str s) => .ok (.d (.int .i64 s.length)) [] | _ => .bad
  | some (.slice _) => match x with
    | .d (.sl _ es) => .ok (.d (.int .i64 es.length)) []
    | .esl _ => .ok (.d (.int .i64 0)) []
    | .suf r g off => match ob r with
      | some (.buf g' _ _ es) => match Nat.beq g g' with | true => .ok (.d (.int .i64 (es.drop off).length)) [] | false => .bad
      | some (.fzs g' _ es) => match Nat.beq g g' with | true => .ok (.d (.int .i64 (es.drop off).length)) [] | false => .bad
      | _ => .bad
    | .osl r g off len => match ob r with
      | some (.buf g' _ _ es) => match Nat.beq g g' with | true => .ok (.d (.int .i64 len)) [] | false => .bad
      | some (.fzs g' _ es) => match Nat.beq g g' with | true => .ok (.d (.int .i64 len)) [] | false => .bad
      | _ => .bad
    | _ => .bad
  | some (.map _ _) => match x with
    | .mp r => match ob r with | some (.mapo _ _ _ es) => .ok (.d (.int .i64 es.length)) [] | _ => .bad
    | .d .nilm => .ok (.d (.int .i64 0)) []
    | _ => .bad
  | _ => .bad
/-- A slice of so many zero values. -/
def mk2 (l c : Int) (z : List Dat) : Option (List (List Dat)) := bif decide (0 ≤ l) && decide (l ≤ c) && decide (c ≤ 2147483648) then some (List.replicate l.toNat z) else none
def evMake (P : Program) (ob : Nat → Option IObj) (d : Nat) (t : TypeId) (l c : V) : Res := match elemT P t, iv l, iv c with
  | some e, some l, some c => match sizeT P e, bytesT P e, zeroV P e with
    | some n, some by_, some zs => match datsOf ob zs, Nat.beq zs.length n, Nat.ble 1 n, Nat.ble by_ 4096, ob d with
      | some (z, []), true, true, true, none => .opt2 (mk2 l c z) fun es => (.suf d 0 0, [(d, .buf 0 e n es)])
      | _, _, _, _, _ => .bad
    | _, _, _ => .bad
  | _, _, _ => .bad

/-! ### Maps -/
def dkeq : Dat → Dat → Bool
  | .int _ a, .int _ b => decide (a = b)
  | .str a, .str b => decide (a = b)
  | .bool a, .bool b => match a, b with | true, true => true | false, false => true | _, _ => false
  | _, _ => false
def mlook : List (Dat × List Dat) → Dat → List Dat → List Dat
  | [], _, z => z
  | x :: l, k, z => match dkeq x.1 k with | true => x.2 | false => mlook l k z
def mhas : List (Dat × List Dat) → Dat → Bool
  | [], _ => false
  | x :: l, k => match dkeq x.1 k with | true => true | false => mhas l k
def mput : List (Dat × List Dat) → Dat → List Dat → List (Dat × List Dat)
  | [], k, v => [(k, v)]
  | x :: l, k, v => match dkeq x.1 k with | true => (k, v) :: l | false => x :: mput l k v
def kkT (P : Program) (t : TypeId) : Option KK := match P.underlying t with
  | some (.int k) => some (.int k)
  | some .string => some .str
  | some .bool => some .bool
  | _ => none
def kkB : KK → Dat → Bool
  | .int k, .int j _ => ikb j k
  | .str, .str _ => true
  | .bool, .bool _ => true
  | _, _ => false
def kkE : KK → KK → Bool
  | .int k, .int j => ikb k j
  | .str, .str => true
  | .bool, .bool => true
  | _, _ => false
def agE : Bool → Bool → Bool
  | true, true => true
  | false, false => true
  | _, _ => false
def mapT (P : Program) (t : TypeId) : Option (KK × TypeId) := match P.underlying t with
  | some (.map k e) => match kkT P k with | some kk => some (kk, e) | none => none
  | _ => none
/-- The zero value has the shape that it should. -/
def zeroAg (P : Program) (t : TypeId) (ag : Bool) : Bool := match P.info? t with
  | some i => match i.zero with
    | some (.agg _) => ag
    | some _ => match ag with | true => false | false => true
    | none => false
  | none => false
def lookRes (ok ag : Bool) (es : List (Dat × List Dat)) (key : Dat) (z : List Dat) : Res := match ok with
  | true => .opt2 (some [mlook es key z, [.bool (mhas es key)]]) fun x => (match x with | [c, [b]] => .tup [mkV ag (dV c), .d b] | _ => .undef, [])
  | false => .opt1 (some (mlook es key z)) fun c => (mkV ag (dV c), [])
def evLookup (P : Program) (ob : Nat → Option IObj) (t : TypeId) (m k : V) (ok : Bool) : Res := match mapT P t with
  | some (kk, e) => match szT P e, zeroV P e, k with
    | some (n, ag), some zs, .d key => match datsOf ob zs, kkB kk key, Nat.beq zs.length n, zeroAg P e ag with
      | some (z, []), true, true, true => match m with
        | .mp r => match ob r with
          | some (.mapo kk' ag' sz es) => match kkE kk kk', agE ag ag', Nat.beq sz n with
            | true, true, true => lookRes ok ag es key z
            | _, _, _ => .bad
          | _ => .bad
        | .d .nilm => lookRes ok ag [] key z
        | _ => .bad
      | _, _, _, _ => .bad
    | _, _, _ => .bad
  | none => .bad
def agOf : V → Bool
  | .agg _ => true
  | _ => false
def evMapPut (P : Program) (ob : Nat → Option IObj) (t : TypeId) (m k v : V) : Res := match mapT P t with
  | some (kk, e) => match szT P e, k, m with
    | some (n, ag), .d key, .mp r => match kkB kk key, agE ag (agOf v), cellsV v with
      | true, true, some us => match datsOf ob us with
        | some (xs, wr) => match wrO ob wr r with
          | some (.mapo kk' ag' sz es) => match kkE kk kk', agE ag ag', Nat.beq sz n, Nat.beq xs.length n with
            | true, true, true, true => .ok .undef (wr ++ [(r, .mapo kk ag n (mput es key xs))])
            | _, _, _, _ => .bad
          | _ => .bad
        | none => .bad
      | _, _, _ => .bad
    | _, _, _ => .bad
  | none => .bad
def evMakeMap (P : Program) (ob : Nat → Option IObj) (d : Nat) (t : TypeId) : Res := match mapT P t with
  | some (kk, e) => match szT P e, ob d with
    | some (n, ag), none => .ok (.mp d) [(d, .mapo kk ag n [])]
    | _, _ => .bad
  | none => .bad

def evParts (ev : Operand → V) : List (Nat × Operand) → List (Nat × V)
  | [] => []
  | (i, x) :: l => (i, ev x) :: evParts ev l
def evsV (ev : Operand → V) : List Operand → List V
  | [] => []
  | x :: l => ev x :: evsV ev l
/-- A pointer as a datum: the cells that it leads to. -/
def ptD (m : Nat) (ob : Nat → Option IObj) (v : V) : Option (Dat × Wr) := match argC ob v with
  | some (.rp cs k, wr) => match Nat.ble (k + m) cs.length with | true => some (.pt ((cs.drop k).take m), wr) | false => none
  | _ => none
def elsOf (m : Nat) (ob : Nat → Option IObj) (us : List V) : Option (List Dat × Wr) := match m with
  | 0 => datsOf ob us
  | _ + 1 => match us with
    | [u] => match ptD m ob u with | some (x, wr) => some ([x], wr) | none => datsOf ob us
    | _ => datsOf ob us
/-- The size of what an element leads to, where it is a pointer. -/
def ptM (P : Program) (e : TypeId) : Nat := match P.underlying e with
  | some (.pointer t) => match sizeT P t with | some n => n | none => 0
  | _ => 0
/-- The elements of a literal, in order, none left out. -/
def litEls (P : Program) (m : Nat) (ob : Nat → Option IObj) (n : Nat) : Nat → List (Nat × V) → Option (List (List Dat) × Wr)
  | _, [] => some ([], [])
  | i, (j, v) :: l => match Nat.beq i j, cellsV v with
    | true, some us => match elsOf m ob us with
      | some (xs, wr) => match Nat.beq xs.length n with
        | true => match litEls P m (wrO ob wr) n (i + 1) l with
          | some (es, wr') => some (xs :: es, wr ++ wr')
          | none => none
        | false => none
      | none => none
    | _, _ => none

/-! ### Comparisons with nil, unsafe pointers, bytes as a string -/
def orElse : Res → Res → Res
  | .bad, r => r
  | r, _ => r
def boolRes (op : BinOp) (b : Bool) : Res := match op with
  | .eql => .ok (.d (.bool b)) []
  | .neq => .ok (.d (.bool (!b))) []
  | _ => .bad
def nilEq : V → V → Option Bool
  | .d .nilp, .d .nilp => some true
  | .ptr _ _, .d .nilp => some false
  | .rp _ _, .d .nilp => some false
  | .d (.pt _), .d .nilp => some false
  | _, _ => none
def sameP : V → V → Bool
  | .ptr r k, .ptr s j => match Nat.beq r s with | true => Nat.beq k j | false => false
  | _, _ => false
/-- Structs of integers, field by field. -/
def intFs (P : Program) : List Field → Nat → List V → List V → Option Bool
  | [], _, [], [] => some true
  | f :: fs, i, .d (.int a m) :: xs, .d (.int b n) :: ys => match Nat.beq f.offset i, P.underlying f.type, ikb a b, f.name == "_" with
    | true, some (.int k), true, false => match ikb k a, intFs P fs (i + 1) xs ys with
      | true, some r => some ((m == n) && r)
      | _, _ => none
    | _, _, _, _ => none
  | _, _, _, _ => none
def evEq (P : Program) (op : BinOp) (t : TypeId) (x y : V) (yc : Bool) : Res := match P.underlying t with
  | some (.pointer e) => match nilEq x y with
    | some b => boolRes op b
    | none => match sameP x y, sizeT P e with | true, some (_ + 1) => boolRes op true | _, _ => .bad
  | some (.interface _) => match x, y with
    | .d (.ife b), .d (.ife c) => match c, yc with | false, true => boolRes op (!b) | _, _ => .bad
    | _, _ => .bad
  | some (.struct fs) => match x, y with
    | .agg xs, .agg ys => match intFs P fs.toList 0 xs ys, P.stoodInHeld t, P.eqGuardType P.depth t with
      | some b, false, false => boolRes op b
      | _, _, _ => .bad
    | _, _ => .bad
  | _ => .bad
/-- A pointer turned to an unsafe one and back. -/
def evConv (P : Program) (ob : Nat → Option IObj) (s t : TypeId) (v : V) : Res := match v with
  | .ptr r k => match ob r, P.underlying s, P.underlying t with
    | some (.box te cs), some (.pointer e), some .unsafePointer => match sizeT P e, Nat.blt k cs.length with
      | some (_ + 1), true => .ok (.ptr r k) []
      | _, _ => .bad
    | some (.box te cs), some .unsafePointer, some (.pointer e) => match sizeT P e, liesAt P P.depth te (cs.length / P.cellsOf te) k e 1 with
      | some (_ + 1), true => .ok (.ptr r k) []
      | _, _ => .bad
    | _, _, _ => .bad
  | _ => .bad
def evSData (ob : Nat → Option IObj) (v : V) : Res := match v with
  | .suf r g off => match ob r with
    | some (.buf g' _ sz es) => match Nat.beq g g' with
      | true => .opt1 (chk (decide (off < es.length))) fun _ => (.ept r g off 0, [])
      | false => .bad
    | _ => .bad
  | _ => .bad
def strD : List (List Dat) → Option (List UInt8)
  | [] => some []
  | [.int .u8 x] :: l => match strD l with | some s => some (x.toNat.toUInt8 :: s) | none => none
  | _ => none
def usd (es : List (List Dat)) (j : Nat) (m : Int) : Option (List Dat) := bif decide (0 < m) && decide (j + m.toNat ≤ es.length) && decide (m ≤ 2147483648) then (match strD ((es.drop j).take m.toNat) with | some s => some [.str s] | none => none) else none
def evUStr (P : Program) (ob : Nat → Option IObj) (pt : TypeId) (p n : V) : Res := match p, iv n, P.underlying pt with
  | .ept r g j k, some m, some (.pointer e) => match ob r with
    | some (.buf g' e' sz es) => match Nat.beq g g', Nat.beq e e', Nat.beq sz 1, Nat.beq k 0, Nat.beq (P.cellsOf e) 1 with
      | true, true, true, true, true => .opt1 (usd es j m) fun x => (match x with | [c] => .d c | _ => .undef, [(r, .fzs g 1 es)])
      | _, _, _, _, _ => .bad
    | _ => .bad
  | _, _, _ => .bad

def evOp (P : Program) (ob : Nat → Option IObj) (d : Nat) (ty : TypeId) (ev : Operand → V) : Op → Res
  | .move x | .assign x => .ok (typed P ty (ev x)) []
  | .pick c x y => match ev c with
    | .d (.bool b) => match b with | true => .ok (ev x) [] | false => .ok (ev y) []
    | _ => .bad
  | .alloc t => match zeroV P t, ob d with
    | some zs, none => .ok (.ptr d 0) [(d, .box t zs)]
    | _, _ => .bad
  | .box t x => match cellsV (ev x), ob d with
    | some cs, none => .ok (.ptr d 0) [(d, .box t cs)]
    | _, _ => .bad
  | .build t ps => match zeroV P t, placeT P t with
    | some zs, some pl => match evBuild pl zs (evParts ev ps.toList) with
      | some cs => .ok (.agg cs) []
      | none => .bad
    | _, _ => .bad
  | .buildSlice t n ps => match elemT P t with
    | some e => match sizeT P e, zeroT P e with
      | some sz, some zs => match litEls P (ptM P e) ob sz 0 (evParts (fun x => typed P e (ev x)) ps.toList), Nat.beq ps.toList.length n, Nat.ble 1 sz, Nat.ble (n * sz) 65536, Nat.beq zs.length sz with
        | some (es, wr), true, true, true, true => match wrO ob wr d with
          | none => match n with
            | 0 => .ok (.esl sz) []
            | _ => .ok (.suf d 0 0) (wr ++ [(d, .buf 0 e sz es)])
          | some _ => .bad
        | _, _, _, _, _ => .bad
      | _, _ => .bad
    | none => .bad
  | .load t x => evLoad P ob t (ev x)
  | .store t x y => evStore P ob t (ev x) (typed P t (ev y))
  | .nilCheck x => match ev x with
    | .ptr r k => .ok (.ptr r k) []
    | .rp cs k => .ok (.rp cs k) []
    | .d (.pt cs) => .ok (.rp cs 0) []
    | .ept r g j k => match ob r with
      | some (.buf g' _ _ _) => match Nat.beq g g' with | true => .ok (.ept r g j k) [] | false => .bad
      | _ => .bad
    | _ => .bad
  | .binOp op t x y _ => orElse (evBin P op t (ev x) (ev y) (isConst y)) (evEq P op t (ev x) (ev y) (isConst y))
  | .unOp op _ x => match op, ev x with
    | .not, .d (.bool b) => .ok (.d (.bool (!b))) []
    | .neg, .d (.int k n) => .ok (.d (.int k (k.wrap (0 - n)))) []
    | _, _ => .bad
  | .convert s t x => orElse (match ev x, P.underlying s, P.underlying t with
    | .d (.int _ n), some _, some (.int k) => .ok (.d (.int k (k.wrap n))) []
    | _, _, _ => .bad) (evConv P ob s t (ev x))
  | .makeInterface t _ => match P.underlying t with
    | some (.interface _) => .bad
    | some _ => .ok (.d (.ife true)) []
    | none => .bad
  | .makeFunc (.func f) first cap => .ok (.fn f (evsV ev first.toList) (evsV ev cap.toList)) []
  | .makeSlice t l c => evMake P ob d t (ev l) (ev c)
  | .makeMap t none => evMakeMap P ob d t
  | .lookup t m k ok => evLookup P ob t (ev m) (ev k) ok
  | .mapUpdate t m k v => evMapPut P ob t (ev m) (ev k) (ev v)
  | .insert t m k v => evMapPut P ob t (ev m) (ev k) (ev v)
  | .slice t x lo hi none => match lo, hi with
    | some l, some h => match iv (ev l), iv (ev h) with | some l, some h => evSlice P ob t (ev x) (some l) (some h) | _, _ => .bad
    | some l, none => match iv (ev l) with | some l => evSlice P ob t (ev x) (some l) none | none => .bad
    | none, some h => match iv (ev h) with | some h => evSlice P ob t (ev x) none (some h) | none => .bad
    | none, none => evSlice P ob t (ev x) none none
  | .fieldAddr t x i => match ev x, fieldT P t i with
    | .ptr r k, some off => .ok (.ptr r (k + off)) []
    | .rp cs k, some off => .ok (.rp cs (k + off)) []
    | .ept r g j k, some off => match ob r with
      | some (.buf g' _ _ _) => match Nat.beq g g' with | true => .ok (.ept r g j (k + off)) [] | false => .bad
      | _ => .bad
    | _, _ => .bad
  | .field t x i => match ev x, P.underlying t with
    | .agg cs, some (.struct fs) => match fs[i]? with
      | some f => match szT P f.type with
        | some (n, ag) => match Nat.ble (f.offset + n) cs.length with
          | true => .ok (mkV ag ((cs.drop f.offset).take n)) []
          | false => .bad
        | _ => .bad
      | none => .bad
    | _, _ => .bad
  | .indexAddr t x i => evIndexAddr P ob t (ev x) (ev i) (isConst i)
  | .index t x i => evIndex P t (ev x) (ev i) (isConst i)
  | .extract x i => match ev x with
    | .tup vs => match vs[i]? with | some v => .ok v [] | none => .bad
    | _ => .bad
  | .call c => match c.callee with
    | .builtin .len => match c.args.toList, c.argTypes.toList with
      | [x], [t] => evLen ob P t (ev x)
      | _, _ => .bad
    | .builtin .append => match c.args.toList, c.argTypes.toList with
      | [s, x], [t, t2] => evAppend P ob d t t2 (ev s) (ev x)
      | _, _ => .bad
    | .builtin .min => match evsV ev c.args.toList with
      | [.d (.int k m), .d (.int k' n)] => match ikb k k' with | true => .ok (.d (.int k (bif decide (n < m) then n else m))) [] | false => .bad
      | _ => .bad
    | .builtin .max => match evsV ev c.args.toList with
      | [.d (.int k m), .d (.int k' n)] => match ikb k k' with | true => .ok (.d (.int k (bif decide (n > m) then n else m))) [] | false => .bad
      | _ => .bad
    | .builtin .unsafeSliceData => match c.args.toList with
      | [x] => evSData ob (ev x)
      | _ => .bad
    | .builtin .unsafeString => match c.args.toList, c.argTypes.toList with
      | [x, n], [pt, _] => evUStr P ob pt (ev x) (ev n)
      | _, _ => .bad
    | .value f => match ev f with
      | .fn g first cap => .call g (first ++ evsV ev c.args.toList ++ cap)
      | .d (.fnc g) => .call g (evsV ev c.args.toList)
      | _ => .bad
    | _ => .bad
  | _ => .bad
end Go.Proofs.YtilfjfpemjfalaaGreatDoor.Kx
