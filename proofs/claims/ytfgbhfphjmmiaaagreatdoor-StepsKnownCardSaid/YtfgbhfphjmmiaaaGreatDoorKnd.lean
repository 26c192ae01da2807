/- One part of the texts that lead to the theorem; it claims nothing by itself. -/
import Derived.Shelf.Strings.Builder1
import Derived.Shelf.Strconv.Atoi
import Derived.Shelf.Strconv.Itoa0
import Derived.Shelf.Strconv.Itoa1
import Derived.Shelf.LaysM
import Derived.Shelf.Strconv.Itoa2
import Derived.Shelf.Strconv.Itoa3
import Derived.Shelf.Strconv.AtoiErrFast
import Derived.Shelf.Strconv.ParseIntEmpty
import Derived.Shelf.Strconv.AtoiFail
import Derived.Shelf.Strconv.Clone
import Derived.Shelf.Strconv.SyntaxError
import Derived.Shelf.LaysC
import Derived.Shelf.Strconv.ToError
import Derived.Shelf.Strconv.Lower
import Derived.Shelf.Strconv.ParseUint10
import Derived.Shelf.Strconv.ParseUint10Empty
import Derived.Shelf.Strconv.ParseUint10Any
import Derived.Shelf.Strconv.ParseInt10
import Derived.Shelf.Strconv.AtoiLong
import Derived.Shelf.Strconv.AtoiInnerAll
import Derived.Shelf.Strconv.RangeError
import Derived.Shelf.Strconv.ToErrorRange
import Derived.Shelf.Strconv.AtoiAll
import Derived.Shelf.Strconv.ErrVarAll
import Derived.Shelf.Strings.Search1
import Derived.Shelf.Strings.Search2
import Derived.Shelf.Strings.Cut
import Derived.Shelf.Strings.Shaped
import Derived.Shelf.Bits.Mul64
import Derived.Shelf.Slices.Turned
import Derived.Test.YtfgbhfphjmmiaaaGreatDoorChecked
import Derived.Lib.ItoaNum
import Derived.Lib.AtoiAll
import Derived.Lib.AtoiErrMem
import Derived.Lib.Repeat
import Derived.Lib.LaidTab
import Derived.Lib.AppendIntMem
import Derived.Lib.Split
import Derived.Lib.SplitLaws
import Derived.Lib.CutLaws
import Derived.Lib.SlicesS
import Derived.Deep.Draws
import Derived.Test.YtfgbhfphjmmiaaaGreatDoorKnc
section
/-
  DERIVED: THE SHELF's CONTRACTS AT THIS DUMP, IN PLAIN WORDS (tools/lay-plain.mjs out of 'TryzShelf.lean', which tools/lay-shelf.mjs wrote): THE SAME DECLARATIONS UNDER THE SAME NAMES: 'import', 'namespace', 'open', 'def', 'theorem' AND NOTHING ELSE: no command of the shelf's: FOR A HAND-IN. Each laying: the table of numbers ('.._ren') and one theorem, a field a fact of the dump's own or the kernel's comparison; each contract: ONE APPLICATION.
-/
namespace Go.Proofs
open Go.Shelf
def Tryz.laysM171_ren : Go.Shelf.Ren := ⟨fun | 171 => 110 | 243 => 150 | 246 => 188 | 283 => 234 | 284 => 235 | 285 => 236 | 286 => 237 | 129 => 260 | 317 => 259 | 318 => 261 | 319 => 262 | 320 => 263 | 337 => 275 | 338 => 276 | n => n, fun | 3 => 3 | 9 => 9 | 2 => 2 | 4 => 4 | 171 => 286 | 0 => 0 | 53 => 39 | 37 => 215 | 5 => 5 | 173 => 289 | 212 => 310 | 51 => 167 | 20 => 20 | 213 => 311 | 46 => 110 | 232 => 338 | 233 => 339 | n => n, fun | 17 => 3 | 18 => 4 | 19 => 5 | n => n⟩
theorem Tryz.laysM171 : Go.Proofs.LaysM.n171 Tryz.prog Tryz.laysM171_ren := {
  mixed := by kernel_rfl
  f129 := Tryz.func260.trans (congrArg some (by kernel_rfl))
  f171 := Tryz.func110.trans (congrArg some (by kernel_rfl))
  f243 := Tryz.func150.trans (congrArg some (by kernel_rfl))
  f246 := Tryz.func188.trans (congrArg some (by kernel_rfl))
  f283 := Tryz.func234.trans (congrArg some (by kernel_rfl))
  f284 := Tryz.func235.trans (congrArg some (by kernel_rfl))
  f285 := Tryz.func236.trans (congrArg some (by kernel_rfl))
  f286 := Tryz.func237.trans (congrArg some (by kernel_rfl))
  f317 := Tryz.func259.trans (congrArg some (by kernel_rfl))
  f318 := Tryz.func261.trans (congrArg some (by kernel_rfl))
  f319 := Tryz.func262.trans (congrArg some (by kernel_rfl))
  f320 := Tryz.func263.trans (congrArg some (by kernel_rfl))
  f337 := Tryz.func275.trans (congrArg some (by kernel_rfl))
  f338 := Tryz.func276.trans (congrArg some (by kernel_rfl))
  t0 := Tryz.underlying0
  a0 := Tryz.isAgg0
  z0 := Tryz.sizeOf0
  v0 := Tryz.zeroValue0
  t2 := Tryz.underlying2
  a2 := Tryz.isAgg2
  z2 := Tryz.sizeOf2
  v2 := Tryz.zeroValue2
  t3 := Tryz.underlying3
  a3 := Tryz.isAgg3
  z3 := Tryz.sizeOf3
  v3 := Tryz.zeroValue3
  t4 := Tryz.underlying4
  a4 := Tryz.isAgg4
  z4 := Tryz.sizeOf4
  v4 := Tryz.zeroValue4
  t5 := Tryz.underlying5
  a5 := Tryz.isAgg5
  z5 := Tryz.sizeOf5
  v5 := Tryz.zeroValue5
  t9 := Tryz.underlying9
  a9 := Tryz.isAgg9
  z9 := Tryz.sizeOf9
  v9 := Tryz.zeroValue9
  t20 := Tryz.underlying20
  a20 := Tryz.isAgg20
  z20 := Tryz.sizeOf20
  v20 := Tryz.zeroValue20
  t37 := Tryz.underlying215
  a37 := Tryz.isAgg215
  z37 := Tryz.sizeOf215
  v37 := Tryz.zeroValue215
  t46 := Tryz.underlying110
  a46 := Tryz.isAgg110
  z46 := Tryz.sizeOf110
  v46 := Tryz.zeroValue110
  t51 := Tryz.underlying167
  a51 := Tryz.isAgg167
  z51 := Tryz.sizeOf167
  v51 := Tryz.zeroValue167
  t53 := Tryz.underlying39
  a53 := Tryz.isAgg39
  z53 := Tryz.sizeOf39
  v53 := Tryz.zeroValue39
  t171 := Tryz.underlying286
  a171 := Tryz.isAgg286
  z171 := Tryz.sizeOf286
  v171 := Tryz.zeroValue286
  t173 := Tryz.underlying289
  a173 := Tryz.isAgg289
  z173 := Tryz.sizeOf289
  v173 := Tryz.zeroValue289
  t212 := Tryz.underlying310
  a212 := Tryz.isAgg310
  z212 := Tryz.sizeOf310
  v212 := Tryz.zeroValue310
  t213 := Tryz.underlying311
  a213 := Tryz.isAgg311
  z213 := Tryz.sizeOf311
  t232 := Tryz.underlying338
  a232 := Tryz.isAgg338
  z232 := Tryz.sizeOf338
  v232 := Tryz.zeroValue338
  t233 := Tryz.underlying339
  a233 := Tryz.isAgg339
  z233 := Tryz.sizeOf339
  v233 := Tryz.zeroValue339
  g17 := by kernel_rfl
  g18 := by kernel_rfl
  g19 := by kernel_rfl
  i0 := by kernel_rfl
  i2 := by kernel_rfl
  i3 := by kernel_rfl
  i4 := by kernel_rfl
  i5 := by kernel_rfl
  i9 := by kernel_rfl
  i20 := by kernel_rfl
  i37 := by kernel_rfl
  i46 := by kernel_rfl
  i51 := by kernel_rfl
  i53 := by kernel_rfl
  i171 := by kernel_rfl
  i173 := by kernel_rfl
  i212 := by kernel_rfl
  i232 := by kernel_rfl
  i233 := by kernel_rfl
  m17 := by kernel_rfl
  m18 := by kernel_rfl
  m19 := by kernel_rfl }
open Go.RowKit Go.Sort Go.Lib in
theorem Tryz.strconv_Itoa (n : Int) (h0 : -9223372036854775808 ≤ n) (h1 : n ≤ 9223372036854775807) (w : World) (htab : Lib.TabIs Tryz.prog w "internal/strconv.uint64pow10" .u64 Lib.pow10Tab) :
    Calls Tryz.prog 110 #[.int .i64 n] w fun e w' => e = .returned (.string ⟨(Lib.itoa n).toArray⟩) ∧ ∃ k os, w' = grow (w.drewN k) os := Any.strconv_Itoa Tryz.laysM171 n h0 h1 w htab
def Tryz.lays145_ren : Go.Shelf.Ren := ⟨fun | 145 => 97 | 220 => 137 | 219 => 181 | 217 => 222 | 225 => 223 | 224 => 224 | 267 => 225 | 266 => 255 | 314 => 256 | n => n, fun | 9 => 9 | 4 => 4 | 59 => 160 | 3 => 3 | 5 => 5 | 46 => 110 | 146 => 168 | 51 => 167 | n => n, fun | 1 => 0 | n => n⟩
theorem Tryz.lays145 : Go.Proofs.Lays.n145 Tryz.prog Tryz.lays145_ren := {
  mixed := by kernel_rfl
  f145 := Tryz.func97.trans (congrArg some (by kernel_rfl))
  f217 := Tryz.func222.trans (congrArg some (by kernel_rfl))
  f219 := Tryz.func181.trans (congrArg some (by kernel_rfl))
  f220 := Tryz.func137.trans (congrArg some (by kernel_rfl))
  f224 := Tryz.func224.trans (congrArg some (by kernel_rfl))
  f225 := Tryz.func223.trans (congrArg some (by kernel_rfl))
  f266 := Tryz.func255.trans (congrArg some (by kernel_rfl))
  f267 := Tryz.func225.trans (congrArg some (by kernel_rfl))
  f314 := Tryz.func256.trans (congrArg some (by kernel_rfl))
  t3 := Tryz.underlying3
  a3 := Tryz.isAgg3
  z3 := Tryz.sizeOf3
  v3 := Tryz.zeroValue3
  t4 := Tryz.underlying4
  a4 := Tryz.isAgg4
  z4 := Tryz.sizeOf4
  v4 := Tryz.zeroValue4
  t5 := Tryz.underlying5
  a5 := Tryz.isAgg5
  z5 := Tryz.sizeOf5
  v5 := Tryz.zeroValue5
  t9 := Tryz.underlying9
  a9 := Tryz.isAgg9
  z9 := Tryz.sizeOf9
  v9 := Tryz.zeroValue9
  t46 := Tryz.underlying110
  a46 := Tryz.isAgg110
  z46 := Tryz.sizeOf110
  v46 := Tryz.zeroValue110
  t51 := Tryz.underlying167
  a51 := Tryz.isAgg167
  z51 := Tryz.sizeOf167
  v51 := Tryz.zeroValue167
  t59 := Tryz.underlying160
  a59 := Tryz.isAgg160
  z59 := Tryz.sizeOf160
  v59 := Tryz.zeroValue160
  t146 := Tryz.underlying168
  a146 := Tryz.isAgg168
  z146 := Tryz.sizeOf168
  v146 := Tryz.zeroValue168
  g1 := by kernel_rfl }
open Go.RowKit Go.Lib in
theorem Tryz.strings_Cut (s sep : ByteArray) (m : Int) (w : World) (hs : s.size < 4294967281) (hm : w.cell? ⟨0, 0, none⟩ = some (.int .i64 m)) :
    Calls Tryz.prog 97 #[.string s, .string sep] w fun e w' => e = .returned (.tuple #[.string ⟨(Lib.cut s.data.toList sep.data.toList).1.toArray⟩, .string ⟨(Lib.cut s.data.toList sep.data.toList).2.1.toArray⟩, .bool (Lib.cut s.data.toList sep.data.toList).2.2]) ∧ ∃ n, w' = w.drewN n := Any.strings_Cut Tryz.lays145 s sep m w hs hm
end Go.Proofs
end
section
/- Functions of the library, by the kit's contracts, as calls with data. -/
namespace Go.Proofs.YtfgbhfphjmmiaaaGreatDoor.Kx
open Go Go.RowKit
variable {P : Program} {g : FuncId}
theorem callF_calls {args : List V} {v : V} (h : ∀ M w vals, Sits M w → GlA M w → RelVs M noR args vals → ∃ u, RelV M noR v u ∧ Calls P g vals.toArray w (fun e w' => e = .returned u ∧ Below w.heap.size w w')) : CallF P g args v :=
  fun M w vals hs hg hr => by
    obtain ⟨u, hv, hc⟩ := h M w vals hs hg hr
    exact hc.mono fun e w' ⟨he, hb⟩ => ⟨u, M, he, Ext.same hs hb, hv⟩
theorem rel1 {M : Mem} {v : V} {vals : List Value} (h : RelVs M noR [v] vals) : ∃ a, vals = [a] ∧ RelV M noR v a := by
  simp only [RelVs] at h
  obtain ⟨a, r, rfl, h1, rfl⟩ := h
  exact ⟨a, rfl, h1⟩
theorem rel2 {M : Mem} {v u : V} {vals : List Value} (h : RelVs M noR [v, u] vals) : ∃ a b, vals = [a, b] ∧ RelV M noR v a ∧ RelV M noR u b := by
  simp only [RelVs] at h
  obtain ⟨a, r, rfl, h1, b, r', rfl, h2, rfl⟩ := h
  exact ⟨a, b, rfl, h1, h2⟩
theorem below_drewN (w : World) (n : Nat) : Below w.heap.size w (w.drewN n) := ⟨rfl, rfl, rfl, Nat.le_refl _, fun _ _ => rfl⟩
theorem strv_size (s : List UInt8) : (⟨s.toArray⟩ : ByteArray).size = s.length := rfl
/-! ### strconv.Itoa -/
def digF : Nat → Nat → List UInt8 → List UInt8
  | 0, _, acc => acc
  | k + 1, n, acc => bif Nat.blt n 10 then UInt8.ofNat (48 + n) :: acc else digF k (n / 10) (UInt8.ofNat (48 + n % 10) :: acc)
theorem digF_eq : ∀ (k n : Nat) (acc : List UInt8), n < 10 ^ k → 0 < k → digF k n acc = Lib.decDigits n ++ acc
  | 0, _, _, _, h => by omega
  | k + 1, n, acc, h, _ => by
    rw [digF, Lib.decDigits]
    by_cases hn : n < 10
    · rw [show Nat.blt n 10 = true from Nat.ble_eq_true_of_le hn, cond_true, dif_pos hn]; rfl
    · have hb : Nat.blt n 10 = false := by
        cases hb : Nat.blt n 10 with
        | false => rfl
        | true => exact absurd (Nat.le_of_ble_eq_true hb) hn
      have hk : 0 < k := by
        rcases Nat.eq_zero_or_pos k with e | e
        · subst e; simp at h; omega
        · exact e
      have hd : n / 10 < 10 ^ k := by rw [Nat.pow_succ] at h; omega
      rw [hb, cond_false, dif_neg hn, digF_eq k (n / 10) _ hd hk, List.append_assoc]; rfl
def itoaF (n : Int) : Option (List UInt8) :=
  bif decide (-9223372036854775808 ≤ n) && decide (n ≤ 9223372036854775807) then some (match n with | .ofNat m => digF 20 m [] | .negSucc m => 45 :: digF 20 (m + 1) []) else none
theorem itoaF_eq {n : Int} {r : List UInt8} (h : itoaF n = some r) : (-9223372036854775808 ≤ n ∧ n ≤ 9223372036854775807) ∧ r = Lib.itoa n := by
  unfold itoaF at h
  cases hb : (decide (-9223372036854775808 ≤ n) && decide (n ≤ 9223372036854775807)) with
  | false => rw [hb] at h; cases h
  | true =>
    rw [hb, cond_true] at h
    rw [Bool.and_eq_true, decide_eq_true_eq, decide_eq_true_eq] at hb
    refine ⟨hb, ?_⟩
    unfold Lib.itoa
    cases n with
    | ofNat m =>
      have hm : m < 10 ^ 20 := by have := hb.2; have : (m : Int) ≤ 9223372036854775807 := this; omega
      have := Option.some.inj h
      rw [← this]
      simp only [digF_eq 20 m [] hm (by omega), List.append_nil]
      rw [if_neg (show ¬ Int.ofNat m < 0 by simp)]; rfl
    | negSucc m =>
      have hm : m + 1 < 10 ^ 20 := by have := hb.1; omega
      have := Option.some.inj h
      rw [← this]
      simp only [digF_eq 20 (m + 1) [] hm (by omega), List.append_nil]
      rw [if_pos (Int.negSucc_lt_zero m)]; rfl
theorem relDs_ints {M : Mem} {k : IntKind} : ∀ {zs : List Int} {us : List Value}, RelDs M (zs.map (Dat.int k)) us → us = zs.map fun z => Value.int k z
  | [], us, h => h
  | z :: zs, us, ⟨u, us', e, r, rs⟩ => by
    subst e
    cases r
    rw [relDs_ints rs]; rfl
theorem tab_of {M : Mem} {w : World} {name : String} {gn : Nat} {k : IntKind} {zs : List Int} (hg : P.globalNamed name = some gn) (he : gl gn = some (zs.map (Dat.int k))) (hs : Sits M w) (ha : GlA M w) : Lib.TabIs P w name k zs := by
  obtain ⟨us, ⟨c, hc, hcell⟩, hr⟩ := ha.ok.d gn _ he
  obtain ⟨c', e', z', h1, h2⟩ := hs gn c hc
  obtain ⟨c2, e2, z2, h3, h4⟩ := ha.sz gn _ he
  rw [h1] at h3
  cases h3
  have hus := relDs_ints hr
  unfold Lib.TabIs World.var?
  rw [hg, Option.bind_some, h1]
  show some c' = _
  congr 1
  refine Array.ext' ?_
  refine List.ext_getElem? fun j => ?_
  rw [List.length_map] at h4
  rw [← hus]
  have hul : us.length = zs.length := by rw [hus, List.length_map]
  by_cases hj : j < us.length
  · have h5 := hcell j hj
    rw [Nat.zero_add] at h5
    have h6 : us[j]? = some us[j] := List.getElem?_eq_getElem hj
    rw [h6] at h5
    rw [Array.getElem?_toList, h2 j _ h5, h6]
  · rw [List.getElem?_eq_none (by rw [Array.length_toList]; omega), List.getElem?_eq_none (by simpa using Nat.le_of_not_lt hj)]
theorem below_grow (w : World) (k : Nat) (os : Array Obj) : Below w.heap.size w (Go.Sort.grow (w.drewN k) os) :=
  ⟨rfl, rfl, rfl, by show w.heap.size ≤ (w.heap ++ os).size; rw [Array.size_append]; omega, fun g h => Lib.heap_grow_old w k os g h⟩
theorem itoa_callF {gn : Nat} (hg : P.globalNamed "internal/strconv.uint64pow10" = some gn) (he : gl gn = some (Lib.pow10Tab.map (Dat.int .u64)))
    (h : ∀ (n : Int), -9223372036854775808 ≤ n → n ≤ 9223372036854775807 → ∀ w, Lib.TabIs P w "internal/strconv.uint64pow10" .u64 Lib.pow10Tab → Calls P g #[.int .i64 n] w fun e w' => e = .returned (.string ⟨(Lib.itoa n).toArray⟩) ∧ ∃ k os, w' = Go.Sort.grow (w.drewN k) os) {n : Int} {r : List UInt8} (hF : itoaF n = some r) : CallF P g [.d (.int .i64 n)] (.d (.str r)) := by
  obtain ⟨hn, rfl⟩ := itoaF_eq hF
  refine callF_calls fun M w vals hs hgl hr => ?_
  obtain ⟨a, rfl, h1⟩ := rel1 hr
  obtain rfl := relV_int h1
  exact ⟨_, mk_str (s := Lib.itoa n), (h n hn.1 hn.2 w (tab_of hg he hs hgl)).mono fun e w' ⟨h2, k, os, h3⟩ => ⟨h2, by rw [h3]; exact below_grow w k os⟩⟩
/-! ### strconv.Atoi -/
/-! ### strings.Repeat -/
/-! ### strings.Cut, strings.Split at one byte -/
def cut1 (c : UInt8) : List UInt8 → List UInt8 × List UInt8 × Bool
  | [] => ([], [], false)
  | b :: l => match b == c with
    | true => ([], l, true)
    | false => match cut1 c l with | (x, y, t) => (b :: x, y, t)
theorem index_cons (b c : UInt8) (l : List UInt8) : Lib.index (b :: l) [c] = if b = c then 0 else if Lib.index l [c] = -1 then -1 else Lib.index l [c] + 1 := by
  rw [Lib.index]
  by_cases h : b = c
  · subst h; simp [List.isPrefixOf]
  · have hp : ([c] : List UInt8).isPrefixOf (b :: l) = false := by simp [List.isPrefixOf, Ne.symm h]
    rw [hp, if_neg h]
    by_cases h2 : Lib.index l [c] = -1 <;> simp [h2]
theorem cut1_eq (c : UInt8) : ∀ l, Lib.cut l [c] = cut1 c l
  | [] => rfl
  | b :: l => by
    have ih := cut1_eq c l
    have hge := Lib.index_ge l [c]
    unfold Lib.cut at ih ⊢
    rw [index_cons]
    unfold cut1
    by_cases h : b = c
    · subst h; simp
    · rw [if_neg h, show (b == c) = false from by simpa using h]
      dsimp only
      rw [← ih]
      by_cases h2 : Lib.index l [c] = -1
      · simp [h2]
      · rw [if_neg h2]
        obtain ⟨j, hj⟩ : ∃ j : Nat, Lib.index l [c] = j := ⟨(Lib.index l [c]).toNat, by omega⟩
        rw [hj, if_pos (by omega), if_pos (by omega)]
        have e1 : ((j : Int) + 1).toNat = j + 1 := by omega
        rw [e1, Int.toNat_natCast]
        simp
def cutF (s p : List UInt8) : Option (List UInt8 × List UInt8 × Bool) := match p with
  | [c] => bif decide (s.length ≤ 2147483648) then some (cut1 c s) else none
  | _ => none
theorem cut_callF {n : Nat} (hx : (n, IntKind.i64) ∈ gxT) (h : ∀ (s sep : ByteArray) (m : Int) (w : World), s.size < 4294967281 → w.cell? ⟨n, 0, none⟩ = some (.int .i64 m) → Calls P g #[.string s, .string sep] w fun e w' =>
      e = .returned (.tuple #[.string ⟨(Lib.cut s.data.toList sep.data.toList).1.toArray⟩, .string ⟨(Lib.cut s.data.toList sep.data.toList).2.1.toArray⟩, .bool (Lib.cut s.data.toList sep.data.toList).2.2]) ∧ ∃ n, w' = w.drewN n)
    {s p : List UInt8} {r : List UInt8 × List UInt8 × Bool} (hF : cutF s p = some r) : CallF P g [.d (.str s), .d (.str p)] (.tup [.d (.str r.1), .d (.str r.2.1), .d (.bool r.2.2)]) := by
  unfold cutF at hF
  split at hF
  · rename_i c
    cases hb : decide (s.length ≤ 2147483648) with
    | false => rw [hb] at hF; cases hF
    | true =>
      rw [hb, cond_true] at hF
      cases hF
      have hb := of_decide_eq_true hb
      refine callF_calls fun M w vals hs hg hr => ?_
      obtain ⟨a, b, rfl, h1, h2⟩ := rel2 hr
      obtain rfl := relV_str h1
      obtain rfl := relV_str h2
      obtain ⟨m, hm⟩ := hg.ok.x _ _ hx
      have hc := h ⟨s.toArray⟩ ⟨([c] : List UInt8).toArray⟩ m w (by rw [strv_size]; omega) (hm.cell hs (j := 0) rfl)
      have e : Lib.cut (⟨s.toArray⟩ : ByteArray).data.toList (⟨([c] : List UInt8).toArray⟩ : ByteArray).data.toList = cut1 c s := by rw [← cut1_eq]
      rw [e] at hc
      refine ⟨.tuple #[strv (cut1 c s).1, strv (cut1 c s).2.1, .bool (cut1 c s).2.2], ?_, hc.mono fun e w' ⟨h3, k, h4⟩ => ⟨h3, by rw [h4]; exact below_drewN _ _⟩⟩
      simp only [RelV, RelVs]
      exact ⟨[strv (cut1 c s).1, strv (cut1 c s).2.1, .bool (cut1 c s).2.2], rfl, _, _, rfl, .str _, _, _, rfl, .str _, _, _, rfl, .bool _, rfl⟩
  · cases hF
/-! ### slices.Index of a string -/
end Go.Proofs.YtfgbhfphjmmiaaaGreatDoor.Kx
end
