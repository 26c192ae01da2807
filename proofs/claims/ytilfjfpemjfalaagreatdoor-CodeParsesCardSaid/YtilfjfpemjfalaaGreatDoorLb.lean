/- Functions of the library, by the kit's contracts, as calls with data. -/
import Derived.Test.YtilfjfpemjfalaaGreatDoorRtb
import Derived.Test.YtilfjfpemjfalaaGreatDoorRya
import Derived.Lib.ItoaNum
import Derived.Lib.AtoiAll
import Derived.Lib.AtoiErrMem
import Derived.Lib.Repeat
import Derived.Lib.LaidTab
import Derived.Lib.AppendIntMem
import Derived.Lib.ItoaNum
import Derived.Lib.Split
import Derived.Lib.SplitLaws
import Derived.Lib.CutLaws
import Derived.Lib.SlicesS
import Derived.Deep.Draws
namespace Go.Proofs.YtilfjfpemjfalaaGreatDoor.Kx
open Go Go.RowKit
variable {P : Program} {g : FuncId}

theorem callF_calls {args : List V} {v : V} (h : ∀ M w vals, Sits M w → GlA M w → RelVs M noR args vals → ∃ u, RelV M noR v u ∧ Calls P g vals.toArray w (fun e w' => e = .returned u ∧ Below w.heap.size w w')) : CallF P g args v :=
  fun M w vals hs hg hr => by
    obtain ⟨u, hv, hc⟩ := h M w vals hs hg hr
    exact hc.mono fun e w' ⟨he, hb⟩ => ⟨u, M, he, Ext.same hs hb, hv⟩
theorem rel1 {M : Mem} {v : V} {vals : List Value} (h : RelVs M noR [v] vals) : ∃ a, vals = [a] ∧ RelV M noR v a := by
  simp only [RelVs] at h
  obtain ⟨a, r, rfl, h1, rfl⟩ := h
  exact ⟨a, rfl, h1⟩
theorem rel2 {M : Mem} {v u : V} {vals : List Value} (h : RelVs M noR [v, u] vals) : ∃ a b, vals = [a, b] ∧ RelV M noR v a ∧ RelV M noR u b := by
  simp only [RelVs] at h
  obtain ⟨a, r, rfl, h1, b, r', rfl, h2, rfl⟩ := h
  exact ⟨a, b, rfl, h1, h2⟩
theorem below_drewN (w : World) (n : Nat) : Below w.heap.size w (w.drewN n) := ⟨rfl, rfl, rfl, Nat.le_refl _, fun _ _ => rfl⟩
theorem strv_size (s : List UInt8) : (⟨s.toArray⟩ : ByteArray).size = s.length := rfl

/-! ### strconv.Itoa -/
def digF : Nat → Nat → List UInt8 → List UInt8
  | 0, _, acc => acc
  | k + 1, n, acc => bif Nat.blt n 10 then UInt8.ofNat (48 + n) :: acc else digF k (n / 10) (UInt8.ofNat (48 + n % 10) :: acc)
theorem digF_eq : ∀ (k n : Nat) (acc : List UInt8), n < 10 ^ k → 0 < k → digF k n acc = Lib.decDigits n ++ acc
  | 0, _, _, _, h => by omega
  | k + 1, n, acc, h, _ => by
    rw [digF, Lib.decDigits]
    by_cases hn : n < 10
    · rw [show Nat.blt n 10 = true from Nat.ble_eq_true_of_le hn, cond_true, dif_pos hn]; rfl
    · have hb : Nat.blt n 10 = false := by
        cases hb : Nat.blt n 10 with
        | false => rfl
        | true => exact absurd (Nat.le_of_ble_eq_true hb) hn
      have hk : 0 < k := by
        rcases Nat.eq_zero_or_pos k with e | e
        · subst e; simp at h; omega
        · exact e
      have hd : n / 10 < 10 ^ k := by rw [Nat.pow_succ] at h; omega
      rw [hb, cond_false, dif_neg hn, digF_eq k (n / 10) _ hd hk, List.append_assoc]; rfl
def itoaF (n : Int) : Option (List UInt8) :=
  bif decide (-9223372036854775808 ≤ n) && decide (n ≤ 9223372036854775807) then some (match n with | .ofNat m => digF 20 m [] | .negSucc m => 45 :: digF 20 (m + 1) []) else none
theorem itoaF_eq {n : Int} {r : List UInt8} (h : itoaF n = some r) : (-9223372036854775808 ≤ n ∧ n ≤ 9223372036854775807) ∧ r = Lib.itoa n := by
  unfold itoaF at h
  cases hb : (decide (-9223372036854775808 ≤ n) && decide (n ≤ 9223372036854775807)) with
  | false => rw [hb] at h; cases h
  | true =>
    rw [hb, cond_true] at h
    rw [Bool.and_eq_true, decide_eq_true_eq, decide_eq_true_eq] at hb
    refine ⟨hb, ?_⟩
    unfold Lib.itoa
    cases n with
    | ofNat m =>
      have hm : m < 10 ^ 20 := by have := hb.2; have : (m : Int) ≤ 9223372036854775807 := this; omega
      have := Option.some.inj h
      rw [← this]
      simp only [digF_eq 20 m [] hm (by omega), List.append_nil]
      rw [if_neg (show ¬ Int.ofNat m < 0 by simp)]; rfl
    | negSucc m =>
      have hm : m + 1 < 10 ^ 20 := by have := hb.1; omega
      have := Option.some.inj h
      rw [← this]
      simp only [digF_eq 20 (m + 1) [] hm (by omega), List.append_nil]
      rw [if_pos (Int.negSucc_lt_zero m)]; rfl
theorem relDs_ints {M : Mem} {k : IntKind} : ∀ {zs : List Int} {us : List Value}, RelDs M (zs.map (Dat.int k)) us → us = zs.map fun z => Value.int k z
  | [], us, h => h
  | z :: zs, us, ⟨u, us', e, r, rs⟩ => by
    subst e
    cases r
    rw [relDs_ints rs]; rfl
theorem tab_of {M : Mem} {w : World} {name : String} {gn : Nat} {k : IntKind} {zs : List Int} (hg : P.globalNamed name = some gn) (he : gl gn = some (zs.map (Dat.int k))) (hs : Sits M w) (ha : GlA M w) : Lib.TabIs P w name k zs := by
  obtain ⟨us, ⟨c, hc, hcell⟩, hr⟩ := ha.ok.d gn _ he
  obtain ⟨c', e', z', h1, h2⟩ := hs gn c hc
  obtain ⟨c2, e2, z2, h3, h4⟩ := ha.sz gn _ he
  rw [h1] at h3
  cases h3
  have hus := relDs_ints hr
  unfold Lib.TabIs World.var?
  rw [hg, Option.bind_some, h1]
  show some c' = _
  congr 1
  refine Array.ext' ?_
  refine List.ext_getElem? fun j => ?_
  rw [List.length_map] at h4
  rw [← hus]
  have hul : us.length = zs.length := by rw [hus, List.length_map]
  by_cases hj : j < us.length
  · have h5 := hcell j hj
    rw [Nat.zero_add] at h5
    have h6 : us[j]? = some us[j] := List.getElem?_eq_getElem hj
    rw [h6] at h5
    rw [Array.getElem?_toList, h2 j _ h5, h6]
  · rw [List.getElem?_eq_none (by rw [Array.length_toList]; omega), List.getElem?_eq_none (by simpa using Nat.le_of_not_lt hj)]
theorem below_grow (w : World) (k : Nat) (os : Array Obj) : Below w.heap.size w (Go.Sort.grow (w.drewN k) os) :=
  ⟨rfl, rfl, rfl, by show w.heap.size ≤ (w.heap ++ os).size; rw [Array.size_append]; omega, fun g h => Lib.heap_grow_old w k os g h⟩
theorem itoa_callF {gn : Nat} (hg : P.globalNamed "internal/strconv.uint64pow10" = some gn) (he : gl gn = some (Lib.pow10Tab.map (Dat.int .u64)))
    (h : ∀ (n : Int), -9223372036854775808 ≤ n → n ≤ 9223372036854775807 → ∀ w, Lib.TabIs P w "internal/strconv.uint64pow10" .u64 Lib.pow10Tab → Calls P g #[.int .i64 n] w fun e w' => e = .returned (.string ⟨(Lib.itoa n).toArray⟩) ∧ ∃ k os, w' = Go.Sort.grow (w.drewN k) os) {n : Int} {r : List UInt8} (hF : itoaF n = some r) : CallF P g [.d (.int .i64 n)] (.d (.str r)) := by
  obtain ⟨hn, rfl⟩ := itoaF_eq hF
  refine callF_calls fun M w vals hs hgl hr => ?_
  obtain ⟨a, rfl, h1⟩ := rel1 hr
  obtain rfl := relV_int h1
  exact ⟨_, mk_str (s := Lib.itoa n), (h n hn.1 hn.2 w (tab_of hg he hs hgl)).mono fun e w' ⟨h2, k, os, h3⟩ => ⟨h2, by rw [h3]; exact below_grow w k os⟩⟩

/-! ### strconv.Atoi -/
def atoiF (s : List UInt8) : Option (Int × Bool) := bif decide (s.length ≤ 2147483648) then some (match Lib.atoiAll s with | .ok v => (v, false) | .range => (Lib.atoiSat s, true) | _ => (0, true)) else none
theorem ife_cell {M : Mem} {w : World} {n : Nat} (he : gl n = some [.ife true]) (hs : Sits M w) (hg : GlA M w) : ∃ t u, w.cell? ⟨n, 0, none⟩ = some (.iface t u) := by
  obtain ⟨us, ⟨c, hc, hcell⟩, u, us', rfl, hr, _⟩ := hg.ok.d n _ he
  cases hr with
  | ifc t u =>
    have h0 := hcell 0 (by simp)
    exact ⟨t, u, hs.cell hc (by simpa using h0)⟩
theorem atoi_callF {bt te tc : TypeId} {gs gr : Nat} (hes : gl gs = some [.ife true]) (her : gl gr = some [.ife true])
    (h : ∀ (s : ByteArray), s.size ≤ 9223372036854775806 → ∀ v : Int, Lib.atoiAll s.data.toList = .ok v → ∀ w, Calls P g #[.string s] w fun e w' => e = .returned (.tuple #[.int .i64 v, .nilIface]) ∧ (w' = w ∨ ∃ t, w' = Lib.bytesWorld w bt t))
    (hb : ∀ (s : ByteArray), s.size ≤ 281474976710656 → (∀ v, Lib.atoiAll s.data.toList ≠ .ok v) → Lib.atoiAll s.data.toList ≠ .range → ∀ (ev : Value) (w : World), w.cell? ⟨gs, 0, none⟩ = some ev → (ev = .nilIface ∨ ∃ te pe, ev = .iface te pe) →
      Calls P g #[.string s] w fun e w' => ∃ N, e = .returned (.tuple #[.int .i64 (0), .iface te (.pointer (some ⟨N, 0, none⟩))]) ∧ w.heap.size ≤ N ∧ w'.heap[N]? = some (.cells #[.string ⟨#[65, 116, 111, 105]⟩, .string s, ev] tc (0, 0)) ∧ Below w.heap.size w w')
    (hr0 : ∀ (s : ByteArray), s.size ≤ 281474976710656 → Lib.atoiAll s.data.toList = .range → ∀ (ev : Value) (w : World), w.cell? ⟨gr, 0, none⟩ = some ev → (ev = .nilIface ∨ ∃ te pe, ev = .iface te pe) →
      Calls P g #[.string s] w fun e w' => ∃ N, e = .returned (.tuple #[.int .i64 (Lib.atoiSat s.data.toList), .iface te (.pointer (some ⟨N, 0, none⟩))]) ∧ w.heap.size ≤ N ∧ w'.heap[N]? = some (.cells #[.string ⟨#[65, 116, 111, 105]⟩, .string s, ev] tc (0, 0)) ∧ Below w.heap.size w w')
    {s : List UInt8} {r : Int × Bool} (hF : atoiF s = some r) : CallF P g [.d (.str s)] (.tup [.d (.int .i64 r.1), .d (.ife r.2)]) := by
  unfold atoiF at hF
  cases hb1 : decide (s.length ≤ 2147483648) with
  | false => rw [hb1] at hF; cases hF
  | true =>
    rw [hb1, cond_true] at hF
    have hlen := of_decide_eq_true hb1
    have hr1 := Option.some.inj hF
    intro M w vals hs hg hr
    obtain ⟨a, rfl, h1⟩ := rel1 hr
    obtain rfl := relV_str h1
    have pair : ∀ (n : Int) (N : Nat), RelV M noR (.tup [.d (.int .i64 n), .d (.ife true)]) (.tuple #[.int .i64 n, .iface te (.pointer (some ⟨N, 0, none⟩))]) := fun n N => by
      simp only [RelV, RelVs]
      exact ⟨[.int .i64 n, .iface te (.pointer (some ⟨N, 0, none⟩))], rfl, _, _, rfl, .int _ _, _, _, rfl, .ifc _ _, rfl⟩
    split at hr1
    · rename_i v hv
      subst hr1
      refine (h ⟨s.toArray⟩ (by rw [strv_size]; omega) v (by simpa using hv) w).mono fun e w' ⟨h2, h3⟩ => ⟨_, M, h2, Ext.same hs ?_, ?_⟩
      · rcases h3 with rfl | ⟨t, rfl⟩
        · exact Below.refl _ _
        · exact Lib.bytesWorld_below _ _ _
      · simp only [RelV, RelVs]
        exact ⟨[.int .i64 v, .nilIface], rfl, _, _, rfl, .int _ _, _, _, rfl, .nili, rfl⟩
    · rename_i hv
      subst hr1
      obtain ⟨t, u, hc⟩ := ife_cell her hs hg
      exact (hr0 ⟨s.toArray⟩ (by rw [strv_size]; omega) (by simpa using hv) _ w hc (.inr ⟨t, u, rfl⟩)).mono fun e w' ⟨N, h2, _, _, h3⟩ => ⟨_, M, h2, Ext.same hs h3, by simpa using pair (Lib.atoiSat s) N⟩
    · rename_i hv1 hv2
      subst hr1
      obtain ⟨t, u, hc⟩ := ife_cell hes hs hg
      exact (hb ⟨s.toArray⟩ (by rw [strv_size]; omega) (fun v hv => hv1 v (by simpa using hv)) (fun hv => hv2 (by simpa using hv)) _ w hc (.inr ⟨t, u, rfl⟩)).mono fun e w' ⟨N, h2, _, _, h3⟩ => ⟨_, M, h2, Ext.same hs h3, pair 0 N⟩

/-! ### strings.Repeat -/
def repL (s : List UInt8) : Nat → List UInt8
  | 0 => []
  | n + 1 => s ++ repL s n
def repF (s : List UInt8) (n : Int) : Option (List UInt8) := bif decide (2 ≤ n) && decide (n ≤ 1000000) && decide (0 < s.length) && decide (s.length ≤ 1000000) then some (repL s n.toNat) else none
theorem rep_eq (s : List UInt8) : ∀ n, Lib.repeatL s n = repL s n
  | 0 => rfl
  | n + 1 => by rw [Lib.repeatL, rep_eq s n]; rfl
theorem repeat_callF {rl : List UInt8 → Nat → List UInt8} (hrl : ∀ s n, rl s n = repL s n) (h : ∀ (s : ByteArray) (c : Nat) (w : World), 2 ≤ c → c ≤ 9223372036854775807 → s.size * c ≤ 140737488355328 → 0 < s.size → Calls P g #[.string s, .int .i64 (c : Int)] w fun e w' => e = .returned (.string ⟨(rl s.data.toList c).toArray⟩) ∧ Below w.heap.size w w')
    {s : List UInt8} {n : Int} {r : List UInt8} (hF : repF s n = some r) : CallF P g [.d (.str s), .d (.int .i64 n)] (.d (.str r)) := by
  unfold repF at hF
  cases hb : (decide (2 ≤ n) && decide (n ≤ 1000000) && decide (0 < s.length) && decide (s.length ≤ 1000000)) with
  | false => rw [hb] at hF; cases hF
  | true =>
    rw [hb, cond_true] at hF
    cases hF
    simp only [Bool.and_eq_true, decide_eq_true_eq] at hb
    obtain ⟨⟨⟨h1, h2⟩, h3⟩, h4⟩ := hb
    obtain ⟨c, rfl⟩ : ∃ c : Nat, n = c := ⟨n.toNat, by omega⟩
    refine callF_calls fun M w vals hs hg hr => ?_
    obtain ⟨a, b, rfl, h5, h6⟩ := rel2 hr
    obtain rfl := relV_str h5
    obtain rfl := relV_int h6
    refine ⟨_, mk_str, (h ⟨s.toArray⟩ c w (by omega) (by omega) ?_ (by rw [strv_size]; exact h3)).mono fun e w' ⟨h7, h8⟩ => ⟨?_, h8⟩⟩
    · rw [strv_size]
      exact Nat.le_trans (Nat.mul_le_mul h4 (show c ≤ 1000000 by omega)) (by decide)
    · rw [h7, hrl, Int.toNat_natCast]; rfl

/-! ### strings.Cut, strings.Split at one byte -/
def cut1 (c : UInt8) : List UInt8 → List UInt8 × List UInt8 × Bool
  | [] => ([], [], false)
  | b :: l => match b == c with
    | true => ([], l, true)
    | false => match cut1 c l with | (x, y, t) => (b :: x, y, t)
theorem index_cons (b c : UInt8) (l : List UInt8) : Lib.index (b :: l) [c] = if b = c then 0 else if Lib.index l [c] = -1 then -1 else Lib.index l [c] + 1 := by
  rw [Lib.index]
  by_cases h : b = c
  · subst h; simp [List.isPrefixOf]
  · have hp : ([c] : List UInt8).isPrefixOf (b :: l) = false := by simp [List.isPrefixOf, Ne.symm h]
    rw [hp, if_neg h]
    by_cases h2 : Lib.index l [c] = -1 <;> simp [h2]
theorem cut1_eq (c : UInt8) : ∀ l, Lib.cut l [c] = cut1 c l
  | [] => rfl
  | b :: l => by
    have ih := cut1_eq c l
    have hge := Lib.index_ge l [c]
    unfold Lib.cut at ih ⊢
    rw [index_cons]
    unfold cut1
    by_cases h : b = c
    · subst h; simp
    · rw [if_neg h, show (b == c) = false from by simpa using h]
      dsimp only
      rw [← ih]
      by_cases h2 : Lib.index l [c] = -1
      · simp [h2]
      · rw [if_neg h2]
        obtain ⟨j, hj⟩ : ∃ j : Nat, Lib.index l [c] = j := ⟨(Lib.index l [c]).toNat, by omega⟩
        rw [hj, if_pos (by omega), if_pos (by omega)]
        have e1 : ((j : Int) + 1).toNat = j + 1 := by omega
        rw [e1, Int.toNat_natCast]
        simp
def split1 (c : UInt8) : List UInt8 → List (List UInt8)
  | [] => [[]]
  | b :: l => match b == c with
    | true => [] :: split1 c l
    | false => match split1 c l with
      | x :: xs => (b :: x) :: xs
      | [] => [[b]]
theorem split1_eq (c : UInt8) : ∀ (l : List UInt8), Lib.splitK [c] 0 (Lib.count l [c]) l = split1 c l
  | [] => rfl
  | b :: l => by
    have ih := split1_eq c l
    have hge := Lib.index_ge l [c]
    unfold split1
    by_cases h : b = c
    · subst h
      rw [Lib.count_cons_eq, Nat.add_comm, Lib.splitK, index_cons, if_pos rfl]
      simp [ih]
    · rw [Lib.count_cons_ne b c l h, show (b == c) = false from by simpa using h]
      dsimp only
      rw [← ih]
      by_cases h2 : Lib.index l [c] = -1
      · rw [Lib.count_miss h2]
        rfl
      · obtain ⟨j, hj⟩ : ∃ j : Nat, Lib.index l [c] = j := ⟨(Lib.index l [c]).toNat, by omega⟩
        rw [Lib.count_hit (by simp) hj, Nat.add_comm, Lib.splitK, Lib.splitK, index_cons, if_neg h, if_neg h2, hj]
        have e1 : ((j : Int) + 1).toNat = j + 1 := by omega
        have e2 : ((j : Int) == -1) = false := by simp
        have e3 : ((j : Int) + 1 == -1) = false := by simp; omega
        simp [e1, e2, e3]
def cutF (s p : List UInt8) : Option (List UInt8 × List UInt8 × Bool) := match p with
  | [c] => bif decide (s.length ≤ 2147483648) then some (cut1 c s) else none
  | _ => none
theorem cut_callF {n : Nat} (hx : (n, IntKind.i64) ∈ gxT) (h : ∀ (s sep : ByteArray) (m : Int) (w : World), s.size < 4294967281 → w.cell? ⟨n, 0, none⟩ = some (.int .i64 m) → Calls P g #[.string s, .string sep] w fun e w' =>
      e = .returned (.tuple #[.string ⟨(Lib.cut s.data.toList sep.data.toList).1.toArray⟩, .string ⟨(Lib.cut s.data.toList sep.data.toList).2.1.toArray⟩, .bool (Lib.cut s.data.toList sep.data.toList).2.2]) ∧ ∃ n, w' = w.drewN n)
    {s p : List UInt8} {r : List UInt8 × List UInt8 × Bool} (hF : cutF s p = some r) : CallF P g [.d (.str s), .d (.str p)] (.tup [.d (.str r.1), .d (.str r.2.1), .d (.bool r.2.2)]) := by
  unfold cutF at hF
  split at hF
  · rename_i c
    cases hb : decide (s.length ≤ 2147483648) with
    | false => rw [hb] at hF; cases hF
    | true =>
      rw [hb, cond_true] at hF
      cases hF
      have hb := of_decide_eq_true hb
      refine callF_calls fun M w vals hs hg hr => ?_
      obtain ⟨a, b, rfl, h1, h2⟩ := rel2 hr
      obtain rfl := relV_str h1
      obtain rfl := relV_str h2
      obtain ⟨m, hm⟩ := hg.ok.x _ _ hx
      have hc := h ⟨s.toArray⟩ ⟨([c] : List UInt8).toArray⟩ m w (by rw [strv_size]; omega) (hm.cell hs (j := 0) rfl)
      have e : Lib.cut (⟨s.toArray⟩ : ByteArray).data.toList (⟨([c] : List UInt8).toArray⟩ : ByteArray).data.toList = cut1 c s := by rw [← cut1_eq]
      rw [e] at hc
      refine ⟨.tuple #[strv (cut1 c s).1, strv (cut1 c s).2.1, .bool (cut1 c s).2.2], ?_, hc.mono fun e w' ⟨h3, k, h4⟩ => ⟨h3, by rw [h4]; exact below_drewN _ _⟩⟩
      simp only [RelV, RelVs]
      exact ⟨[strv (cut1 c s).1, strv (cut1 c s).2.1, .bool (cut1 c s).2.2], rfl, _, _, rfl, .str _, _, _, rfl, .str _, _, _, rfl, .bool _, rfl⟩
  · cases hF
def splitF (s p : List UInt8) : Option (List (List UInt8)) := match p with
  | [c] => bif decide (s.length ≤ 2147483648) then some (split1 c s) else none
  | _ => none
theorem split_callF {n : Nat} {te : TypeId} (hx : (n, IntKind.i64) ∈ gxT) (h : ∀ (s sep : ByteArray) (m : Int) (w : World), s.size < 4294967281 → w.cell? ⟨n, 0, none⟩ = some (.int .i64 m) → 1 ≤ sep.size → Calls P g #[.string s, .string sep] w fun e w' =>
      e = .returned (.slice (some ⟨w.heap.size, 0, none⟩) (Lib.countB s sep + 1) (Lib.countB s sep + 1)) ∧ w' = w.alloc (.cells (List.map Value.string (Lib.splitB sep 0 (Lib.countB s sep) s)).toArray te))
    {f : List UInt8 → List Dat} (hf : ∀ x, f x = [.str x]) {s p : List UInt8} {r : List (List UInt8)} (hF : splitF s p = some r) : CallF P g [.d (.str s), .d (.str p)] (.d (.sl 1 (r.map f))) := by
  unfold splitF at hF
  split at hF
  · rename_i c
    cases hb : decide (s.length ≤ 2147483648) with
    | false => rw [hb] at hF; cases hF
    | true =>
      rw [hb, cond_true] at hF
      cases hF
      have hb := of_decide_eq_true hb
      intro M w vals hs hg hr
      obtain ⟨a, b, rfl, h1, h2⟩ := rel2 hr
      obtain rfl := relV_str h1
      obtain rfl := relV_str h2
      obtain ⟨m, hm⟩ := hg.ok.x _ _ hx
      have hc := h ⟨s.toArray⟩ ⟨([c] : List UInt8).toArray⟩ m w (by rw [strv_size]; omega) (hm.cell hs (j := 0) rfl) (by show 1 ≤ 1; omega)
      have e0 : (Lib.splitB ⟨([c] : List UInt8).toArray⟩ 0 (Lib.countB ⟨s.toArray⟩ ⟨([c] : List UInt8).toArray⟩) ⟨s.toArray⟩).map (·.data.toList) = split1 c s := by
        rw [Lib.splitB_data]
        exact split1_eq c s
      have e1 := Lib.splitB_all ⟨([c] : List UInt8).toArray⟩ (by show 1 ≤ 1; omega) 0 _ ⟨s.toArray⟩ rfl
      generalize Lib.splitB ⟨([c] : List UInt8).toArray⟩ 0 (Lib.countB ⟨s.toArray⟩ ⟨([c] : List UInt8).toArray⟩) ⟨s.toArray⟩ = bs at hc e0 e1
      rw [← e1] at hc
      have hMn : ∀ b, w.heap.size ≤ b → M b = none := fun b hb => by
        cases hm : M b with
        | none => rfl
        | some c => exact absurd (hs.lt hm) (by omega)
      refine hc.mono fun e w' ⟨h3, h4⟩ => ?_
      subst h4
      let M' : Mem := fun b => if b = w.heap.size then some (bs.map Value.string).toArray else M b
      have hM' : M' w.heap.size = some (bs.map Value.string).toArray := if_pos rfl
      have hle : M.le M' := fun b c hc => by
        have : b ≠ w.heap.size := fun e => by have := hs.lt hc; omega
        exact ⟨c, by simp only [M', if_neg this]; exact hc, Pre.refl c⟩
      have hel : ∀ i, i < bs.length → (split1 c s)[i]? = some bs[i]!.data.toList := fun i hi => by
        rw [← e0, List.getElem?_map, List.getElem?_eq_getElem hi]
        simp [hi]
      refine ⟨_, M', h3, ⟨(Below.refl _ _).alloc (Nat.le_refl _) _, hle, fun b c hc => ?_, fun b c hc hlt => ?_⟩, ?_⟩
      · by_cases eb : b = w.heap.size
        · subst eb; rw [hM'] at hc; cases hc
          exact ⟨_, _, _, World.alloc_heap_new w _, Pre.refl _⟩
        · simp only [M', if_neg eb] at hc
          obtain ⟨c', e', z, h5, h6⟩ := hs b c hc
          exact ⟨c', e', z, by rw [Below.heap_alloc _ _ _ (hs.lt hc)]; exact h5, h6⟩
      · simp only [M', if_neg (show b ≠ w.heap.size by omega)] at hc; exact hc
      · have hlen : (split1 c s).length = bs.length := by rw [← e0, List.length_map]
        simp only [RelV]
        rw [show bs.length = ((split1 c s).map f).length by rw [List.length_map, hlen]]
        refine .sl 1 _ _ _ w.heap.size 0 (fun i => [.string bs[i]!]) (Nat.le_refl _) (fun _ => rfl) (fun i hi => ⟨_, hM', fun j hj => ?_⟩) (fun i cs hi => ?_) (fun i j cs x u h1 h2 h3 => ?_)
        · rw [List.length_map, hlen] at hi
          simp only [List.length_singleton] at hj
          obtain rfl : j = 0 := by omega
          simp [hi]
        · rw [List.getElem?_map] at hi
          obtain ⟨y, hy, rfl⟩ := Option.map_eq_some_iff.1 hi
          rw [hf]; exact ⟨rfl, rfl⟩
        · rw [List.getElem?_map] at h1
          obtain ⟨y, hy, rfl⟩ := Option.map_eq_some_iff.1 h1
          have hil := (List.getElem?_eq_some_iff.1 hy).1
          rw [hel i (by omega)] at hy
          cases hy
          rw [hf] at h2
          cases j with
          | zero =>
            simp only [List.getElem?_cons_zero, Option.some.injEq] at h2 h3
            subst h2; subst h3
            exact .str _
          | succ j => simp at h2
  · cases hF

/-! ### slices.Index of a string -/
def idxF1 (x : List UInt8) : List (List UInt8) → Nat → Int
  | [], _ => -1
  | y :: l, i => bif y == x then (i : Int) else idxF1 x l (i + 1)
def idxF (l : List (List UInt8)) (x : List UInt8) : Option Int := bif decide (l.length ≤ 2147483648) then some (idxF1 x l 0) else none
theorem idx_eq (x : List UInt8) : ∀ (zs : List ByteArray) (i : Nat), Lib.idxFromS zs ⟨x.toArray⟩ i = idxF1 x (zs.map (·.data.toList)) i
  | [], i => rfl
  | z :: zs, i => by
    rw [List.map_cons, idxF1, Lib.idxFromS, idx_eq x zs (i + 1)]
    by_cases h : z = ⟨x.toArray⟩
    · rw [if_pos h, show (z.data.toList == x) = true from by subst h; simp]
      rfl
    · rw [if_neg h, show (z.data.toList == x) = false from by
        rw [beq_eq_false_iff_ne]
        intro e
        apply h
        subst e
        cases z; simp]
      rfl
theorem index_callF (h : ∀ (b off n c : Nat) (zs : List ByteArray) (x : ByteArray) (w : World), n ≤ zs.length → n ≤ 9223372036854775807 → (∀ j, j < zs.length → w.cell? ⟨b, off + j, none⟩ = some (.string (zs.getD j ByteArray.empty))) →
      Calls P g #[.slice (some ⟨b, off, none⟩) n c, .string x] w fun e w' => e = .returned (.int .i64 (Lib.idxOfS (zs.take n) x)) ∧ w' = w)
    {f : List UInt8 → List Dat} (hf : ∀ x, f x = [.str x]) {l : List (List UInt8)} {x : List UInt8} {r : Int} (hne : l ≠ []) (hF : idxF l x = some r) : CallF P g [.d (.sl 1 (l.map f)), .d (.str x)] (.d (.int .i64 r)) := by
  unfold idxF at hF
  cases hb : decide (l.length ≤ 2147483648) with
  | false => rw [hb] at hF; cases hF
  | true =>
    rw [hb, cond_true] at hF
    cases hF
    have hb := of_decide_eq_true hb
    refine callF_calls fun M w vals hs hg hr => ?_
    obtain ⟨a, b, rfl, h1, h2⟩ := rel2 hr
    obtain rfl := relV_str h2
    have h1 := relV_d h1
    cases h1 with
    | sl _ _ p cap bk o us hcap ha hc hss hrr =>
      rw [ha (by simpa using hne)]
      rw [List.length_map] at hcap hc
      let zs : List ByteArray := l.map fun s => ⟨s.toArray⟩
      have hcell : ∀ j, j < zs.length → w.cell? ⟨bk, o + j, none⟩ = some (.string (zs.getD j ByteArray.empty)) := fun j hj => by
        simp only [zs, List.length_map] at hj
        have hel : (l.map f)[j]? = some (f l[j]) := by rw [List.getElem?_map, List.getElem?_eq_getElem hj]; rfl
        obtain ⟨l1, l2⟩ := hss j _ hel
        obtain ⟨u, hu⟩ : ∃ u, us j = [u] := by
          match hm : us j, l2 with
          | [u], _ => exact ⟨u, rfl⟩
        have := hrr j 0 _ (.str l[j]) u hel (by rw [hf]; rfl) (by rw [hu]; rfl)
        have eu : u = strv l[j] := by cases this; rfl
        have := (hc j hj).cell hs (j := 0) (v := u) (by rw [hu]; rfl)
        rw [eu, Nat.mul_one, Nat.add_zero] at this
        rw [this]
        simp [zs, strv, List.getD, hj]
      have hcall := h bk o l.length cap zs ⟨x.toArray⟩ w (by simp [zs]) (by omega) hcell
      have e : Lib.idxOfS (zs.take l.length) ⟨x.toArray⟩ = idxF1 x l 0 := by
        rw [show zs.take l.length = zs from List.take_of_length_le (by simp [zs])]
        show Lib.idxFromS zs _ 0 = _
        rw [idx_eq]
        have : zs.map (·.data.toList) = l := by
          simp only [zs, List.map_map]
          exact (List.map_congr_left (fun _ _ => rfl)).trans (List.map_id _)
        rw [this]
      rw [e] at hcall
      rw [List.length_map]
      exact ⟨_, mk_int (k := .i64) (n := idxF1 x l 0), hcall.mono fun e w' ⟨h3, h4⟩ => ⟨h3, by rw [h4]; exact Below.refl _ _⟩⟩
end Go.Proofs.YtilfjfpemjfalaaGreatDoor.Kx
