/- Data, abstract values, what they say of values in memory. -/
import Derived.Test.YtilfjfpemjfalaaGreatDoorKg
namespace Go.Proofs.YtilfjfpemjfalaaGreatDoor.Kx
open Go Go.RowKit

/-- One cell of data that is never written again. -/
inductive Dat where
  | int (k : IntKind) (n : Int)
  | bool (b : Bool)
  | str (s : List UInt8)
  | sl (sz : Nat) (es : List (List Dat))
  | nilp | nilm | nilf
  | fnc (f : FuncId)
  | any
  | ife (b : Bool)
  | pt (cs : List Dat)

inductive RelD (M : Mem) : Dat → Value → Prop
  | int (k : IntKind) (n : Int) : RelD M (.int k n) (.int k n)
  | bool (b : Bool) : RelD M (.bool b) (.bool b)
  | str (s : List UInt8) : RelD M (.str s) (strv s)
  | nilp : RelD M .nilp (.pointer none)
  | nilm : RelD M .nilm (.map none)
  | nilf : RelD M .nilf .nilFunc
  | fnc (f : FuncId) : RelD M (.fnc f) (.func (.func f) #[] #[])
  | any (v : Value) (h : v.oneCell' = true) : RelD M .any v
  | nili : RelD M (.ife false) .nilIface
  | ifc (t : TypeId) (u : Value) : RelD M (.ife true) (.iface t u)
  | pt (cs : List Dat) (b o : Nat) (us : List Value) (hc : Cells M b o us) (hl : us.length = cs.length) (hr : ∀ (j : Nat) (c : Dat) (u : Value), cs[j]? = some c → us[j]? = some u → RelD M c u) : RelD M (.pt cs) (.pointer (some ⟨b, o, none⟩))
  | sl (sz : Nat) (es : List (List Dat)) (a : Option Addr) (cap b o : Nat) (us : Nat → List Value) (hcap : es.length ≤ cap) (ha : es ≠ [] → a = some ⟨b, o, none⟩)
      (hc : ∀ i, i < es.length → Cells M b (o + i * sz) (us i)) (hs : ∀ i cs, es[i]? = some cs → cs.length = sz ∧ (us i).length = sz)
      (hr : ∀ (i j : Nat) (cs : List Dat) (c : Dat) (u : Value), es[i]? = some cs → cs[j]? = some c → (us i)[j]? = some u → RelD M c u) : RelD M (.sl sz es) (.slice a es.length cap)

theorem RelD.mono {M M' : Mem} (h : M.le M') {x : Dat} {v : Value} (r : RelD M x v) : RelD M' x v := by
  induction r with
  | sl sz es a cap b o us hcap ha hc hs _ ih => exact .sl sz es a cap b o us hcap ha (fun i hi => (hc i hi).mono h) hs ih
  | any v h => exact .any v h
  | pt cs b o us hc hl _ ih => exact .pt cs b o us (hc.mono h) hl ih
  | ifc t u => exact .ifc t u
  | _ => constructor

theorem RelD.one {M : Mem} {x : Dat} {v : Value} (r : RelD M x v) : v.oneCell' = true := by cases r <;> first | rfl | assumption

def RelDs (M : Mem) : List Dat → List Value → Prop
  | [], us => us = []
  | x :: xs, us => ∃ u us', us = u :: us' ∧ RelD M x u ∧ RelDs M xs us'
theorem RelDs.mono {M M' : Mem} (h : M.le M') : ∀ {xs : List Dat} {us : List Value}, RelDs M xs us → RelDs M' xs us
  | [], _, r => r
  | _ :: _, _, ⟨u, us', e, r, rs⟩ => ⟨u, us', e, r.mono h, RelDs.mono h rs⟩
theorem RelDs.len {M : Mem} : ∀ {xs : List Dat} {us : List Value}, RelDs M xs us → us.length = xs.length
  | [], _, r => by rw [show _ = [] from r]; rfl
  | _ :: _, _, ⟨u, us', e, r, rs⟩ => by rw [e, List.length_cons, List.length_cons, RelDs.len rs]
theorem RelDs.one {M : Mem} : ∀ {xs : List Dat} {us : List Value}, RelDs M xs us → ∀ u ∈ us, u.oneCell' = true
  | [], _, r, u, hu => by rw [show _ = [] from r] at hu; cases hu
  | _ :: _, _, ⟨u, us', e, r, rs⟩, x, hx => by
    rw [e] at hx
    rcases List.mem_cons.1 hx with rfl | hx
    · exact r.one
    · exact RelDs.one rs x hx
theorem RelDs.get {M : Mem} : ∀ {xs : List Dat} {us : List Value}, RelDs M xs us → ∀ {j : Nat} {c : Dat} {u : Value}, xs[j]? = some c → us[j]? = some u → RelD M c u
  | [], _, _, _, _, _, h, _ => by cases h
  | x :: xs, _, ⟨u, us', e, r, rs⟩, j, c, v, h1, h2 => by
    subst e
    cases j with
    | zero => simp at h1 h2; subst h1; subst h2; exact r
    | succ j => simp at h1 h2; exact RelDs.get rs h1 h2
theorem RelDs.of_get {M : Mem} : ∀ {xs : List Dat} {us : List Value}, us.length = xs.length → (∀ (j : Nat) (c : Dat) (u : Value), xs[j]? = some c → us[j]? = some u → RelD M c u) → RelDs M xs us
  | [], us, h, _ => by simpa [RelDs] using h
  | x :: xs, [], h, _ => by simp at h
  | x :: xs, u :: us, h, k => ⟨u, us, rfl, k 0 x u rfl rfl, RelDs.of_get (by simpa using h) (fun j c v h1 h2 => k (j + 1) c v (by simpa using h1) (by simpa using h2))⟩
theorem RelDs.append {M : Mem} : ∀ {xs ys : List Dat} {us vs : List Value}, RelDs M xs us → RelDs M ys vs → RelDs M (xs ++ ys) (us ++ vs)
  | [], _, _, _, h, k => by rw [show _ = [] from h]; exact k
  | _ :: _, _, _, _, ⟨u, us', e, r, rs⟩, k => ⟨u, us' ++ _, by rw [e]; rfl, r, RelDs.append rs k⟩
theorem RelDs.take {M : Mem} : ∀ {xs : List Dat} {us : List Value} (n : Nat), RelDs M xs us → RelDs M (xs.take n) (us.take n)
  | _, _, 0, _ => by simp [RelDs]
  | [], _, n + 1, h => by rw [show _ = [] from h]; simp [RelDs]
  | _ :: _, _, n + 1, ⟨u, us', e, r, rs⟩ => ⟨u, us'.take n, by rw [e]; rfl, r, RelDs.take n rs⟩
theorem RelDs.drop {M : Mem} : ∀ {xs : List Dat} {us : List Value} (n : Nat), RelDs M xs us → RelDs M (xs.drop n) (us.drop n)
  | _, _, 0, h => h
  | [], _, n + 1, h => by rw [show _ = [] from h]; simp [RelDs]
  | _ :: _, _, n + 1, ⟨u, us', e, r, rs⟩ => by rw [e]; exact RelDs.drop n rs

/-- The package-level variables that are laid: their numbers, their cells; those of which the kind alone is known. -/
def glT : List (Nat × List Dat) := [(0, [.str [], .str [101, 113], .str [108, 101], .str [103, 101], .str [103, 111], .str [97, 99, 116]]), (2, [.int .u64 1, .int .u64 10, .int .u64 100, .int .u64 1000, .int .u64 10000, .int .u64 100000, .int .u64 1000000, .int .u64 10000000, .int .u64 100000000, .int .u64 1000000000, .int .u64 10000000000, .int .u64 100000000000, .int .u64 1000000000000, .int .u64 10000000000000, .int .u64 100000000000000, .int .u64 1000000000000000, .int .u64 10000000000000000, .int .u64 100000000000000000, .int .u64 1000000000000000000, .int .u64 10000000000000000000]), (3, [.ife true]), (4, [.ife true])]
def gxT : List (Nat × IntKind) := [(1, .i64)]
def glIn : List (Nat × List Dat) → Nat → Option (List Dat)
  | [], _ => none
  | (m, cs) :: l, n => match Nat.beq n m with | true => some cs | false => glIn l n
def gl (n : Nat) : Option (List Dat) := glIn glT n
structure GlOk (M : Mem) : Prop where
  d : ∀ n cs, gl n = some cs → ∃ us, Cells M n 0 us ∧ RelDs M cs us
  x : ∀ n k, (n, k) ∈ gxT → ∃ m, Cells M n 0 [.int k m]
theorem GlOk.mono {M M' : Mem} (h : GlOk M) (hle : M.le M') : GlOk M' :=
  ⟨fun n cs e => by obtain ⟨us, h1, h2⟩ := h.d n cs e; exact ⟨us, h1.mono hle, h2.mono hle⟩, fun n k e => by obtain ⟨m, h1⟩ := h.x n k e; exact ⟨m, h1.mono hle⟩⟩
/-- The laid variables lie in the heap, as long as they are; and none is handed in. -/
def Sz (w : World) : Prop := ∀ n cs, gl n = some cs → ∃ c e z, w.heap[n]? = some (.cells c e z) ∧ c.size = cs.length
structure GlA (M : Mem) (w : World) : Prop where
  ok : GlOk M
  sz : Sz w
structure GlO (M : Mem) (wl : World) (S : Nat → Prop) : Prop where
  ok : GlOk M
  off : ∀ n cs, gl n = some cs → ¬ S n
  sz : Sz wl
theorem GlO.mono {M M' : Mem} {wl : World} {S : Nat → Prop} (h : GlO M wl S) (hle : M.le M') : GlO M' wl S := ⟨h.ok.mono hle, h.off, h.sz⟩
theorem GlA.entry {M : Mem} {w : World} {S : Nat → Prop} (h : GlA M w) (hS : ∀ n cs, gl n = some cs → ¬ S n) : GlO M w S := ⟨h.ok, hS, h.sz⟩
theorem Sz.frame {w w' : World} (h : Sz w) (hk : ∀ k, k < w.heap.size → (∃ cs, gl k = some cs) → w'.heap[k]? = w.heap[k]?) : Sz w' := fun n cs e => by
  obtain ⟨c, t, z, h1, h2⟩ := h n cs e
  exact ⟨c, t, z, by rw [hk n (Array.getElem?_eq_some_iff.1 h1).1 ⟨cs, e⟩]; exact h1, h2⟩
/-- Elements of sz cells each. -/
def rDs (sz : Nat) : Rep (List Dat) where
  n := sz
  agg := true
  r := fun M vs d => d.length = sz ∧ RelDs M d vs
  len := fun h => by rw [h.2.len, h.1]
  mono := fun h x => ⟨x.1, x.2.mono h⟩
  plain := fun h => h.2.one
  one := fun h => by cases h

/-- b: the block; base: elements of it ahead of ours; tot: elements that it has room for from there on; sz: cells of an element; n: elements; g: how often it was appended to; fix: a variable or a map, which never moves -/
structure Inf where
  b : Nat
  base : Nat
  tot : Nat
  sz : Nat
  n : Nat
  g : Nat
  fix : Bool
abbrev Rho := Nat → Option Inf

inductive V where
  | d (x : Dat)
  | rp (cs : List Dat) (k : Nat)
  | ptr (r k : Nat)
  | suf (r g off : Nat)
  | osl (r g off len : Nat)
  | ept (r g j k : Nat)
  | esl (sz : Nat)
  | mp (r : Nat)
  | yl (r : Nat)
  | fn (f : FuncId) (first cap : List V)
  | agg (cs : List V)
  | tup (vs : List V)
  | undef
  | un
  deriving Inhabited

mutual
def RelV (M : Mem) (ρ : Rho) : V → Value → Prop
  | .d x, v => RelD M x v
  | .rp cs k, v => ∃ b o us, v = .pointer (some ⟨b, o + k, none⟩) ∧ Cells M b o us ∧ RelDs M cs us
  | .ptr r k, v => ∃ i, ρ r = some i ∧ i.fix = true ∧ v = .pointer (some ⟨i.b, k, none⟩)
  | .suf r g off, v => ∃ i, ρ r = some i ∧ g ≤ i.g ∧ v.oneCell' = true ∧ (g = i.g → off ≤ i.n ∧ ∃ p, v = .slice p (i.n - off) (i.tot - off) ∧ (off < i.tot → p = some ⟨i.b, (i.base + off) * i.sz, none⟩))
  | .osl r g off len, v => ∃ i, ρ r = some i ∧ g ≤ i.g ∧ v.oneCell' = true ∧ (g = i.g → off + len ≤ i.n ∧ ∃ p, v = .slice p len (i.tot - off) ∧ (off < i.tot → p = some ⟨i.b, (i.base + off) * i.sz, none⟩))
  | .ept r g j k, v => ∃ i, ρ r = some i ∧ g ≤ i.g ∧ v.oneCell' = true ∧ (g = i.g → j < i.n ∧ v = .pointer (some ⟨i.b, (i.base + j) * i.sz + k, none⟩))
  | .esl _, v => ∃ a, v = .slice a 0 0
  | .mp r, v => ∃ i, ρ r = some i ∧ i.fix = true ∧ v = .map (some i.b)
  | .yl r, v => ∃ i, ρ r = some i ∧ i.fix = true ∧ v = .func (.yield i.b) #[] #[]
  | .fn f first cap, v => ∃ fs cs, v = .func (.func f) fs.toArray cs.toArray ∧ RelVs M ρ first fs ∧ RelVs M ρ cap cs
  | .agg cs, v => ∃ us, v = .agg us.toArray ∧ RelVs M ρ cs us
  | .tup vs, v => ∃ us, v = .tuple us.toArray ∧ RelVs M ρ vs us
  | .undef, _ => True
  | .un, v => v = Go.undef
def RelVs (M : Mem) (ρ : Rho) : List V → List Value → Prop
  | [], us => us = []
  | x :: xs, us => ∃ u us', us = u :: us' ∧ RelV M ρ x u ∧ RelVs M ρ xs us'
end

/-- The object is where it was, or was appended to. -/
abbrev Ile (i i' : Inf) : Prop := i.g ≤ i'.g ∧ (i.g = i'.g → i' = i) ∧ (i.fix = true → i' = i)
theorem Ile.refl (i : Inf) : Ile i i := ⟨Nat.le_refl _, fun _ => rfl, fun _ => rfl⟩
theorem Ile.trans {i j k : Inf} (h : Ile i j) (h' : Ile j k) : Ile i k :=
  ⟨Nat.le_trans h.1 h'.1, fun e => by
    have e1 : i.g = j.g := Nat.le_antisymm h.1 (by rw [e]; exact h'.1)
    have e2 := h.2.1 e1
    subst e2
    exact h'.2.1 e, fun e => by
    have e2 := h.2.2 e
    subst e2
    exact h'.2.2 e⟩
/-- The objects may have grown; none is gone. -/
structure Rle (M M' : Mem) (ρ ρ' : Rho) : Prop where
  le : M.le M'
  ext : ∀ r i, ρ r = some i → ∃ i', ρ' r = some i' ∧ Ile i i'
theorem Rle.refl (M : Mem) (ρ : Rho) : Rle M M ρ ρ := ⟨M.le_refl, fun _ i h => ⟨i, h, Ile.refl i⟩⟩
/-- What was handed in at the call: the blocks; the objects, by their numbers from 2000 on. -/
structure Hand where
  s : Nat → Prop
  r0 : Rho
instance : CoeFun Hand (fun _ => Nat → Prop) := ⟨Hand.s⟩

mutual
theorem RelV.mono {M M' : Mem} {ρ ρ' : Rho} (h : Rle M M' ρ ρ') : ∀ (x : V) {v : Value}, RelV M ρ x v → RelV M' ρ' x v
  | .d x, v, r => by simp only [RelV] at r ⊢; exact r.mono h.le
  | .rp cs k, v, r => by simp only [RelV] at r ⊢; obtain ⟨b, o, us, e, hc, hr⟩ := r; exact ⟨b, o, us, e, hc.mono h.le, hr.mono h.le⟩
  | .ptr r k, v, x => by
    simp only [RelV] at x ⊢
    obtain ⟨i, hi, hf, e⟩ := x
    obtain ⟨i', hi', hg, he, hb⟩ := h.ext r i hi
    obtain rfl := hb hf
    exact ⟨i', hi', hf, e⟩
  | .suf r g off, v, x => by
    simp only [RelV] at x ⊢
    obtain ⟨i, hi, hg, ho, e⟩ := x
    obtain ⟨i', hi', hg', he, _⟩ := h.ext r i hi
    refine ⟨i', hi', by omega, ho, fun h1 => ?_⟩
    obtain rfl := he (by omega)
    exact e h1
  | .osl r g off len, v, x => by
    simp only [RelV] at x ⊢
    obtain ⟨i, hi, hg, ho, e⟩ := x
    obtain ⟨i', hi', hg', he, _⟩ := h.ext r i hi
    refine ⟨i', hi', by omega, ho, fun h1 => ?_⟩
    obtain rfl := he (by omega)
    exact e h1
  | .ept r g j k, v, x => by
    simp only [RelV] at x ⊢
    obtain ⟨i, hi, hg, ho, e⟩ := x
    obtain ⟨i', hi', hg', he, _⟩ := h.ext r i hi
    refine ⟨i', hi', by omega, ho, fun h1 => ?_⟩
    obtain rfl := he (by omega)
    exact e h1
  | .esl _, v, x => by simp only [RelV] at x ⊢; exact x
  | .mp r, v, x => by
    simp only [RelV] at x ⊢
    obtain ⟨i, hi, hf, e⟩ := x
    obtain ⟨i', hi', hg, he, hb⟩ := h.ext r i hi
    obtain rfl := hb hf
    exact ⟨i', hi', hf, e⟩
  | .yl r, v, x => by
    simp only [RelV] at x ⊢
    obtain ⟨i, hi, hf, e⟩ := x
    obtain ⟨i', hi', hg, he, hb⟩ := h.ext r i hi
    obtain rfl := hb hf
    exact ⟨i', hi', hf, e⟩
  | .fn f first cap, v, x => by
    simp only [RelV] at x ⊢
    obtain ⟨fs, cs, e, h1, h2⟩ := x
    exact ⟨fs, cs, e, RelVs.mono h _ h1, RelVs.mono h _ h2⟩
  | .agg cs, v, x => by simp only [RelV] at x ⊢; obtain ⟨us, e, h1⟩ := x; exact ⟨us, e, RelVs.mono h _ h1⟩
  | .tup cs, v, x => by simp only [RelV] at x ⊢; obtain ⟨us, e, h1⟩ := x; exact ⟨us, e, RelVs.mono h _ h1⟩
  | .undef, v, _ => by simp only [RelV]
  | .un, v, x => by simp only [RelV] at x ⊢; exact x
theorem RelVs.mono {M M' : Mem} {ρ ρ' : Rho} (h : Rle M M' ρ ρ') : ∀ (xs : List V) {us : List Value}, RelVs M ρ xs us → RelVs M' ρ' xs us
  | [], us, x => by simp only [RelVs] at x ⊢; exact x
  | x :: xs, us, y => by
    simp only [RelVs] at y ⊢
    obtain ⟨u, us', e, h1, h2⟩ := y
    exact ⟨u, us', e, RelV.mono h x h1, RelVs.mono h xs h2⟩
end

end Go.Proofs.YtilfjfpemjfalaaGreatDoor.Kx
