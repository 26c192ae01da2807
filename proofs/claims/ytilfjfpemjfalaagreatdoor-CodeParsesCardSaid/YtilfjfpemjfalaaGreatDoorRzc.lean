/- Rows that list package-level variables: what their condition gives; the lift. -/
import Derived.Test.YtilfjfpemjfalaaGreatDoorRz
import Derived.Lay
import Derived.LaidMore
import Derived.ProofKit
import Derived.OpenShut
import Derived.Handed
import Derived.Stop.Joined
import Derived.SevenTiedAt
namespace Go.Proofs.YtilfjfpemjfalaaGreatDoor.Kx
open Go Go.RowKit

section
variable {H : Type} {enc : TypeId × Value → H} {P : Program} {W : World} {M : Mem} {b : Nat} {sp : Nat → Bool} {held : Bool}

theorem cells_of_heap {g : Nat} {cs : Array Value} {t : TypeId} {tag : Nat × Nat} (h : W.heap[g]? = some (.cells cs t tag)) : Cells (HeapM W) g 0 cs.toList :=
  ⟨cs, by unfold HeapM; rw [h], fun j hj => by simp⟩
theorem heap_of_var {n : String} {g : Nat} {cs : Array Value} (hg : P.globalNamed n = some g) (h : W.var? P n = some cs) : ∃ e z, W.heap[g]? = some (.cells cs e z) := by
  simp only [World.var?, hg, Option.bind_some] at h
  split at h
  · rename_i e
    cases h
    exact ⟨_, _, e⟩
  · cases h
theorem cells_of_var {n : String} {g : Nat} {cs : Array Value} (hg : P.globalNamed n = some g) (h : W.var? P n = some cs) : Cells (HeapM W) g 0 cs.toList := by
  simp only [World.var?, hg, Option.bind_some] at h
  split at h
  · rename_i e
    cases h
    exact cells_of_heap e
  · cases h
def dw : DataW H → Option Dat
  | .lit (.int k z) => some (.int k z)
  | .lit (.string s) => some (.str s)
  | .lit (.bool x) => some (.bool x)
  | .iface _ _ => some (.ife true)
  | _ => none
def okE (P : Program) (t : TypeId) : Bool :=
  match P.underlying t with
  | some .bool => true
  | some (.int _) => true
  | some .string => true
  | some (.interface _) => true
  | _ => false
theorem el1 {t : TypeId} {fuel : Nat} {cs : List Value} {d : DataW H} {q : List MemPlace} {x : Dat} (hk : okE P t = true) (h : DataW.trod enc P W b sp held fuel t cs = some (d, q)) (hd : dw d = some x) : ∃ v, cs = [v] ∧ RelD M x v := by
  cases fuel with
  | zero => simp [DataW.trod] at h
  | succ n =>
    unfold okE at hk
    split at hk
    · rename_i hu
      unfold DataW.trod at h
      rw [hu] at h
      split at h <;> first | (simp_all; done) | skip
      rename_i c _ _
      simp only [Option.some.injEq, Prod.mk.injEq] at h
      obtain ⟨rfl, _⟩ := h
      cases hd
      exact ⟨_, rfl, .bool _⟩
    · rename_i hu
      obtain ⟨z, rfl, hx, _⟩ := DataW.trod_int hu h
      cases hx
      cases hd
      exact ⟨_, rfl, .int _ _⟩
    · rename_i hu
      obtain ⟨s, rfl, hx, _⟩ := DataW.trod_string hu h
      cases hx
      cases hd
      refine ⟨_, rfl, ?_⟩
      have := RelD.str (M := M) s.data.toList
      simpa [strv] using this
    · rename_i hu
      unfold DataW.trod at h
      rw [hu] at h
      split at h <;> first | (simp_all; done) | skip
      · cases h; cases hd
      · split at h
        · cases h; cases hd
        · rename_i nm _
          simp only [Option.map_eq_some_iff, Prod.mk.injEq] at h
          obtain ⟨_, _, rfl, _⟩ := h
          cases hd
          exact ⟨_, rfl, .ifc _ _⟩
        · cases h
    · cases hk
theorem arr1 {t e : TypeId} {k fuel : Nat} {cs : List Value} {ds : List (DataW H)} {q : List MemPlace} {xs : List Dat} (ht : P.underlying t = some (.array k e)) (hk : okE P e = true) (hc : P.cellsOf e = 1) (hct : P.cellsOf t = k)
    (h : DataW.trod enc P W b sp held fuel t cs = some (.agg ds, q)) (hd : ds.mapM dw = some xs) : RelDs M xs cs := by
  obtain ⟨ys, m, _, ex, hl, hn, hel⟩ := DataW.trod_array ht h
  have ed : ds = ys.map (·.1) := DataW.agg.inj (Prod.mk.inj ex).1
  have hm := mapM_get hd
  refine RelDs.of_get (by rw [hl, hct, hm.1, ed, List.length_map, hn]) (fun j c u h1 h2 => ?_)
  have hj : j < k := by
    have := (List.getElem?_eq_some_iff.mp h2).1
    omega
  have hy : ys[j]? = some ys[j] := List.getElem?_eq_getElem (by omega)
  have h3 := hel j hj
  rw [hy, hc, Nat.mul_one] at h3
  have hdj : ds[j]? = some (ys[j]).1 := by rw [ed, List.getElem?_map, hy]; rfl
  obtain ⟨y, e1, e2⟩ := hm.2 j _ hdj
  obtain rfl : y = c := Option.some.inj (e1.symm.trans h1)
  obtain ⟨v, e3, e4⟩ := el1 (M := M) hk (show DataW.trod enc P W b sp held m e _ = some ((ys[j]).1, (ys[j]).2) from h3) e2
  have e5 : cs[j]? = some v := by
    have : ((cs.drop j).take 1)[0]? = some v := by rw [e3]; rfl
    simpa using this
  obtain rfl : v = u := Option.some.inj (e5.symm.trans h2)
  exact e4
end
section
variable {P : Program} {W : World} {laid : List (String × DataW Unit)}
theorem laidVars_get : ∀ {laid : List (String × DataW Unit)} {ps : List MemPlace} {i : Nat} {n : String} {d : DataW Unit}, DataW.LaidVars P W laid ps → laid[i]? = some (n, d) →
    ∃ g t cs fuel p, P.globalNamed n = some g ∧ (P.globals[g]?).map (·.type) = some t ∧ W.var? P n = some cs ∧ DataW.trod (fun _ => ()) P W 0 (fun _ => true) false fuel t cs.toList = some (d, p)
  | [], _, _, _, _, _, h => by simp at h
  | (m, e) :: l, ps, 0, n, d, h, hi => by
    obtain ⟨g, t, cs, fuel, p, q, h1, h2, h3, h4, _⟩ := h
    simp only [List.getElem?_cons_zero, Option.some.injEq, Prod.mk.injEq] at hi
    obtain ⟨rfl, rfl⟩ := hi
    exact ⟨g, t, cs, fuel, p, h1, h2, h3, h4⟩
  | (m, e) :: l, ps, i + 1, n, d, h, hi => by
    obtain ⟨_, _, _, _, _, q, _, _, _, _, h5, _⟩ := h
    exact laidVars_get h5 (by simpa using hi)
theorem gl_arr (hl : laidMet P laid W) (i : Nat) {n : String} {ds : List (DataW Unit)} {g : Nat} {t e : TypeId} {k : Nat} {xs : List Dat} (hm : laid[i]? = some (n, .agg ds)) (hg : P.globalNamed n = some g) (htt : (P.globals[g]?).map (·.type) = some t)
    (ht : P.underlying t = some (.array k e)) (hk : okE P e = true) (hc : P.cellsOf e = 1) (hct : P.cellsOf t = k) (hd : ds.mapM dw = some xs) : (∃ us, Cells (HeapM W) g 0 us ∧ RelDs (HeapM W) xs us) ∧ ∃ c e z, W.heap[g]? = some (.cells c e z) ∧ c.size = (xs : List Dat).length := by
  obtain ⟨ps, h, _⟩ := hl
  obtain ⟨g', t', cs, fuel, p, h1, h2, h3, h4⟩ := laidVars_get h hm
  obtain rfl := Option.some.inj (hg.symm.trans h1)
  obtain rfl := Option.some.inj (htt.symm.trans h2)
  have hr := arr1 (M := HeapM W) ht hk hc hct h4 hd
  obtain ⟨e', z', hh⟩ := heap_of_var hg h3
  exact ⟨⟨_, cells_of_var hg h3, hr⟩, _, _, _, hh, by rw [← hr.len, Array.length_toList]⟩
theorem gl_one (hl : laidMet P laid W) (i : Nat) {n : String} {d : DataW Unit} {g : Nat} {t : TypeId} {x : Dat} (hm : laid[i]? = some (n, d)) (hg : P.globalNamed n = some g) (htt : (P.globals[g]?).map (·.type) = some t)
    (hk : okE P t = true) (hd : dw d = some x) : (∃ us, Cells (HeapM W) g 0 us ∧ RelDs (HeapM W) [x] us) ∧ ∃ c e z, W.heap[g]? = some (.cells c e z) ∧ c.size = ([x] : List Dat).length := by
  obtain ⟨ps, h, _⟩ := hl
  obtain ⟨g', t', cs, fuel, p, h1, h2, h3, h4⟩ := laidVars_get h hm
  obtain rfl := Option.some.inj (hg.symm.trans h1)
  obtain rfl := Option.some.inj (htt.symm.trans h2)
  obtain ⟨v, e, r⟩ := el1 (M := HeapM W) hk h4 hd
  obtain ⟨e', z', hh⟩ := heap_of_var hg h3
  exact ⟨⟨_, cells_of_var hg h3, v, [], e, r, rfl⟩, _, _, _, hh, by rw [← Array.length_toList, e]; rfl⟩
theorem gl_x (hs : W.ShapedOpen P) {g : Nat} {zero : Array Value} {t : TypeId} {k : IntKind} (hlt : g < P.globals.size) (hz : ((begin P (fun _ _ => 0) default).world.heap[g]?).bind Obj.row? = some (zero, t))
    (h1 : zero.size = 1) (hb : P.buildable t = true) (hu : P.underlying t = some (.int k)) (ht : P.cellTypes P.depth t = some [t]) : ∃ m, Cells (HeapM W) g 0 [.int k m] := by
  obtain ⟨cs, e1, e2, e3⟩ := hs.1 g zero t hlt hz
  obtain ⟨ts, e4, _, e5⟩ := e3 hb
  obtain rfl := Option.some.inj (ht.symm.trans e4)
  have e6 : cs[0]? = some cs[0] := Array.getElem?_eq_getElem (by omega)
  obtain ⟨u, e7, e8⟩ := e5 0 _ e6
  simp at e7
  subst e7
  unfold Cell.ok at e8
  rw [hu] at e8
  generalize hv : cs[0]'(by omega) = v at e8 e6
  cases v <;> simp only at e8
  obtain ⟨rfl, _⟩ := e8
  rename_i m _
  refine ⟨m, cs, by unfold HeapM; rw [e1], fun j hj => ?_⟩
  obtain rfl : j = 0 := by simp at hj; omega
  simpa using e6
def allG (Q : Nat → List Dat → Prop) : List (Nat × List Dat) → Prop
  | [] => True
  | x :: l => Q x.1 x.2 ∧ allG Q l
theorem glIn_all {Q : Nat → List Dat → Prop} : ∀ {l : List (Nat × List Dat)} {n : Nat} {cs : List Dat}, allG Q l → glIn l n = some cs → Q n cs
  | [], _, _, _, h => by cases h
  | (m, x) :: l, n, cs, hq, h => by
    unfold glIn at h
    cases hb : Nat.beq n m with
    | true =>
      rw [hb] at h
      cases h
      obtain rfl := Nat.eq_of_beq_eq_true hb
      exact hq.1
    | false =>
      rw [hb] at h
      exact glIn_all hq.2 h
end
/-- The lift, where the contract wants to know that the variables are of their types. -/
theorem returns_of_change_open {H : Type} {enc : TypeId × Value → H} {a : Assume} {C : Checked} {os : Os} {f : FuncId} {fn : Func} {s : ChangeSpec} {conds : List PathCond} {apart fresh handsOn again : Bool} {X : World → Array Value → Prop}
    (hX : ∀ (w w' : World) (args : Array Value), w.heap = w'.heap → X w args → X w' args)
    (own : ownKnob C.prog.godebug = none) (started : os.Started) (noInit : C.prog.inits.idxOf? f = none) (hfn : C.prog.funcs[f]? = some fn)
    (witness : ∃ (w : World) (tape : Tape) (i : Input), w.os = os ∧ (w.forCall tape i).Shaped C.prog ∧ i.vars = [] ∧ Input.okWide C.prog (w.forCall tape i) .any w.heap.size f i ∧
      ((s.pre enc C.prog fn conds apart (w.forCall tape i).memory i.args ∧ X (w.forCall tape i).memory i.args) ∧ sizedMet enc C.prog fn (OpenSpec.ofChange s) apart (w.forCall tape i).memory i.args) ∧ a.holds C.prog (lone (Frame.enter C.prog f i.args .normal) [] (w.forCall tape i)))
    (contract : ∀ (W : World) (base : Nat) (args : Array Value) (ds gs : List (DataW H)) (before : List MemPlace),
      (∀ (j : Nat) t v, fn.params[j]? = some t → args[j]? = some v → Value.okWide C.prog W .any base t v) →
      DataW.Whole enc C.prog fn.params.toList s.vars apart W args.toList ds gs before →
      conds.all (PathCond.test C.prog ⟨fn.params.toList, ds, s.plain.varTypes C.prog, gs⟩) = true →
      X W args → W.ShapedOpen C.prog →
      Calls C.prog f args W fun e W' => ∃ v, e = .returned v ∧ s.post enc C.prog fn apart fresh handsOn again W args v W') :
    ReturnsInHanded a C os f .any (fun w args => (s.pre enc C.prog fn conds apart w args ∧ X w args) ∧ sizedMet enc C.prog fn (OpenSpec.ofChange s) apart w args) (s.post enc C.prog fn apart fresh handsOn again) := by
  refine returnsInHanded_of_calls own started noInit witness ?_
  intro w tape i _ hsh _ hok hpre hholds
  obtain ⟨_, _, _, fn', hfn', _, _, _, _, hval⟩ := hok
  have e : fn' = fn := Option.some.inj (hfn'.symm.trans hfn)
  subst e
  obtain ⟨⟨⟨ds, gs, before, hw, hc⟩, hx⟩, hz⟩ := hpre
  have hw' := DataW.Whole.of_heap (w' := w.forCall tape i) (by rfl) hw
  refine (contract (w.forCall tape i) w.heap.size i.args ds gs before hval hw' hc (hX _ _ _ (by rfl) hx) hsh).mono fun e W' ⟨v, he, hp⟩ => ?_
  subst he
  exact ChangeSpec.post_blind hp
end Go.Proofs.YtilfjfpemjfalaaGreatDoor.Kx
