/- The evaluator is sound: maps. -/
import Derived.Test.YtilfjfpemjfalaaGreatDoorRk
import Derived.MapKept
namespace Go.Proofs.YtilfjfpemjfalaaGreatDoor.Kx
open Go Go.RowKit

def KK.d : KK → TypeDesc
  | .int k => .int k
  | .str => .string
  | .bool => .bool
theorem kkB_ok : ∀ {kk : KK} {x : Dat}, kkB kk x = true → kk.ok x
  | .int k, .int j n, h => ikb_eq h
  | .str, .str _, _ => trivial
  | .bool, .bool _, _ => trivial
  | .int _, .bool _, h | .int _, .str _, h | .int _, .sl _ _, h | .int _, .nilp, h | .int _, .nilm, h | .int _, .nilf, h | .int _, .fnc _, h | .int _, .any, h => by cases h
  | .str, .int _ _, h | .str, .bool _, h | .str, .sl _ _, h | .str, .nilp, h | .str, .nilm, h | .str, .nilf, h | .str, .fnc _, h | .str, .any, h => by cases h
  | .bool, .int _ _, h | .bool, .str _, h | .bool, .sl _ _, h | .bool, .nilp, h | .bool, .nilm, h | .bool, .nilf, h | .bool, .fnc _, h | .bool, .any, h => by cases h
theorem kkE_eq : ∀ {a b : KK}, kkE a b = true → a = b
  | .int _, .int _, h => by rw [ikb_eq h]
  | .str, .str, _ => rfl
  | .bool, .bool, _ => rfl
  | .int _, .str, h | .int _, .bool, h | .str, .int _, h | .str, .bool, h | .bool, .int _, h | .bool, .str, h => by cases h
theorem agE_eq : ∀ {a b : Bool}, agE a b = true → a = b
  | true, true, _ => rfl
  | false, false, _ => rfl
  | true, false, h | false, true, h => by cases h
theorem key_is {M : Mem} : ∀ {kk : KK} {x : Dat} {v : Value}, kk.ok x → RelD M x v → MapKept.IsKey kk.d v
  | .int k, .int j n, v, h, r => by cases r; exact h
  | .str, .str s, v, _, r => by cases r; trivial
  | .bool, .bool b, v, _, r => by cases r; trivial
  | .int _, .bool _, _, h, _ | .int _, .str _, _, h, _ | .int _, .sl _ _, _, h, _ | .int _, .nilp, _, h, _ | .int _, .nilm, _, h, _ | .int _, .nilf, _, h, _ | .int _, .fnc _, _, h, _ | .int _, .any, _, h, _ => h.elim
  | .str, .int _ _, _, h, _ | .str, .bool _, _, h, _ | .str, .sl _ _, _, h, _ | .str, .nilp, _, h, _ | .str, .nilm, _, h, _ | .str, .nilf, _, h, _ | .str, .fnc _, _, h, _ | .str, .any, _, h, _ => h.elim
  | .bool, .int _ _, _, h, _ | .bool, .str _, _, h, _ | .bool, .sl _ _, _, h, _ | .bool, .nilp, _, h, _ | .bool, .nilm, _, h, _ | .bool, .nilf, _, h, _ | .bool, .fnc _, _, h, _ | .bool, .any, _, h, _ => h.elim
/-- Two keys of a kind: the data are the same just where the values are. -/
theorem dkeq_iff {M : Mem} {kk : KK} {x y : Dat} {u v : Value} (hx : kk.ok x) (hy : kk.ok y) (ru : RelD M x u) (rv : RelD M y v) : (dkeq x y = true ↔ u = v) := by
  cases kk with
  | int k =>
    cases x <;> try exact hx.elim
    cases y <;> try exact hy.elim
    cases ru; cases rv
    simp only [KK.ok] at hx hy
    subst hx; subst hy
    simp [dkeq]
  | str =>
    cases x <;> try exact hx.elim
    cases y <;> try exact hy.elim
    cases ru; cases rv
    simp [dkeq, strv]
  | bool =>
    cases x <;> try exact hx.elim
    cases y <;> try exact hy.elim
    cases ru; cases rv
    rename_i a b
    cases a <;> cases b <;> simp [dkeq]

section
variable {M : Mem} {kk : KK} {ag : Bool} {sz : Nat}
theorem ents_keys : ∀ {es : List (Dat × List Dat)} {l : List MapEntry}, REnts M kk ag sz es l → ∀ x ∈ l, MapKept.IsKey kk.d x.key
  | [], l, h, x, hx => by rw [show l = [] from h] at hx; cases hx
  | _ :: _, _, ⟨e, l', h1, h2, h3, _, _, h7⟩, x, hx => by
    rw [h1] at hx
    rcases List.mem_cons.1 hx with rfl | hx
    · exact key_is h2 h3
    · exact ents_keys h7 x hx
/-- What a look-up finds. -/
theorem ents_look {key : Dat} {kv : Value} (hk : kk.ok key) (hr : RelD M key kv) (z : List Dat) : ∀ {es : List (Dat × List Dat)} {l : List MapEntry}, REnts M kk ag sz es l →
    (mhas es key = false ∧ mlook es key z = z ∧ ∀ x ∈ l, x.key ≠ kv) ∨ (mhas es key = true ∧ (mlook es key z).length = sz ∧ ∃ (j : Nat) (e : MapEntry) (us : List Value), l[j]? = some e ∧ e.key = kv ∧ (∀ i, i < j → ∀ x, l[i]? = some x → x.key ≠ kv) ∧ RelDs M (mlook es key z) us ∧ e.val = mkv ag us)
  | [], l, h => by
    refine .inl ⟨rfl, rfl, fun x hx => ?_⟩
    rw [show l = [] from h] at hx; cases hx
  | x :: es, _, ⟨e, l', h1, h2, h3, h4, ⟨us, h5, h6⟩, h7⟩ => by
    subst h1
    have hiff := dkeq_iff h2 hk h3 hr
    cases hb : dkeq x.1 key with
    | true =>
      refine .inr ⟨by simp only [mhas, hb], by simp only [mlook, hb]; exact h4, 0, e, us, rfl, hiff.1 hb, fun i hi => absurd hi (Nat.not_lt_zero _), by simp only [mlook, hb]; exact h5, h6⟩
    | false =>
      have hne : e.key ≠ kv := fun q => by rw [hiff.2 q] at hb; cases hb
      rcases ents_look hk hr z h7 with ⟨a1, a2, a3⟩ | ⟨a1, a0, j, e', us', a2, a3, a4, a5, a6⟩
      · refine .inl ⟨by simp only [mhas, hb]; exact a1, by simp only [mlook, hb]; exact a2, fun y hy => ?_⟩
        rcases List.mem_cons.1 hy with rfl | hy
        · exact hne
        · exact a3 y hy
      · refine .inr ⟨by simp only [mhas, hb]; exact a1, by simp only [mlook, hb]; exact a0, j + 1, e', us', a2, a3, fun i hi y hy => ?_, by simp only [mlook, hb]; exact a5, a6⟩
        cases i with
        | zero => simp at hy; subst hy; exact hne
        | succ i => simp at hy; exact a4 i (by omega) y hy
/-- What a store leaves. -/
theorem ents_put {key : Dat} {kv : Value} {vs : List Dat} {us : List Value} {v : Value} (hk : kk.ok key) (hr : RelD M key kv) (hn : vs.length = sz) (hv : RelDs M vs us) (hu : v = mkv ag us) : ∀ {es : List (Dat × List Dat)} {l : List MapEntry}, REnts M kk ag sz es l →
    (∀ (clock : Nat), (∀ x ∈ l, x.key ≠ kv) → REnts M kk ag sz (mput es key vs) (l ++ [{ key := kv, val := v, born := clock }])) ∧
    (∀ (j : Nat) (e : MapEntry), l[j]? = some e → e.key = kv → (∀ i, i < j → ∀ x, l[i]? = some x → x.key ≠ kv) → REnts M kk ag sz (mput es key vs) (l.modify j fun e => { e with key := kv, val := v }))
  | [], l, h => by
    rw [show l = [] from h]
    refine ⟨fun clock _ => ?_, fun j e hj => by simp at hj⟩
    exact ⟨_, [], rfl, hk, hr, hn, ⟨us, hv, hu⟩, rfl⟩
  | x :: es, _, ⟨e0, l', h1, h2, h3, h4, h5, h7⟩ => by
    subst h1
    have hiff := dkeq_iff h2 hk h3 hr
    obtain ⟨i1, i2⟩ := ents_put hk hr hn hv hu h7
    refine ⟨fun clock hall => ?_, fun j e hj hje hbef => ?_⟩
    · have hb : dkeq x.1 key = false := by
        cases hb : dkeq x.1 key with
        | false => rfl
        | true => exact absurd (hiff.1 hb) (hall e0 List.mem_cons_self)
      simp only [mput, hb]
      exact ⟨e0, _, rfl, h2, h3, h4, h5, i1 clock fun y hy => hall y (List.mem_cons_of_mem _ hy)⟩
    · cases j with
      | zero =>
        simp at hj; subst hj
        simp only [mput, hiff.2 hje]
        exact ⟨{ e0 with key := kv, val := v }, l', by simp, hk, hr, hn, ⟨us, hv, hu⟩, h7⟩
      | succ j =>
        have hb : dkeq x.1 key = false := by
          cases hb : dkeq x.1 key with
          | false => rfl
          | true => exact absurd (hiff.1 hb) (hbef 0 (by omega) e0 rfl)
        simp only [mput, hb]
        simp at hj
        refine ⟨e0, _, by simp, h2, h3, h4, h5, i2 j e hj hje fun i hi y hy => hbef (i + 1) (by omega) y (by simpa using hy)⟩
end

section
variable {r : Option Nat} {P : Program} {a : Act} {w wl : World} {S : Hand} {M0 M : Mem} {ρ : Rho} {ob : Nat → Option IObj} {ev : Operand → V} {d : Nat} {ty : TypeId}

theorem mapT_spec {t : TypeId} {kk : KK} {e : TypeId} (h : mapT P t = some (kk, e)) : ∃ k, P.underlying t = some (.map k e) ∧ P.underlying k = some kk.d := by
  unfold mapT at h
  split at h
  · rename_i k e' ht
    split at h
    · rename_i kk' hk
      cases h
      refine ⟨k, ht, ?_⟩
      unfold kkT at hk
      split at hk <;> first | (cases hk; done) | skip
      all_goals (rename_i hu; cases hk; exact hu)
    · cases h
  · cases h
theorem zeroAg_spec {e : TypeId} {ag : Bool} {vs : List Value} (h : zeroAg P e ag = true) (hz : zeroT P e = some vs) (h1 : ag = false → vs.length = 1) : (zeroValue e).run P w = .ok (mkv ag vs) w := by
  unfold zeroAg at h
  unfold zeroT at hz
  split at h
  · rename_i i hi
    rw [hi] at hz
    split at h
    · rename_i cs hz'
      simp [hz'] at hz
      subst h
      subst hz
      simp [zeroValue, typeInfo, hi, hz', Result.andThen, mkv, Value.cells]
    · rename_i v hne hz'
      simp [hz'] at hz
      cases ag with
      | true => cases h
      | false =>
        have hl := h1 rfl
        have hv : v.cells = #[v] := by
          cases v <;> first | rfl | exact absurd rfl (hne _)
        rw [hv] at hz
        subst hz
        simp [zeroValue, typeInfo, hi, hz', Result.andThen, mkv]
    · cases h
  · cases h
theorem findNow_at {d : TypeDesc} {kv : Value} {e' : MapEntry} (hkey : MapKept.IsKey d kv) (a3 : e'.key = kv) : ∀ (l : List MapEntry) (j i : Nat), (∀ x ∈ l, MapKept.IsKey d x.key) → l[j]? = some e' → (∀ i, i < j → ∀ x, l[i]? = some x → x.key ≠ kv) → Instr.findNow d kv l i = some (some (i + j, e'.val)) := fun l => by
  induction l with
  | nil => intro j i _ hj; simp at hj
  | cons y l ih =>
    intro j i hks hj hbef
    obtain ⟨b, hb1, hb2⟩ := MapKept.sameNow_of_keys hkey (hks y List.mem_cons_self)
    cases j with
    | zero =>
      simp at hj; subst hj
      have : b = true := hb2.2 a3.symm
      subst this
      simp [Instr.findNow, hb1]
    | succ j =>
      have hne := hbef 0 (by omega) y rfl
      have : b = false := by
        cases b with
        | false => rfl
        | true => exact absurd (hb2.1 rfl).symm hne
      subst this
      simp at hj
      have := ih j (i + 1) (fun x hx => hks x (List.mem_cons_of_mem _ hx)) hj (fun i hi x hx => hbef (i + 1) (by omega) x (by simpa using hx))
      simp [Instr.findNow, hb1, this]
      omega
theorem look_res {t : TypeId} {m k : Operand} {ok ag : Bool} {es : List (Dat × List Dat)} {key : Dat} {z : List Dat} {n : Nat} {M1 : Mem} {f : Value} {found : Bool} (h : Ow S wl M0 M1 ρ ob w) (hr : Rle M M1 ρ ρ) {us : List Value} (hf : f = mkv ag us) (hrel : RelDs M1 (mlook es key z) us) (h1 : ag = false → us.length = 1) (hb : mhas es key = found)
    (hrun : (Instr.lookup t (a.eval m) (a.eval k) ok).run P w = .ok (if ok then .tuple #[f, .bool found] else f) w) : (lookRes ok ag es key z).Good (EffV r P a (.lookup t m k ok) S wl M0 M ρ ob w) := by
  cases ok with
  | true =>
    intro x hx
    cases hx
    refine Eff.of_run (v := .tuple #[f, .bool found]) (w' := w) ?_ rfl ⟨M1, ρ, hr, h, ?_⟩
    · intro d ty pos aft g
      simp only [if_true] at hrun
      simp [execOp, hrun, Result.andThen]
    · rw [hf, ← hb]
      simp only [RelV, RelVs]
      exact ⟨[_, _], rfl, _, _, rfl, mkV_rel (n := n) (RelVs.dV hrel) h1, _, _, rfl, .bool _, rfl⟩
  | false =>
    intro x hx
    cases hx
    refine Eff.of_run (v := f) (w' := w) ?_ rfl ⟨M1, ρ, hr, h, ?_⟩
    · intro d ty pos aft g
      simp only [Bool.false_eq_true, if_false] at hrun
      simp [execOp, hrun, Result.andThen]
    · rw [hf]
      exact mkV_rel (n := n) (RelVs.dV hrel) h1
theorem eff_lookup {t : TypeId} {m k : Operand} {ok : Bool} (h : Ow S wl M0 M ρ ob w) (hev : ∀ x, RelV M ρ (ev x) (a.eval x)) : (evOp P ob d ty ev (.lookup t m k ok)).Good (EffV r P a (.lookup t m k ok) S wl M0 M ρ ob w) := by
  simp only [evOp]
  have hm := hev m
  have hk := hev k
  generalize ev m = vm at *
  generalize ev k = vk at *
  unfold evLookup
  split
  · rename_i kk e hmt
    obtain ⟨kt, ht, hkt⟩ := mapT_spec hmt
    split
    · rename_i n ag zs key hz hzv
      obtain ⟨hs, ha, hn1⟩ := szT_spec hz
      split
      · rename_i z hds hkk hzl hza
        have hzl := Nat.eq_of_beq_eq_true hzl
        have hkk := kkB_ok hkk
        have hkr := relV_d hk
        obtain ⟨vs, hzt, hzr, _⟩ := zeroV_spec hzv
        have hvl : vs.length = n := by rw [(hzr M ρ).len, hzl]
        obtain ⟨M1, r1, o1, d1⟩ := datsOf_sound h (hzr M ρ) hds
        have o1 : Ow S wl M0 M1 ρ ob w := o1
        have hzrun := zeroAg_spec (w := w) hza hzt (fun e => by rw [hvl]; exact hn1 e)
        split
        · rename_i q
          split
          · rename_i kk' ag' sz es hq
            split
            · rename_i h1 h2 h3
              obtain rfl := kkE_eq h1
              obtain rfl := agE_eq h2
              obtain rfl := Nat.eq_of_beq_eq_true h3
              simp only [RelV] at hm
              obtain ⟨i, hi, _, hu⟩ := hm
              obtain ⟨j, hj, hfix, hmine, ents, clock, hb, h0, l, rfl, hl⟩ := o1.own q _ hq
              rw [hi] at hj; cases hj
              have hkey := key_is hkk (hkr.mono r1.le)
              rcases ents_look hkk (hkr.mono r1.le) z hl with ⟨a1, a2, a3⟩ | ⟨a1, a0, j, e', us, a2, a3, a4, a5, a6⟩
              · have hfn : Instr.findNow kk.d (a.eval k) l 0 = some none := by
                  rcases MapKept.findNow_spec hkey l 0 (ents_keys hl) with ⟨b1, _⟩ | ⟨j, e', _, b2, b3⟩
                  · exact b1
                  · exact absurd b3 (a3 e' (List.mem_of_getElem? b2))
                refine look_res (n := sz) (us := vs) (found := false) o1 r1 rfl (by rw [a2]; exact d1) (fun e => by rw [hvl]; exact hn1 e) a1 ?_
                cases ok <;> simp [Instr.lookup, hu, run_underlying ht, MapKept.run_getObj_map hb, MapKept.run_checkKey hkt hkey, MapKept.run_findKey hkt hfn, hzrun, Result.andThen]
              · have hfn : Instr.findNow kk.d (a.eval k) l 0 = some (some (j, e'.val)) := by
                  have := findNow_at hkey a3 l j 0 (ents_keys hl) a2 a4
                  simpa using this
                have hul : us.length = sz := by rw [a5.len, a0]
                refine look_res (n := sz) (us := us) (found := true) (f := e'.val) o1 r1 a6 a5 (fun e => by rw [hul]; exact hn1 e) a1 ?_
                cases ok <;> simp [Instr.lookup, hu, run_underlying ht, MapKept.run_getObj_map hb, MapKept.run_checkKey hkt hkey, MapKept.run_findKey hkt hfn, Result.andThen]
            · trivial
          · trivial
        · have hu : a.eval m = .map none := by
            have hx := relV_d hm
            generalize a.eval m = u at hx
            cases hx; rfl
          have hkey := key_is hkk hkr
          have hfn : Instr.findNow kk.d (a.eval k) ([] : List MapEntry) 0 = some none := rfl
          refine look_res (n := n) (us := vs) (found := false) o1 r1 rfl d1 (fun e => by rw [hvl]; exact hn1 e) rfl ?_
          cases ok <;> simp [Instr.lookup, hu, run_underlying ht, MapKept.run_checkKey hkt hkey, MapKept.run_findKey hkt hfn, hzrun, Result.andThen]
        · trivial
      · trivial
    · trivial
  · trivial

theorem eff_makeMap {t : TypeId} (h : Ow S wl M0 M ρ ob w) : (evOp P ob d ty ev (.makeMap t none)).Good (EffV r P a (.makeMap t none) S wl M0 M ρ ob w) := by
  simp only [evOp]
  unfold evMakeMap
  split
  · rename_i kk e hmt
    split
    · rename_i n ag hz hd
      obtain ⟨hs, ha, hn1⟩ := szT_spec hz
      obtain ⟨h2, h3⟩ := h.alloc hd (.map #[] 0) (infB w.heap.size) (.mapo kk ag n []) rfl (fun ρ' hle hM => ⟨rfl, ⟨.inr h.size, hM⟩, #[], 0, World.alloc_heap_new w _, hn1, [], rfl, rfl⟩)
      refine Eff.of_run (v := .map (some w.heap.size)) (w' := w.alloc (.map #[] 0)) ?_ rfl ⟨M, _, h2, h3, ?_⟩
      · intro d ty pos aft g
        simp [execOp, Instr.makeMap, Result.andThen]
      · simp only [RelV]
        exact ⟨infB w.heap.size, updO_same _ _ _, rfl, rfl⟩
    · trivial
  · trivial

theorem eff_mapPut {t : TypeId} {m k v : Operand} (h : Ow S wl M0 M ρ ob w) (hev : ∀ x, RelV M ρ (ev x) (a.eval x)) : (evOp P ob d ty ev (.mapUpdate t m k v)).Good (EffV r P a (.mapUpdate t m k v) S wl M0 M ρ ob w) := by
  simp only [evOp]
  have hm := hev m
  have hk := hev k
  have hv := hev v
  generalize ev m = vm at *
  generalize ev k = vk at *
  generalize ev v = vv at *
  unfold evMapPut
  split
  · rename_i kk e hmt
    obtain ⟨kt, ht, hkt⟩ := mapT_spec hmt
    split
    · rename_i n ag key q hz
      obtain ⟨hs, ha, hn1⟩ := szT_spec hz
      split
      · rename_i us hkk hag hus
        have hkk := kkB_ok hkk
        have hag := agE_eq hag
        have hkr := relV_d hk
        split
        · rename_i xs wr hds
          split
          · rename_i kk' ag' sz es hq
            split
            · rename_i h1 h2 h3 h4
              obtain rfl := kkE_eq h1
              obtain rfl := agE_eq h2
              obtain rfl := Nat.eq_of_beq_eq_true h3
              have h4 := Nat.eq_of_beq_eq_true h4
              obtain ⟨ws, hc, hrw, hone⟩ := cellsV_rel hus hv
              obtain ⟨M1, r1, o1, d1⟩ := datsOf_sound h hrw hds
              have hvv : a.eval v = mkv ag ws := by
                cases ag with
                | true =>
                  cases vv <;> simp only [agOf] at hag <;> first | (cases hag; done) | skip
                  obtain ⟨us', hu', _⟩ := relV_agg hv
                  rw [hu'] at hc ⊢
                  simp only [Value.cells] at hc
                  simp only [mkv]
                  rw [hc]
                | false =>
                  have hl : ws.length = 1 := by rw [hrw.len, ← datsOf_len hds, h4]; exact hn1 rfl
                  have hcl : (a.eval v).cells = #[a.eval v] := by
                    have hisC : isC vv = true := by
                      cases vv <;> first | rfl | (simp [agOf] at hag; done) | (simp [cellsV] at hus; done)
                    exact oneCell_cells (isC_one hisC hv)
                  rw [hcl] at hc
                  match ws, hl with
                  | [x], _ =>
                    simp only [mkv]
                    have := congrArg Array.toList hc
                    simp at this
                    exact this
              simp only [RelV] at hm
              obtain ⟨i, hi, hfx, hu⟩ := hm
              obtain ⟨j, hj, hfix, hmine, ents, clock, hb, h0, l, rfl, hl⟩ := o1.own q _ hq
              rw [hi] at hj; cases hj
              have hkey := key_is hkk (hkr.mono r1.le)
              obtain ⟨p1, p2⟩ := ents_put (v := a.eval v) hkk (hkr.mono r1.le) h4 d1 hvv hl
              have hlt : i.b < w.heap.size := (Array.getElem?_eq_some_iff.1 hb).1
              have fin : ∀ (l2 : List MapEntry) (clock2 : Nat), (Instr.mapUpdate t (a.eval m) (a.eval k) (a.eval v)).run P w = .ok () { w with heap := w.heap.setIfInBounds i.b (.map l2.toArray clock2) } → REnts M1 kk ag sz (mput es key xs) l2 → EffV r P a (.mapUpdate t m k v) S wl M0 M ρ ob w .undef (wr ++ [(q, .mapo kk ag sz (mput es key xs))]) := fun l2 clock2 hrun hents => by
                obtain ⟨h5, h6⟩ := o1.turn (w' := { w with heap := w.heap.setIfInBounds i.b (.map l2.toArray clock2) }) hq hi i (.mapo kk ag sz (mput es key xs)) (fun x _ hx => by
                    have := hx trivial
                    simp [Array.getElem?_setIfInBounds, Ne.symm this]) (by simp) rfl rfl rfl (fun _ c hc => by rw [hmine.2] at hc; cases hc) (Ile.refl i) (fun hl => .inl ⟨trivial, rfl⟩)
                  (fun ρ' _ _ => ⟨hfix, hmine, l2.toArray, clock2, by simp [Array.getElem?_setIfInBounds, hlt], h0, l2, rfl, hents⟩)
                refine Eff.of_runU (w' := { w with heap := w.heap.setIfInBounds i.b (.map l2.toArray clock2) }) ?_ rfl ⟨M1, _, r1.trans h5, by rw [wrO_append]; exact h6, relV_undef _⟩
                intro d ty pos aft g
                simp [execOp, hrun, Result.andThen]
              rcases ents_look hkk (hkr.mono r1.le) [] hl with ⟨_, _, a3⟩ | ⟨_, _, j, e', us', a2, a3, a4, _, _⟩
              · have hfn : Instr.findNow kk.d (a.eval k) l 0 = some none := by
                  rcases MapKept.findNow_spec hkey l 0 (ents_keys hl) with ⟨b1, _⟩ | ⟨j, e', _, b2, b3⟩
                  · exact b1
                  · exact absurd b3 (a3 e' (List.mem_of_getElem? b2))
                refine fin (l ++ [{ key := a.eval k, val := a.eval v, born := clock }]) (clock + 1) ?_ (p1 clock a3)
                simp [Instr.mapUpdate, hu, run_underlying ht, MapKept.run_getObj_map hb, MapKept.run_checkKey hkt hkey, MapKept.run_findKey hkt hfn, MapKept.run_setObj_map _ hb, Result.andThen]
              · have hfn := findNow_at hkey a3 l j 0 (ents_keys hl) a2 a4
                rw [Nat.zero_add] at hfn
                refine fin (l.modify j fun e => { e with key := a.eval k, val := a.eval v }) clock ?_ (p2 j e' a2 a3 a4)
                have hj' : j < l.length := (List.getElem?_eq_some_iff.1 a2).1
                have hje : l[j] = e' := (List.getElem?_eq_some_iff.1 a2).2
                have hst := MapKept.run_keyThatStays (P := P) (w := w) hkey
                simp [Instr.mapUpdate, hu, run_underlying ht, MapKept.run_getObj_map hb, MapKept.run_checkKey hkt hkey, MapKept.run_findKey hkt hfn, hj', hje, a3, hst, MapKept.run_setObj_map _ hb, Result.andThen]
            · trivial
          · trivial
        · trivial
      · trivial
    · trivial
  · trivial
end
end Go.Proofs.YtilfjfpemjfalaaGreatDoor.Kx
