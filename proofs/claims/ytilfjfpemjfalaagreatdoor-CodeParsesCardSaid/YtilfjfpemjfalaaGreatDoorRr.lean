/- A region that draws its order, walked in the order of the text. -/
import Derived.Test.YtilfjfpemjfalaaGreatDoorRq
namespace Go.Proofs.YtilfjfpemjfalaaGreatDoor.Kx
open Go Go.RowKit

/-! ### What an operation reads -/
def tO : Operand → List Nat → List Nat
  | .tmp t, l => t :: l
  | _, l => l
def tOs : List Operand → List Nat → List Nat
  | [], l => l
  | x :: xs, l => tO x (tOs xs l)
def tPs : List (Nat × Operand) → List Nat → List Nat
  | [], l => l
  | (_, x) :: xs, l => tO x (tPs xs l)
def tOpt : Option Operand → List Nat → List Nat
  | some x, l => tO x l
  | none, l => l
def tmpsOp : Op → List Nat
  | .move x | .assign x | .box _ x | .load _ x | .nilCheck x | .unOp _ _ x | .convert _ _ x | .fieldAddr _ x _ | .field _ x _ | .extract x _ => tO x []
  | .pick c x y => tO c (tO x (tO y []))
  | .build _ ps => tPs ps.toList []
  | .buildSlice _ _ ps => tPs ps.toList []
  | .store _ x y | .binOp _ _ x y _ | .indexAddr _ x y | .index _ x y | .makeSlice _ x y | .lookup _ x y _ => tO x (tO y [])
  | .mapUpdate _ m k v => tO m (tO k (tO v []))
  | .insert _ m k v => tO m (tO k (tO v []))
  | .makeFunc _ xs ys => tOs xs.toList (tOs ys.toList [])
  | .slice _ x lo hi mx => tO x (tOpt lo (tOpt hi (tOpt mx [])))
  | .call c => match c.callee with
    | .value f => tO f (tOs c.args.toList [])
    | _ => tOs c.args.toList []
  | _ => []
def rsOf (all : List Oper) (o : Oper) : List Nat := match o.guard with
  | none => tmpsOp o.op
  | some (j, _) => match dstAt all j with | some t => t :: tmpsOp o.op | none => tmpsOp o.op
mutual
def refsV : V → List Nat → List Nat
  | .ptr r _, l => r :: l
  | .suf r _ _, l => r :: l
  | .osl r _ _ _, l => r :: l
  | .ept r _ _ _, l => r :: l
  | .mp r, l => r :: l
  | .yl r, l => r :: l
  | .fn _ a b, l => refsVs a (refsVs b l)
  | .agg cs, l => refsVs cs l
  | .tup vs, l => refsVs vs l
  | _, l => l
def refsVs : List V → List Nat → List Nat
  | [], l => l
  | v :: vs, l => refsV v (refsVs vs l)
end
def refsO : Option IObj → List Nat
  | some (.box te cs) => refsVs cs []
  | some (.fzb cs) => refsVs cs []
  | _ => []
def slotRefs (N : Nat) (sl : Tri) : List Nat → List Nat
  | [] => []
  | t :: l => refsV (evalV N sl (.tmp t)) (slotRefs N sl l)
def reach (ob : List (Nat × IObj)) : Nat → List Nat → List Nat → List Nat
  | 0, _, acc => acc
  | _, [], acc => acc
  | n + 1, r :: l, acc => match memN r acc with
    | true => reach ob n l acc
    | false => reach ob n (refsO (obGet ob r) ++ l) (r :: acc)
structure CfgD where
  sl : Tri
  ob : List (Nat × IObj)
  all : List Oper
  rest : List Oper
  ks : List Keys
  td : List It

section
variable (P : Program) (N : Nat)
def dEv (sl : Tri) (K rs : List Nat) : Operand → V
  | .tmp t => match memN t rs with
    | true => match refsIn K (evalV N sl (.tmp t)) with | true => evalV N sl (.tmp t) | false => .undef
    | false => .undef
  | x => evalV N sl x
def dOb (ob : List (Nat × IObj)) (K R : List Nat) : Nat → Option IObj := keepO K R (obGet ob)
def allClosed (ob : List (Nat × IObj)) (K : List Nat) : List Nat → Bool
  | [] => true
  | r :: l => match obGet ob r with
    | some o => match closedO K o with | true => allClosed ob K l | false => false
    | none => allClosed ob K l
def gdD (ev : Operand → V) (all : List Oper) (o : Oper) : Option Bool := match o.guard with
  | none => some true
  | some (j, want) => match dstAt all j with
    | some t => match ev (.tmp t) with
      | .d (.bool b) => match b, want with | true, true => some true | false, false => some true | _, _ => some false
      | .un => some false
      | _ => none
    | none => none
def dstB (o : Oper) : Bool := match o.dst with | none => true | some d => Nat.blt d N
def kOf (q : CfgD) (o : Oper) : List Nat := reach q.ob 64 (slotRefs N q.sl (rsOf q.all o)) (match o.dst with | some d => [d] | none => [])
/-- The objects that it looks at; the others it only names. -/
def dst1 (o : Oper) : List Nat := match o.dst with | some d => [d] | none => []
def rOf (q : CfgD) (o : Oper) (K : List Nat) : List Nat := match o.op with
  | .move _ | .assign _ | .pick .. | .build .. | .extract .. | .field .. | .makeFunc .. | .box .. => dst1 o
  | .store _ x _ | .load _ x => match evalV N q.sl x with | .ptr r _ => r :: dst1 o | _ => K
  | .fieldAddr _ x _ | .nilCheck x => match evalV N q.sl x with | .ptr _ _ => dst1 o | _ => K
  | _ => K
def subN : List Nat → List Nat → Bool
  | [], _ => true
  | x :: l, K => match memN x K with | true => subN l K | false => false
theorem subN_spec {K : List Nat} : ∀ {l : List Nat}, subN l K = true → ∀ r, memN r l = true → memN r K = true
  | [], _, r, h => by cases h
  | x :: l, hs, r, h => by
    unfold subN at hs
    split at hs
    · rename_i hx
      unfold memN at h
      split at h
      · rename_i hb; rw [Nat.eq_of_beq_eq_true hb]; exact hx
      · exact subN_spec hs r h
    · cases hs
def pairWith (all : List Oper) (b : Keys) (n : Nat) : List Keys → Bool
  | [] => true
  | a :: l => match indepK a b with
    | true => pairWith all b n l
    | false => match ordB all 6 l.length n with | true => pairWith all b n l | false => false
/-- The operation that comes next by the text, what it may look at, and what comes of it. -/
def dNow (q : CfgD) : Res := match q.rest with
  | o :: _ => match kOf N q o with
    | K => match rsOf q.all o with
      | rs => match gdD (dEv N q.sl K rs) q.all o, allClosed q.ob K (rOf N q o K), dstB N o with
        | some true, true, true => evOp P (dOb q.ob K (rOf N q o K)) (o.dst.getD 0) o.type (dEv N q.sl K rs) o.op
        | _, _, _ => .bad
  | _ => .bad
def dGo (q : CfgD) (v : V) (wr : Wr) : Option CfgD := match q.rest with
  | o :: rest => match kOf N q o with
    | K => match keysIn (rOf N q o K) wr, pairWith q.all ⟨rsOf q.all o, K, rOf N q o K, wkeys wr, newK (obGet q.ob) wr, o.dst⟩ q.ks.length q.ks, subN (rOf N q o K) K with
      | true, true, true => some ⟨putS N q.sl o.dst v, obWr q.ob wr, q.all, rest, ⟨rsOf q.all o, K, rOf N q o K, wkeys wr, newK (obGet q.ob) wr, o.dst⟩ :: q.ks, q.td⟩
      | _, _, _ => none
  | _ => none
def dSkip (q : CfgD) : Option CfgD := match q.rest with
  | o :: rest => match gdD (dEv N q.sl [] (rsOf q.all o)) q.all o, dstB N o, pairWith q.all ⟨rsOf q.all o, [], [], [], [], o.dst⟩ q.ks.length q.ks with
    | some false, true, true => some ⟨putS N q.sl o.dst .un, q.ob, q.all, rest, ⟨rsOf q.all o, [], [], [], [], o.dst⟩ :: q.ks, q.td⟩
    | _, _, _ => none
  | _ => none
def advd (q : CfgD) : Option CfgD := match dNow P N q with
  | .ok v wr => dGo N q v wr
  | _ => dSkip N q
def advdN : Nat → CfgD → CfgD
  | 0, q => q
  | n + 1, q => match advd P N q with
    | some q' => advdN n q'
    | none => q
end

/-! ### The judgement -/
def gOf (N : Nat) (sl : Tri) : Nat → V := fun t => evalV N sl (.tmp t)
def RunD : List Dlt → (Nat → V) → (Nat → Option IObj) → (Nat → V) → (Nat → Option IObj) → Prop
  | [], g, ob, gE, obE => g = gE ∧ ob = obE
  | δ :: R, g, ob, gE, obE => App δ g ob ∧ RunD R (updG g δ.dst δ.v) (wrO ob δ.wr) gE obE
def OkD (r : Option Nat) (P : Program) (N : Nat) (ds : List Deferred) (all : List Oper) : List Oper → List Dlt → Prop
  | [], [] => True
  | o :: l, δ :: Δ => (DOk r P N ds all o δ ∧ WOk δ) ∧ OkD r P N ds all l Δ
  | _, _ => False
def PW (all : List Oper) : List Keys → List Dlt → Prop
  | _, [] => True
  | ks, δ :: Δ => pairWith all (keysOf δ) ks.length ks = true ∧ PW all (keysOf δ :: ks) Δ
def JD (r : Option Nat) (P : Program) (N : Nat) (ds : List Deferred) (fin : Fin) (q : CfgD) : Prop :=
  N ≤ 1024 ∧ (q.sl.ok 10 → ∃ (Δ : List Dlt) (c : Cfg), c.td = q.td ∧ c.sl.ok 10 ∧ J r P N ds fin c ∧ RunD Δ (gOf N q.sl) (obGet q.ob) (gOf N c.sl) (obGet c.ob) ∧ OkD r P N ds q.all q.rest Δ ∧ PW q.all q.ks Δ)

section
variable {r : Option Nat} {P : Program} {N : Nat} {ds : List Deferred} {fin : Fin} {q : CfgD}

theorem JD_end (hr : q.rest = []) (hk : J r P N ds fin ⟨q.sl, q.ob, q.td⟩) : JD r P N ds fin q :=
  ⟨hk.1, fun hok => ⟨[], ⟨q.sl, q.ob, q.td⟩, rfl, hok, hk, ⟨rfl, rfl⟩, by rw [hr]; trivial, trivial⟩⟩

theorem gOf_put {sl : Tri} (hok : sl.ok 10) (hN : N ≤ 1024) {d : Option Nat} (hd : ∀ t, d = some t → Nat.blt t N = true) (v : V) : updG (gOf N sl) d v = gOf N (putS N sl d v) := by
  cases d with
  | none => rfl
  | some d =>
    have hlt := hd d rfl
    funext t
    simp only [updG, gOf, evalV, putS, hlt]
    cases hb : Nat.beq t d with
    | true =>
      obtain rfl := Nat.eq_of_beq_eq_true hb
      simp only [hlt, Tri.get_set_same]
    | false =>
      simp only
      split
      · rename_i ht
        have h1 := nb_lt ht; have h2 := nb_lt hlt
        rw [Tri.get_set_ne _ _ _ _ _ hok (by omega) (by omega) (fun e => by subst e; rw [Nat.beq_refl] at hb; cases hb)]
      · rfl
theorem putS_ok {sl : Tri} (hok : sl.ok 10) {d : Option Nat} {v : V} : (putS N sl d v).ok 10 := by
  cases d with
  | none => exact hok
  | some d =>
    simp only [putS]
    split
    · exact Tri.set_ok _ _ _ _ hok
    · trivial
theorem JD_cons {o : Oper} {rest : List Oper} (hr : q.rest = o :: rest) (hd : dstB N o = true) {rs K R : List Nat} {v : V} {wr : Wr} (hdo : DOk r P N ds q.all o ⟨rs, K, R, gOf N q.sl, obGet q.ob, o.dst, v, wr⟩) (hw : ∀ x ∈ wkeys wr, memN x R = true)
    (hp : pairWith q.all ⟨rs, K, R, wkeys wr, newK (obGet q.ob) wr, o.dst⟩ q.ks.length q.ks = true) (hk : JD r P N ds fin ⟨putS N q.sl o.dst v, obWr q.ob wr, q.all, rest, ⟨rs, K, R, wkeys wr, newK (obGet q.ob) wr, o.dst⟩ :: q.ks, q.td⟩) : JD r P N ds fin q := by
  refine ⟨hk.1, fun hok => ?_⟩
  obtain ⟨Δ, c, h1, h2, h3, h4, h5, h6⟩ := hk.2 (putS_ok hok)
  refine ⟨⟨rs, K, R, gOf N q.sl, obGet q.ob, o.dst, v, wr⟩ :: Δ, c, h1, h2, h3, ⟨⟨fun _ _ => rfl, fun _ _ => rfl, fun _ _ => rfl⟩, ?_⟩, by rw [hr]; exact ⟨⟨hdo, hw⟩, h5⟩, hp, h6⟩
  have e := gOf_put hok hk.1 (d := o.dst) (fun t ht => by unfold dstB at hd; rw [ht] at hd; exact hd) v
  simp only at h4 ⊢
  rw [e, ← obGet_wr]
  exact h4

theorem gdD_spec {ev : Operand → V} {M : Mem} {ρ : Rho} {f : Nat → Value} {sl : Tri} {K rs : List Nat} (hev : ∀ t, RelV M ρ (dEv N sl K rs (.tmp t)) ((fr N f ds).eval (.tmp t))) {all : List Oper} {o : Oper} {b : Bool} (hg : gdD (dEv N sl K rs) all o = some b) : Region.wanted o (yielded all.toArray (fr N f ds).tmps) = b := by
  obtain ⟨d, op, ty, pos, aft, g⟩ := o
  cases g with
  | none => simp only [gdD, Option.some.injEq] at hg; subst hg; rfl
  | some p =>
    obtain ⟨j, want⟩ := p
    unfold gdD at hg
    dsimp only at hg
    split at hg
    · rename_i t ht
      have hr := hev t
      have hlt : ∀ v, dEv N sl K rs (.tmp t) = v → v ≠ .undef → Nat.blt t N = true := fun v hv hne => by
        simp only [dEv] at hv
        split at hv
        · split at hv
          · simp only [evalV] at hv
            split at hv
            · assumption
            · exact absurd hv.symm hne
          · exact absurd hv.symm hne
        · exact absurd hv.symm hne
      split at hg
      · rename_i b' hb
        have hN := hlt _ hb (by intro e; cases e)
        rw [hb] at hr
        have he := relV_bool hr
        have hft : f t = .bool b' := by rw [← he, Kx.ev hN rfl]
        rw [wanted_g (yields ht hN hft)]
        cases b' <;> cases want <;> simp at hg ⊢ <;> first | exact hg | exact hg.symm
      · rename_i hb
        have hN := hlt _ hb (by intro e; cases e)
        rw [hb] at hr
        simp only [RelV] at hr
        have hft : f t = undef := by rw [← hr, Kx.ev hN rfl]
        cases hg
        exact wanted_u (yields_u ht hN hft) want
      · cases hg
    · cases hg

theorem dEv_rel {M : Mem} {ρ : Rho} {f : Nat → Value} {g : Nat → V} {sl : Tri} {K rs : List Nat} (h : ∀ t, t < N → RelV M ρ (g t) (f t)) (hg : ∀ t, memN t rs = true → g t = gOf N sl t) (hG : GlOk M) (x : Operand) : RelV M (keepR K ρ) (dEv N sl K rs x) ((fr N f ds).eval x) := by
  cases x with
  | tmp t =>
    simp only [dEv]
    split
    · rename_i hm
      split
      · rename_i hr
        have e := hg t hm
        unfold gOf at e
        by_cases ht : t < N
        · have hb : Nat.blt t N = true := by simpa [Nat.blt_eq] using ht
          rw [Kx.ev hb rfl]
          refine refs_rel _ hr ?_
          rw [← e]; exact h t ht
        · have hb : Nat.blt t N = false := by
            cases hb : Nat.blt t N with
            | true => exact absurd (nb_lt hb) ht
            | false => rfl
          simp only [evalV, hb]
          exact relV_undef _
      · exact relV_undef _
    · exact relV_undef _
  | const v => exact valV_rel v
  | func g => simp only [dEv, evalV, RelV]; exact .fnc g
  | global g =>
    simp only [dEv, evalV]
    split
    · rename_i cs hgl
      obtain ⟨us, h1, h2⟩ := hG.d g cs hgl
      simp only [RelV]
      exact ⟨g, 0, us, rfl, h1, h2⟩
    · exact relV_undef _

theorem allClosed_spec {ob : List (Nat × IObj)} {K : List Nat} : ∀ {l : List Nat}, allClosed ob K l = true → ∀ r o, memN r l = true → obGet ob r = some o → closedO K o = true
  | [], _, r, o, h, _ => by cases h
  | x :: l, hc, r, o, h, ho => by
    unfold memN at h
    unfold allClosed at hc
    split at h
    · rename_i hb
      obtain rfl := Nat.eq_of_beq_eq_true hb
      rw [ho] at hc
      simp only at hc
      split at hc
      · assumption
      · cases hc
    · split at hc
      · split at hc
        · exact allClosed_spec hc r o h ho
        · cases hc
      · exact allClosed_spec hc r o h ho

theorem keysIn_mem {R : List Nat} : ∀ {wr : Wr}, keysIn R wr = true → ∀ x ∈ wkeys wr, memN x R = true
  | [], _, x, hx => by cases hx
  | (d, o) :: wr, h, x, hx => by
    unfold keysIn at h
    split at h
    · cases h
    · rename_i hd _
      rcases List.mem_cons.1 hx with rfl | hx
      · exact hd
      · exact keysIn_mem h x hx
    · cases h
theorem dok {o : Oper} {K R rs : List Nat} {v : V} {wr : Wr} (hgd : gdD (dEv N q.sl K rs) q.all o = some true) (hcl : allClosed q.ob K R = true) (hsub : subN R K = true) (hd : dstB N o = true) (hk : keysIn R wr = true)
    (heff : ∀ S wl M0 M ρ f w, Ow S wl M0 M ρ (dOb q.ob K R) w → (∀ x, RelV M ρ (dEv N q.sl K rs x) ((fr N f ds).eval x)) → EffV r P (fr N f ds) o.op S wl M0 M ρ (dOb q.ob K R) w v wr) :
    DOk r P N ds q.all o ⟨rs, K, R, gOf N q.sl, obGet q.ob, o.dst, v, wr⟩ := by
  intro S wl M0 M ρ g ob f w ha happ KK Q hK
  have hev := fun x => dEv_rel (N := N) (ds := ds) (sl := q.sl) (K := K) ha.sl happ.1 ha.ow.gl.ok x
  have hobe : keepO K R ob = dOb q.ob K R := by
    funext x
    unfold dOb keepO
    split
    · rename_i hm
      split
      · rename_i hmr; exact happ.2.1 x hmr
      · have := happ.2.2 x hm
        simp only at this
        cases h1 : ob x <;> cases h2 : obGet q.ob x <;> rw [h1, h2] at this <;> first | rfl | cases this
    · rfl
  have hcl' := fun x o' (hm : memN x R = true) (ho : ob x = some o') => allClosed_spec hcl x o' hm ((happ.2.1 x hm).symm.trans ho)
  rw [if_pos (gdD_spec (ev := dEv N q.sl K rs) (fun t => hev (.tmp t)) hgd)]
  have hp := ha.ow.part K R hcl'
  rw [hobe] at hp
  obtain ⟨d, op, ty, pos, aft, gg⟩ := o
  refine heff _ _ _ _ _ f w hp hev d ty pos aft gg KK Q fun u w' ⟨M', ρ', h1, h2, h3⟩ => ?_
  rw [← hobe] at h2
  obtain ⟨h4, h5, h6⟩ := ha.ow.back hcl' (subN_spec hsub) (fun x i _ _ hi => (keepR_some hi).2) hk h2 h1
  rw [fr_putd]
  refine hK M' (joinR K ρ ρ') _ w' ⟨h5, fun t ht => ?_⟩
  cases d with
  | none => exact RelV.mono h4 _ (ha.sl t ht)
  | some d =>
    simp only [updG]
    cases hb : Nat.beq t d with
    | true =>
      obtain rfl := Nat.eq_of_beq_eq_true hb
      simp only [upd_same]; exact RelV.mono h6 _ h3
    | false =>
      simp only
      rw [upd_ne _ _ (fun e => by subst e; rw [Nat.beq_refl] at hb; cases hb)]
      exact RelV.mono h4 _ (ha.sl t ht)
theorem dok_skip {o : Oper} {rs : List Nat} (hgd : gdD (dEv N q.sl [] rs) q.all o = some false) : DOk r P N ds q.all o ⟨rs, [], [], gOf N q.sl, obGet q.ob, o.dst, .un, []⟩ := by
  intro S wl M0 M ρ g ob f w ha happ KK Q hK
  have hev := fun x => dEv_rel (N := N) (ds := ds) (sl := q.sl) (K := []) ha.sl happ.1 ha.ow.gl.ok x
  have hw := gdD_spec (ev := dEv N q.sl [] rs) (fun t => hev (.tmp t)) hgd
  rw [if_neg (by rw [hw]; simp), fr_putd]
  refine hK M ρ _ w ⟨ha.ow, fun t ht => ?_⟩
  obtain ⟨d, op, ty, pos, aft, gg⟩ := o
  cases d with
  | none => exact ha.sl t ht
  | some d =>
    simp only [updG]
    cases hb : Nat.beq t d with
    | true =>
      obtain rfl := Nat.eq_of_beq_eq_true hb
      simp only [upd_same, RelV]
    | false =>
      simp only
      rw [upd_ne _ _ (fun e => by subst e; rw [Nat.beq_refl] at hb; cases hb)]
      exact ha.sl t ht

theorem dNow_is (h : dNow P N q ≠ .bad) : ∃ o rest, q.rest = o :: rest ∧ gdD (dEv N q.sl (kOf N q o) (rsOf q.all o)) q.all o = some true ∧ allClosed q.ob (kOf N q o) (rOf N q o (kOf N q o)) = true ∧ dstB N o = true ∧
    dNow P N q = evOp P (dOb q.ob (kOf N q o) (rOf N q o (kOf N q o))) (o.dst.getD 0) o.type (dEv N q.sl (kOf N q o) (rsOf q.all o)) o.op := by
  unfold dNow at h ⊢
  split at h
  · rename_i o rest hr
    simp only at h
    split at h
    · rename_i h1 h2 h3
      refine ⟨o, rest, hr, h1, h2, h3, ?_⟩
      simp only [h1, h2, h3]
    · exact absurd rfl h
  · exact absurd rfl h
theorem dGo_is {v : V} {wr : Wr} {q' : CfgD} {o : Oper} {rest : List Oper} (hr : q.rest = o :: rest) (h : dGo N q v wr = some q') : keysIn (rOf N q o (kOf N q o)) wr = true ∧ pairWith q.all ⟨rsOf q.all o, kOf N q o, rOf N q o (kOf N q o), wkeys wr, newK (obGet q.ob) wr, o.dst⟩ q.ks.length q.ks = true ∧ subN (rOf N q o (kOf N q o)) (kOf N q o) = true ∧ q' = ⟨putS N q.sl o.dst v, obWr q.ob wr, q.all, rest, ⟨rsOf q.all o, kOf N q o, rOf N q o (kOf N q o), wkeys wr, newK (obGet q.ob) wr, o.dst⟩ :: q.ks, q.td⟩ := by
  unfold dGo at h
  rw [hr] at h
  simp only at h
  split at h
  · rename_i h1 h2 h3; cases h; exact ⟨h1, h2, h3, rfl⟩
  · cases h
theorem JD_eff {v : V} {wr : Wr} {q' : CfgD} (hb : dNow P N q ≠ .bad) (hgo : dGo N q v wr = some q')
    (heff : ∀ (op : Op) (d : Nat) (ty : TypeId) (ob : Nat → Option IObj) (ev : Operand → V), dNow P N q = evOp P ob d ty ev op → ∀ S wl M0 M ρ f w, Ow S wl M0 M ρ ob w → (∀ x, RelV M ρ (ev x) ((fr N f ds).eval x)) → EffV r P (fr N f ds) op S wl M0 M ρ ob w v wr) (hk : JD r P N ds fin q') : JD r P N ds fin q := by
  obtain ⟨o, rest, hr, h1, h2, h3, h4⟩ := dNow_is hb
  obtain ⟨h5, h6, h7, rfl⟩ := dGo_is hr hgo
  exact JD_cons hr h3 (dok h1 h2 h7 h3 h5 (heff o.op _ _ _ _ h4)) (keysIn_mem h5) h6 hk

theorem JD_adv1 {q' : CfgD} (h : advd P N q = some q') (hk : JD r P N ds fin q') : JD r P N ds fin q := by
  unfold advd at h
  have skip : dSkip N q = some q' → JD r P N ds fin q := fun h => by
    unfold dSkip at h
    split at h
    · rename_i o rest hr
      split at h
      · rename_i h1 h2 h3
        cases h
        exact JD_cons hr h2 (dok_skip h1) (fun x hx => by cases hx) h3 hk
      · cases h
    · cases h
  split at h
  · rename_i v wr he
    refine JD_eff (by rw [he]; intro e; cases e) h (fun op d ty ob ev heq S wl M0 M ρ f w ho hev => ?_) hk
    have := evOp_sound (r := r) (P := P) (a := fr N f ds) (op := op) (d := d) (ty := ty) ho hev
    rw [← heq, he] at this
    exact this
  · exact skip h
theorem JD_adv : ∀ (n : Nat) {q : CfgD}, JD r P N ds fin (advdN P N n q) → JD r P N ds fin q
  | 0, _, h => h
  | n + 1, q, h => by
    unfold advdN at h
    split at h
    · rename_i c' hc; exact JD_adv1 hc (JD_adv n h)
    · exact h

def dopt1 (P : Program) (N : Nat) (q : CfgD) : Option (Option (List Dat)) := match dNow P N q with | .opt1 o _ => some o | _ => none
def dopt2 (P : Program) (N : Nat) (q : CfgD) : Option (Option (List (List Dat))) := match dNow P N q with | .opt2 o _ => some o | _ => none
def dgoB (N : Nat) (q : CfgD) (v : V) (wr : Wr) : Bool := match dGo N q v wr with | some _ => true | none => false
def dgo (N : Nat) (q : CfgD) (v : V) (wr : Wr) : CfgD := match dGo N q v wr with | some q' => q' | none => q
theorem dgo_is {v : V} {wr : Wr} (h : dgoB N q v wr = true) : dGo N q v wr = some (dgo N q v wr) := by
  unfold dgoB at h
  unfold dgo
  split at h
  · rename_i hq; rw [hq]
  · cases h
def dok1 (P : Program) (N : Nat) (q : CfgD) (x : List Dat) : Bool := match dNow P N q with | .opt1 _ k => dgoB N q (k x).1 (k x).2 | _ => false
def dres1 (P : Program) (N : Nat) (q : CfgD) (x : List Dat) : CfgD := match dNow P N q with | .opt1 _ k => dgo N q (k x).1 (k x).2 | _ => q
def dok2 (P : Program) (N : Nat) (q : CfgD) (x : List (List Dat)) : Bool := match dNow P N q with | .opt2 _ k => dgoB N q (k x).1 (k x).2 | _ => false
def dres2 (P : Program) (N : Nat) (q : CfgD) (x : List (List Dat)) : CfgD := match dNow P N q with | .opt2 _ k => dgo N q (k x).1 (k x).2 | _ => q
theorem JD_opt1 {o : Option (List Dat)} (x : List Dat) (ho : dopt1 P N q = some o) (hb : dok1 P N q x = true) (hx : o = some x) (hk : JD r P N ds fin (dres1 P N q x)) : JD r P N ds fin q := by
  unfold dopt1 at ho
  unfold dok1 at hb
  unfold dres1 at hk
  split at ho
  · rename_i o' k he
    cases ho
    rw [he] at hb hk
    refine JD_eff (by rw [he]; intro e; cases e) (dgo_is hb) (fun op d ty ob ev heq S wl M0 M ρ f w ho hev => ?_) hk
    have := evOp_sound (r := r) (P := P) (a := fr N f ds) (op := op) (d := d) (ty := ty) ho hev
    rw [← heq, he] at this
    exact this x hx
  · cases ho
theorem JD_opt2 {o : Option (List (List Dat))} (x : List (List Dat)) (ho : dopt2 P N q = some o) (hb : dok2 P N q x = true) (hx : o = some x) (hk : JD r P N ds fin (dres2 P N q x)) : JD r P N ds fin q := by
  unfold dopt2 at ho
  unfold dok2 at hb
  unfold dres2 at hk
  split at ho
  · rename_i o' k he
    cases ho
    rw [he] at hb hk
    refine JD_eff (by rw [he]; intro e; cases e) (dgo_is hb) (fun op d ty ob ev heq S wl M0 M ρ f w ho hev => ?_) hk
    have := evOp_sound (r := r) (P := P) (a := fr N f ds) (op := op) (d := d) (ty := ty) ho hev
    rw [← heq, he] at this
    exact this x hx
  · cases ho

def dobNow (N : Nat) (q : CfgD) : Nat → Option IObj := match q.rest with | o :: _ => dOb q.ob (kOf N q o) (rOf N q o (kOf N q o)) | [] => fun _ => none
def dcall (P : Program) (N : Nat) (q : CfgD) : Option (FuncId × List V) := match dNow P N q with
  | .call g args => match argsOf (dobNow N q) args with
    | some (xs, _) => some (g, xs)
    | none => none
  | _ => none
def dokC (P : Program) (N : Nat) (q : CfgD) (v : V) : Bool := match dNow P N q with
  | .call _ args => match argsOf (dobNow N q) args with
    | some (_, wr) => dgoB N q v wr
    | none => false
  | _ => false
def dresC (P : Program) (N : Nat) (q : CfgD) (v : V) : CfgD := match dNow P N q with
  | .call _ args => match argsOf (dobNow N q) args with
    | some (_, wr) => dgo N q v wr
    | none => q
  | _ => q
theorem JD_callF {g : FuncId} {xs : List V} (ys : List V) (v : V) (hc : dcall P N q = some (g, xs)) (hb : dokC P N q v = true) (he : entersT P g) (hre : Res' xs ys) (hcall : CallF P g ys v) (hk : JD r P N ds fin (dresC P N q v)) : JD r P N ds fin q := by
  unfold dcall at hc
  unfold dokC at hb
  unfold dresC at hk
  split at hc
  · rename_i g' args hev
    split at hc
    · rename_i xs' wr hargs
      cases hc
      rw [hev] at hb hk
      simp only [hargs] at hb hk
      obtain ⟨o, rest, hr, h1, h2, h3, h4⟩ := dNow_is (P := P) (N := N) (q := q) (by rw [hev]; intro e; cases e)
      obtain ⟨h5, h6, h8, h7⟩ := dGo_is hr (dgo_is hb)
      rw [h7] at hk
      refine JD_cons hr h3 (dok h1 h2 h8 h3 h5 (fun S wl M0 M ρ f w ho hev' => ?_)) (keysIn_mem h5) h6 hk
      have hob : dobNow N q = dOb q.ob (kOf N q o) (rOf N q o (kOf N q o)) := by unfold dobNow; rw [hr]
      rw [hob] at hargs
      rw [h4] at hev
      obtain ⟨vals, h1, h2⟩ := call_eff (r := r) (w := w) hev hev' he
      obtain ⟨M1, r1, o1, d1⟩ := argsOf_sound ho h1 hargs
      refine h2 _ _ (hcall M1 w vals o1.sits o1.gla (hre.rel (d1 noR))) ?_
      rintro e w' ⟨u, M2, rfl, hext, hv⟩
      obtain ⟨h3, h4⟩ := o1.call hext
      exact ⟨u, rfl, M2, ρ, r1.trans h3, h4, relV_noR hv⟩
    · cases hc
  · cases hc
def dcallX (P : Program) (N : Nat) (q : CfgD) : Option (FuncId × List V) := match dNow P N q with
  | .call g args => some (g, args)
  | _ => none
theorem JD_callX {g : FuncId} {xs : List V} (v : V) (hc : dcallX P N q = some (g, xs)) (hb : dgoB N q v [] = true) (hcall : CallX P g xs v) (hk : JD r P N ds fin (dgo N q v [])) : JD r P N ds fin q := by
  unfold dcallX at hc
  split at hc
  · rename_i g' args hev
    cases hc
    obtain ⟨o, rest, hr, h1, h2, h3, h4⟩ := dNow_is (P := P) (N := N) (q := q) (by rw [hev]; intro e; cases e)
    obtain ⟨h5, h6, h8, h7⟩ := dGo_is hr (dgo_is hb)
    rw [h7] at hk
    refine JD_cons hr h3 (dok h1 h2 h8 h3 h5 (fun S wl M0 M ρ f w ho hev' => ?_)) (keysIn_mem h5) h6 hk
    rw [h4] at hev
    obtain ⟨vals, h1, h2⟩ := call_effX (r := r) (w := w) hev hev'
    obtain ⟨u, h3, h4⟩ := hcall M ρ vals h1
    exact h2 _ u w (h4 w) ⟨M, ρ, Rle.refl _ _, ho, h3⟩
  · cases hc
/-- A bool that is decided. -/
def putD (q : CfgD) (t : Nat) (v : V) : CfgD := ⟨q.sl.set 10 t v, q.ob, q.all, q.rest, q.ks, q.td⟩
theorem JD_known (t : Nat) {b v : Bool} (h : b = v) (hb : evalV N q.sl (.tmp t) = .d (.bool b)) (hk : JD r P N ds fin (putD q t (.d (.bool v)))) : JD r P N ds fin q := by
  subst h
  have hlt : Nat.blt t N = true := by
    simp only [evalV] at hb
    split at hb
    · assumption
    · cases hb
  refine ⟨hk.1, fun hok => ?_⟩
  obtain ⟨Δ, c, h1, h2, h3, h4, h5, h6⟩ := hk.2 (Tri.set_ok _ _ _ _ hok)
  refine ⟨Δ, c, h1, h2, h3, ?_, h5, h6⟩
  have e : gOf N (putD q t (.d (.bool b))).sl = gOf N q.sl := by
    funext s
    by_cases hs : s = t
    · subst hs
      unfold gOf
      rw [hb]
      simp only [evalV, hlt, putD, Tri.get_set_same]
    · unfold gOf
      simp only [evalV, putD]
      split
      · rename_i hsN
        have h1 := nb_lt hsN; have h2 := nb_lt hlt; have := hk.1
        rw [Tri.get_set_ne _ _ _ _ _ hok (by omega) (by omega) (fun e => hs e.symm)]
      · rfl
  rw [e] at h4
  exact h4
theorem JD_bool (t : Nat) {b : Bool} (hb : evalV N q.sl (.tmp t) = .d (.bool b)) (ht : b = true → JD r P N ds fin (putD q t (.d (.bool true)))) (hf : b = false → JD r P N ds fin (putD q t (.d (.bool false)))) : JD r P N ds fin q := by
  cases b with
  | true => exact JD_known t rfl hb (ht rfl)
  | false => exact JD_known t rfl hb (hf rfl)

/-! ### Into the region -/
def allPrd (l : List Oper) : Nat → List Oper → Bool
  | _, [] => true
  | j, _ :: rest => match allLt j (prd l j) with | true => allPrd l (j + 1) rest | false => false
def idx : Nat → List Dlt → List (Nat × Dlt)
  | _, [] => []
  | i, δ :: Δ => (i, δ) :: idx (i + 1) Δ
theorem idx_run : ∀ {Δ : List Dlt} {i : Nat} {g : Nat → V} {ob : Nat → Option IObj} {gE : Nat → V} {obE : Nat → Option IObj}, RunD Δ g ob gE obE → RunR (idx i Δ) g ob gE obE
  | [], _, _, _, _, _, h => h
  | _ :: _, _, _, _, _, _, h => ⟨h.1, idx_run h.2⟩
theorem idx_len : ∀ {Δ : List Dlt} {i : Nat}, (idx i Δ).length = Δ.length
  | [], _ => rfl
  | _ :: _, _ => by simp only [idx, List.length_cons, idx_len]
theorem idx_mem : ∀ {Δ : List Dlt} {i : Nat} {x : Nat × Dlt}, x ∈ idx i Δ → i ≤ x.1 ∧ x.1 < i + Δ.length ∧ Δ[x.1 - i]? = some x.2
  | [], _, _, h => by cases h
  | δ :: Δ, i, x, h => by
    rcases List.mem_cons.1 h with rfl | h
    · simp
    · obtain ⟨h1, h2, h3⟩ := idx_mem h
      refine ⟨by omega, by simp; omega, ?_⟩
      obtain ⟨k, hk⟩ : ∃ k, x.1 = i + 1 + k := ⟨x.1 - (i + 1), by omega⟩
      rw [hk] at h3 ⊢
      rw [show i + 1 + k - (i + 1) = k by omega] at h3
      rw [show i + 1 + k - i = k + 1 by omega]
      exact h3
theorem idx_all : ∀ {Δ : List Dlt} {i j : Nat}, i ≤ j → j < i + Δ.length → ∃ x ∈ idx i Δ, x.1 = j
  | [], i, j, h1, h2 => by simp at h2; omega
  | δ :: Δ, i, j, h1, h2 => by
    rcases Nat.eq_or_lt_of_le h1 with rfl | h1
    · exact ⟨(i, δ), List.mem_cons_self, rfl⟩
    · obtain ⟨x, hx, he⟩ := idx_all (Δ := Δ) (i := i + 1) (j := j) h1 (by simp at h2; omega)
      exact ⟨x, List.mem_cons_of_mem _ hx, he⟩
theorem idx_sorted : ∀ {Δ : List Dlt} {i : Nat}, (idx i Δ).Pairwise (fun a b => a.1 < b.1)
  | [], _ => List.Pairwise.nil
  | δ :: Δ, i => List.pairwise_cons.2 ⟨fun x hx => by have := (idx_mem hx).1; simp only; omega, idx_sorted⟩
theorem pairWith_mem {all : List Oper} {b : Keys} {n : Nat} {κ : Keys} {ks : List Keys} : ∀ {A : List Keys}, pairWith all b n (A ++ κ :: ks) = true → indepK κ b = true ∨ ordB all 6 ks.length n = true
  | [], h => by
    simp only [List.nil_append] at h
    unfold pairWith at h
    split at h
    · rename_i hi; exact .inl hi
    · split at h
      · rename_i ho; exact .inr ho
      · cases h
  | a :: A, h => by
    simp only [List.cons_append] at h
    unfold pairWith at h
    split at h
    · exact pairWith_mem h
    · split at h
      · exact pairWith_mem h
      · cases h
theorem PW_rel {all : List Oper} {κ : Keys} {ks : List Keys} : ∀ {Δ : List Dlt} {A : List Keys}, PW all (A ++ κ :: ks) Δ → ∀ x ∈ idx (A.length + 1 + ks.length) Δ, ordB all 6 ks.length x.1 = true ∨ indepK κ (keysOf x.2) = true
  | [], _, _, x, hx => by cases hx
  | δ :: Δ, A, h, x, hx => by
    rcases List.mem_cons.1 hx with rfl | hx
    · have := pairWith_mem h.1
      rw [show (A ++ κ :: ks).length = A.length + 1 + ks.length by simp; omega] at this
      exact this.symm
    · have := PW_rel (A := keysOf δ :: A) (κ := κ) (ks := ks) h.2 x (by rw [show (keysOf δ :: A).length + 1 + ks.length = A.length + 1 + ks.length + 1 by simp; omega]; exact hx)
      exact this
theorem PW_pair {all : List Oper} : ∀ {Δ : List Dlt} {ks : List Keys}, PW all ks Δ → (idx ks.length Δ).Pairwise (Rel2 all 6)
  | [], _, _ => List.Pairwise.nil
  | δ :: Δ, ks, h => by
    refine List.pairwise_cons.2 ⟨fun x hx => ?_, PW_pair (ks := keysOf δ :: ks) h.2⟩
    have := PW_rel (A := []) (κ := keysOf δ) (ks := ks) h.2 x (by rw [show ([] : List Keys).length + 1 + ks.length = ks.length + 1 by simp; omega]; exact hx)
    exact this
theorem OkD_get {all : List Oper} : ∀ {l : List Oper} {Δ : List Dlt}, OkD r P N ds all l Δ → l.length = Δ.length ∧ ∀ (j : Nat) (δ : Dlt), Δ[j]? = some δ → ∃ o, opAt l j = some o ∧ DOk r P N ds all o δ ∧ WOk δ
  | [], [], _ => ⟨rfl, fun j δ h => by cases j <;> cases h⟩
  | o :: l, δ :: Δ, h => by
    obtain ⟨h1, h2⟩ := OkD_get h.2
    refine ⟨by simp [h1], fun j δ' hj => ?_⟩
    cases j with
    | zero => simp at hj; subst hj; exact ⟨o, rfl, h.1.1, h.1.2⟩
    | succ j => simp at hj; exact h2 j δ' hj
  | [], _ :: _, h => h.elim
  | _ :: _, [], h => h.elim
theorem allPrd_spec {l : List Oper} : ∀ {rest : List Oper} {j : Nat}, allPrd l j rest = true → ∀ k, j ≤ k → k < j + rest.length → ∀ p ∈ prd l k, p < k
  | [], j, _, k, h1, h2 => by simp at h2; omega
  | _ :: rest, j, h, k, h1, h2 => by
    unfold allPrd at h
    split at h
    · rename_i ha
      rcases Nat.eq_or_lt_of_le h1 with rfl | h1
      · exact allLt_spec ha
      · exact allPrd_spec h k h1 (by simp at h2; omega)
    · cases h

def atDraw (c : Cfg) : Option CfgD := match c.td with
  | .code (.region _ ops true) :: k => match allPrd ops.toList 0 ops.toList with
    | true => some ⟨c.sl, c.ob, ops.toList, ops.toList, [], k⟩
    | false => none
  | _ => none
def inDraw (c : Cfg) : CfgD := match atDraw c with | some q => q | none => ⟨c.sl, c.ob, [], [], [], []⟩
def isDraw (c : Cfg) : Bool := match atDraw c with | some _ => true | none => false
theorem J_draw {c : Cfg} (hm : P.follows .mixedOrders = true) (hd : isDraw c = true) (hk : JD r P N ds fin (inDraw c)) : J r P N ds fin c := by
  unfold isDraw at hd
  unfold inDraw at hk
  split at hd
  · rename_i q hq
    rw [hq] at hk
    unfold atDraw at hq
    split at hq
    · rename_i id ops k ht
      split at hq
      · rename_i hall
        cases hq
        refine ⟨hk.1, fun S wl M0 hH M ρ f w ha => ?_⟩
        obtain ⟨Δ, c', h1, h2, h3, h4, h5, h6⟩ := hk.2 ha.ok
        simp only at h1 h4 h5 h6
        rw [ht]
        simp only [Wk, Exit.then]
        refine W_of ?_
        obtain ⟨hlen, hget⟩ := OkD_get h5
        have key := any_run (r := r) (P := P) (N := N) (ds := ds) (l := ops.toList) (S := S) (wl := wl) (M0 := M0) (gE := gOf N c'.sl) (obE := obGet c'.ob) (Q := Wk r P (fin S wl M0) k) (F := 6)
          (fun j o ho p hp => allPrd_spec hall j (Nat.zero_le _) (by have := opAt_lt ho; omega) p hp)
          (fun M ρ f w ha => by
            rw [← h1]
            refine h3.2 S wl M0 hH M ρ f w ⟨ha.ow, h2, fun t ht => ?_⟩
            have := ha.sl t ht
            unfold gOf at this
            simp only [evalV, show Nat.blt t N = true by simpa [Nat.blt_eq] using ht] at this
            exact this)
          ops.size (idx 0 Δ) (Array.replicate ops.size false) M ρ (gOf N c.sl) (obGet c.ob) f w.drew (by rw [idx_len, ← hlen]; simp) idx_sorted (by simp)
          (fun j => by
            constructor
            · intro hj
              have : j < ops.size := by
                rcases Nat.lt_or_ge j ops.size with h' | h'
                · exact h'
                · simp [h'] at hj
              exact idx_all (Nat.zero_le _) (by rw [← hlen]; simpa using this)
            · rintro ⟨x, hx, rfl⟩
              have := (idx_mem hx).2.1
              rw [← hlen] at this
              simp at this
              simp [this])
          (fun x hx => by
            obtain ⟨_, _, h9⟩ := idx_mem hx
            exact hget _ _ (by simpa using h9))
          (PW_pair (ks := []) h6)
          (fun k o _ hl => by
            exfalso
            rcases Nat.lt_or_ge k ops.size with h' | h'
            · simp [h'] at hl
            · simp [h'] at hl)
          ⟨ha.ow.drew, fun t ht => by
            unfold gOf
            simp only [evalV, show Nat.blt t N = true by simpa [Nat.blt_eq] using ht]
            exact ha.sl t ht⟩ (idx_run h4)
        have := wpIn_region_any (F := WF r) (n := 0) (id := id) (ops := ops) hm key
        exact this
      · cases hq
    · cases hq
  · cases hd
end
end Go.Proofs.YtilfjfpemjfalaaGreatDoor.Kx
