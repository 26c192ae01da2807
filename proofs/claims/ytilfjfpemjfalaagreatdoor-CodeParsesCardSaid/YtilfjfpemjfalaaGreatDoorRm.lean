/- Configurations: abstract slots and objects, and the code that is left; the judgement J, and its steps. -/
import Derived.Test.YtilfjfpemjfalaaGreatDoorRl
import Derived.Scope
namespace Go.Proofs.YtilfjfpemjfalaaGreatDoor.Kx
open Go Go.RowKit

/-- What is left to be done. -/
inductive It where
  | code (c : Code)
  | inBlock (id : Nat)
  | inLoop (b : Code)
  | inScope
  | ops (all rest : List Oper)
  | begR (l : Nat)
  deriving Inhabited
structure Cfg where
  sl : Tri
  ob : List (Nat × IObj)
  td : List It
  deriving Inhabited

section
variable {r : Option Nat} {P : Program} {Q : Exit → Act → World → Prop} {a : Act} {w : World}
/-- A loop at its head, whether just come to or come back to. -/
@[irreducible] def Wl (r : Option Nat) (P : Program) (b : Code) (Q : Exit → Act → World → Prop) (a : Act) (w : World) : Prop :=
  (∀ (f : Frame) (k : List Item) (cs : List Frame), f.roundOf = r → (∃ fn, P.funcs[f.fn]? = some fn) →
    ∃ e a' w', Q e a' w' ∧ ArrivesIn (Machine.fenced P (WF r)) P (lone (f.atR a (.inLoop b :: k)) cs w) f k cs e a' w') ∧ W r P (.loop b) Q a w
theorem Wl_body {b : Code} (h : W r P b (Exit.then (fun a w => Wl r P b Q a w) Q) a w) : Wl r P b Q a w := by
  have key : ∀ (f : Frame) (k : List Item) (cs : List Frame), f.roundOf = r → (∃ fn, P.funcs[f.fn]? = some fn) →
      ∃ e a' w', Q e a' w' ∧ ArrivesIn (Machine.fenced P (WF r)) P (lone (f.atR a (.code b :: .inLoop b :: k)) cs w) f k cs e a' w' := by
    intro f k cs hro hb
    obtain ⟨e, a₁, w₁, hq, harr⟩ := W_at h f (.inLoop b :: k) cs hro hb
    cases e with
    | normal =>
      simp only [Exit.then] at hq
      unfold Wl at hq
      obtain ⟨e₂, a₂, w₂, hq₂, harr₂⟩ := hq.1 f k cs hro hb
      exact ⟨e₂, a₂, w₂, hq₂, .of_steps harr harr₂⟩
    | exit id => exact ⟨_, a₁, w₁, hq, .pass (x := .inLoop b) rfl (fun _ _ => .inl (by simp)) harr⟩
    | goto l => exact ⟨_, a₁, w₁, hq, .pass (x := .inLoop b) rfl (fun _ _ => .inl (by simp)) harr⟩
    | ret => exact ⟨_, a₁, w₁, hq, .pass (x := .inLoop b) rfl (fun _ _ => .inl (by simp)) harr⟩
    | panic ch => exact ⟨_, a₁, w₁, hq, .pass (x := .inLoop b) rfl (fun _ _ => .inl (by simp)) harr⟩
    | outgrown => exact ⟨_, a₁, w₁, hq, .pass (x := .inLoop b) rfl (fun _ _ => .inl (by simp)) harr⟩
  unfold Wl
  refine ⟨fun f k cs hro hb => ?_, ?_⟩
  · obtain ⟨e, a', w', hq, harr⟩ := key f k cs hro hb
    exact ⟨e, a', w', hq, .of_steps (.one (WF_calm rfl) stepR_inLoop) harr⟩
  · unfold W
    intro f k cs hro hb
    obtain ⟨e, a', w', hq, harr⟩ := key f k cs hro hb
    exact ⟨e, a', w', hq, .of_steps (.one (WF_calm rfl) stepR_loop) harr⟩
theorem Wl_loop {b : Code} (h : Wl r P b Q a w) : W r P (.loop b) Q a w := by unfold Wl at h; exact h.2

/-- The way through what is left. -/
def Wk (r : Option Nat) (P : Program) (fin : Exit → Act → World → Prop) : List It → Exit → Act → World → Prop
  | [] => fin
  | .code c :: k => Exit.then (fun a w => W r P c (Wk r P fin k) a w) (Wk r P fin k)
  | .inBlock id :: k => Exit.inBlock id (Wk r P fin k)
  | .inLoop b :: k => Exit.then (fun a w => Wl r P b (Wk r P fin k) a w) (Wk r P fin k)
  | .inScope :: k => Exit.noGoto (Wk r P fin k)
  | .ops all rest :: k => Exit.then (fun a w => L r P all.toArray (Wk r P fin k) rest a w) (Wk r P fin k)
  | .begR l :: k => Exit.then (fun a w => ∃ w2, (Instr.beginRound l).run P w = .ok () w2 ∧ Wk r P fin k .normal a w2) (fun _ _ _ => False)
end

/-! ### Steps that need no look at data -/
def evalV (N : Nat) (sl : Tri) : Operand → V
  | .tmp t => match Nat.blt t N with | true => sl.get 10 t | false => .undef
  | .const v => valV v
  | .func f => .d (.fnc f)
  | .global n => match gl n with | some cs => .rp cs 0 | none => .undef
def putS (N : Nat) (sl : Tri) (d : Option Nat) (v : V) : Tri := match d with
  | none => sl
  | some d => match Nat.blt d N with | true => sl.set 10 d v | false => .e
def exitK (id : Nat) : List It → Option (List It)
  | [] => none
  | .inBlock i :: k => match Nat.beq i id with | true => some k | false => exitK id k
  | .begR _ :: _ => none
  | _ :: k => exitK id k
/-- May the operation be passed over? -/
def gd (N : Nat) (sl : Tri) (all : List Oper) (o : Oper) : Option Bool := match o.guard with
  | none => some true
  | some (j, want) => match dstAt all j with
    | some t => match evalV N sl (.tmp t) with
      | .d (.bool b) => match b, want with | true, true => some true | false, false => some true | _, _ => some false
      | .un => some false
      | _ => none
    | none => none

section
variable (P : Program) (N : Nat)
def evNow (c : Cfg) : Res := match c.td with
  | .ops all (o :: _) :: _ => match gd N c.sl all o with
    | some true => evOp P (obGet c.ob) (o.dst.getD 0) o.type (evalV N c.sl) o.op
    | _ => .bad
  | _ => .bad
def after (c : Cfg) (v : V) (wr : Wr) : Cfg := match c.td with
  | .ops all (o :: rest) :: k => ⟨putS N c.sl o.dst v, obWr c.ob wr, .ops all rest :: k⟩
  | _ => c
def adv (c : Cfg) : Option Cfg := match c.td with
  | .code .skip :: k => some ⟨c.sl, c.ob, k⟩
  | .code (.label _) :: k => some ⟨c.sl, c.ob, k⟩
  | .code (.seq x y) :: k => some ⟨c.sl, c.ob, .code x :: .code y :: k⟩
  | .code (.block id b) :: k => some ⟨c.sl, c.ob, .code b :: .inBlock id :: k⟩
  | .code (.scope b) :: k => some ⟨c.sl, c.ob, .code b :: .inScope :: k⟩
  | .code (.loop b) :: k => some ⟨c.sl, c.ob, .inLoop b :: k⟩
  | .code (.exit id) :: k => match exitK id k with | some k' => some ⟨c.sl, c.ob, k'⟩ | none => none
  | .code (.region _ ops false) :: k => some ⟨c.sl, c.ob, .ops ops.toList ops.toList :: k⟩
  | .code (.cond x t f) :: k => match evalV N c.sl x with
    | .d (.bool b) => match b with | true => some ⟨c.sl, c.ob, .code t :: k⟩ | false => some ⟨c.sl, c.ob, .code f :: k⟩
    | _ => none
  | .inBlock _ :: k => some ⟨c.sl, c.ob, k⟩
  | .inScope :: k => some ⟨c.sl, c.ob, k⟩
  | .inLoop b :: k => some ⟨c.sl, c.ob, .code b :: .inLoop b :: k⟩
  | .ops _ [] :: k => some ⟨c.sl, c.ob, k⟩
  | .ops all (o :: rest) :: k => match gd N c.sl all o with
    | some true => match evNow P N c with
      | .ok v wr => some ⟨putS N c.sl o.dst v, obWr c.ob wr, .ops all rest :: k⟩
      | _ => none
    | some false => some ⟨putS N c.sl o.dst .un, c.ob, .ops all rest :: k⟩
    | none => none
  | _ => none
/-- n steps, or fewer. -/
def advN : Nat → Cfg → Cfg
  | 0, c => c
  | n + 1, c => match adv P N c with
    | some c' => advN n c'
    | none => c
end

/-- The state of memory and frame, as the configuration has it. -/
structure Abs (S : Hand) (wl : World) (M0 M : Mem) (ρ : Rho) (N : Nat) (c : Cfg) (f : Nat → Value) (w : World) : Prop where
  ow : Ow S wl M0 M ρ (obGet c.ob) w
  ok : c.sl.ok 10
  sl : ∀ t, t < N → RelV M ρ (c.sl.get 10 t) (f t)

/-- What is asked at the end; H: what is known of the state that one started from. -/
structure Fin where
  H : Hand → World → Mem → Prop
  post : Hand → World → Mem → Exit → Act → World → Prop
instance : CoeFun Fin (fun _ => Hand → World → Mem → Exit → Act → World → Prop) := ⟨Fin.post⟩
/-- From the configuration on all goes well, and ends as fin says. -/
def J (r : Option Nat) (P : Program) (N : Nat) (ds : List Deferred) (fin : Fin) (c : Cfg) : Prop :=
  N ≤ 1024 ∧ ∀ S wl M0, fin.H S wl M0 → ∀ M ρ f w, Abs S wl M0 M ρ N c f w → Wk r P (fin S wl M0) c.td .normal (fr N f ds) w

section
variable {r : Option Nat} {P : Program} {N : Nat} {ds : List Deferred} {fin : Fin} {c : Cfg}
variable {S : Hand} {wl w : World} {M0 M : Mem} {ρ : Rho} {f : Nat → Value}

theorem evalV_rel (h : Abs S wl M0 M ρ N c f w) (x : Operand) : RelV M ρ (evalV N c.sl x) ((fr N f ds).eval x) := by
  cases x with
  | tmp t =>
    simp only [evalV]
    split
    · rename_i ht
      rw [ev ht rfl]
      exact h.sl t (nb_lt ht)
    · exact relV_undef _
  | const v => exact valV_rel v
  | func g => simp only [evalV, RelV]; exact .fnc g
  | global g =>
    simp only [evalV]
    split
    · rename_i cs hg
      obtain ⟨us, h1, h2⟩ := h.ow.gl.ok.d g cs hg
      simp only [RelV]
      exact ⟨g, 0, us, rfl, h1, h2⟩
    · exact relV_undef _
theorem putS_abs (h : Abs S wl M0 M ρ N c f w) (hN : N ≤ 1024) {M' : Mem} {ρ' : Rho} {w' : World} {ob' : List (Nat × IObj)} (hr : Rle M M' ρ ρ') (ho : Ow S wl M0 M' ρ' (obGet ob') w') {v : V} {u : Value} (hv : RelV M' ρ' v u) (d : Option Nat) (td : List It) :
    Abs S wl M0 M' ρ' N ⟨putS N c.sl d v, ob', td⟩ (match d with | some d => upd f d u | none => f) w' := by
  cases d with
  | none => exact ⟨ho, h.ok, fun t ht => RelV.mono hr _ (h.sl t ht)⟩
  | some d =>
    simp only [putS]
    split
    · rename_i hd
      have hd := nb_lt hd
      refine ⟨ho, Tri.set_ok _ _ _ _ h.ok, fun t ht => ?_⟩
      by_cases e : t = d
      · subst e; dsimp only; rw [Tri.get_set_same, upd_same]; exact hv
      · dsimp only; rw [Tri.get_set_ne _ _ _ _ _ h.ok (by omega) (by omega) (fun e' => e e'.symm), upd_ne _ _ e]
        exact RelV.mono hr _ (h.sl t ht)
    · exact ⟨ho, trivial, fun t _ => by dsimp only; rw [Tri.get_e]; exact relV_undef _⟩
theorem fr_putd {d : Option Nat} {u : Value} : (fr N f ds).put d u = fr N (match d with | some d => upd f d u | none => f) ds := by
  cases d with
  | none => rfl
  | some d => exact fr_put

theorem gd_spec (h : Abs S wl M0 M ρ N c f w) {all : List Oper} {o : Oper} {b : Bool} (hg : gd N c.sl all o = some b) : Region.wanted o (yielded all.toArray (fr N f ds).tmps) = b := by
  obtain ⟨d, op, ty, pos, aft, g⟩ := o
  cases g with
  | none => simp only [gd, Option.some.injEq] at hg; subst hg; rfl
  | some p =>
    obtain ⟨j, want⟩ := p
    unfold gd at hg
    dsimp only at hg
    split at hg
    · rename_i t ht
      have hr := evalV_rel (ds := ds) h (.tmp t)
      have hlt : ∀ v, evalV N c.sl (.tmp t) = v → v ≠ .undef → Nat.blt t N = true := fun v hv hne => by
        simp only [evalV] at hv
        split at hv
        · assumption
        · exact absurd hv.symm hne
      split at hg
      · rename_i b' hb
        have hN := hlt _ hb (by intro e; cases e)
        rw [hb] at hr
        have he := relV_bool hr
        have hft : f t = .bool b' := by rw [← he, ev hN rfl]
        rw [wanted_g (yields ht hN hft)]
        cases b' <;> cases want <;> simp at hg ⊢ <;> first | exact hg | exact hg.symm
      · rename_i hb
        have hN := hlt _ hb (by intro e; cases e)
        rw [hb] at hr
        simp only [RelV] at hr
        have hft : f t = undef := by rw [← hr, ev hN rfl]
        cases hg
        exact wanted_u (yields_u ht hN hft) want
      · cases hg
    · cases hg

theorem exitK_wk {fin' : Exit → Act → World → Prop} {id : Nat} {a : Act} {w : World} : ∀ {k k' : List It}, exitK id k = some k' → Wk r P fin' k' .normal a w → Wk r P fin' k (.exit id) a w
  | [], _, h, _ => by cases h
  | .inBlock i :: k, k', h, hw => by
    unfold exitK at h
    split at h
    · rename_i hb
      cases h
      obtain rfl := Nat.eq_of_beq_eq_true hb
      simp only [Wk, Exit.inBlock, if_true]; exact hw
    · rename_i hb
      have hne : ¬ id = i := fun e => by subst e; simp at hb
      simp only [Wk, Exit.inBlock, if_neg hne]
      exact exitK_wk h hw
  | .code c :: k, k', h, hw => by simp only [Wk, Exit.then]; exact exitK_wk h hw
  | .inLoop b :: k, k', h, hw => by simp only [Wk, Exit.then]; exact exitK_wk h hw
  | .inScope :: k, k', h, hw => by simp only [Wk, Exit.noGoto]; exact exitK_wk (k := k) h hw
  | .ops a b :: k, k', h, hw => by simp only [Wk, Exit.then]; exact exitK_wk h hw
  | .begR _ :: k, k', h, hw => by cases h

theorem W_scope {c : Code} {Q : Exit → Act → World → Prop} {a : Act} {w : World} (h : W r P c (Exit.noGoto Q) a w) : W r P (.scope c) Q a w := by
  unfold W
  intro b k cs hro hb
  have h0 : (lone (b.atR a (.code (.scope c) :: k)) cs w).fenced P (WF r) := WF_calm rfl
  have st : step P (lone (b.atR a (.code (.scope c) :: k)) cs w) = .next (lone (b.atR a (.code c :: .inScope c :: k)) cs w) := step_lone_go (by simp [stepG, stepG.exec, Frame.atR])
  have st' : ∀ {a : Act} {w : World}, step P (lone (b.atR a (.inScope c :: k)) cs w) = .next (lone (b.atR a k) cs w) := step_lone_go (by simp [stepG, stepG.exec, Frame.atR])
  obtain ⟨e, a₁, w₁, hq, harr⟩ := W_at h b (.inScope c :: k) cs hro hb
  cases e with
  | normal => exact ⟨.normal, a₁, w₁, hq, .head h0 st (StepsIn.trans harr (.one (WF_calm rfl) st'))⟩
  | exit id =>
    have hx : exitTo id (.inScope c :: k) = exitTo id k := by simp [exitTo]
    exact ⟨.exit id, a₁, w₁, hq, fun k' hk => .head h0 st (harr.1 k' (by rw [hx]; exact hk)),
      fun hr' hk => let ⟨k₁, h1, h2⟩ := harr.2 hr' (by rw [hx]; exact hk); ⟨k₁, h1, .head h0 st h2⟩⟩
  | goto l => exact hq.elim
  | ret => exact ⟨_, a₁, w₁, hq, .of_steps (.one h0 st) (e := .ret) harr⟩
  | panic ch => exact ⟨_, a₁, w₁, hq, .of_steps (.one h0 st) (e := .panic ch) harr⟩
  | outgrown => exact ⟨_, a₁, w₁, hq, .of_steps (.one h0 st) (e := .outgrown) harr⟩

theorem wrO_of (l : List (Nat × IObj)) (wr : Wr) : wrO (obGet l) wr = obGet (obWr l wr) := (obGet_wr wr l).symm
theorem J_eff {v : V} {wr : Wr} {all rest : List Oper} {o : Oper} {k : List It} (ht : c.td = .ops all (o :: rest) :: k) (hg : gd N c.sl all o = some true)
    (he : ∀ S wl M0 M ρ f w, Abs S wl M0 M ρ N c f w → EffV r P (fr N f ds) o.op S wl M0 M ρ (obGet c.ob) w v wr) (hk : J r P N ds fin ⟨putS N c.sl o.dst v, obWr c.ob wr, .ops all rest :: k⟩) : J r P N ds fin c := by
  refine ⟨hk.1, fun S wl M0 hH M ρ f w h => ?_⟩
  rw [ht]
  simp only [Wk, Exit.then]
  obtain ⟨d, op, ty, pos, aft, g⟩ := o
  refine L_wp (gd_spec h hg) (he S wl M0 M ρ f w h _ _ _ _ _ _ _ fun u w' ⟨M', ρ', h1, h2, h3⟩ => ?_)
  have := hk.2 S wl M0 hH M' ρ' _ w' (putS_abs h hk.1 h1 (by rw [← wrO_of]; exact h2) h3 d _)
  simp only [Wk, Exit.then] at this
  rw [fr_putd]
  exact this
theorem J_skip {all rest : List Oper} {o : Oper} {k : List It} (ht : c.td = .ops all (o :: rest) :: k) (hg : gd N c.sl all o = some false) (hk : J r P N ds fin ⟨putS N c.sl o.dst .un, c.ob, .ops all rest :: k⟩) : J r P N ds fin c := by
  refine ⟨hk.1, fun S wl M0 hH M ρ f w h => ?_⟩
  rw [ht]
  simp only [Wk, Exit.then]
  have := hk.2 S wl M0 hH M ρ _ w (putS_abs h hk.1 (Rle.refl _ _) h.ow (v := .un) (u := undef) (by simp only [RelV]) o.dst _)
  simp only [Wk, Exit.then] at this
  have hw := gd_spec (ds := ds) h hg
  rw [L_eq] at this ⊢
  unfold wpListIn
  rw [if_neg (by rw [hw]; simp)]
  refine ⟨fun _ _ => trivial, ?_⟩
  rw [fr_putd]
  exact this

theorem J_adv1 {c' : Cfg} (h : adv P N c = some c') (hk : J r P N ds fin c') : J r P N ds fin c := by
  have ctl : ∀ {td : List It}, c' = ⟨c.sl, c.ob, td⟩ → (∀ {fin' : Exit → Act → World → Prop} {a : Act} {w : World}, Wk r P fin' td .normal a w → Wk r P fin' c.td .normal a w) → J r P N ds fin c := fun {td} e hw => by
    subst e
    exact ⟨hk.1, fun S wl M0 hH M ρ f w ha => hw (hk.2 S wl M0 hH M ρ f w ⟨ha.ow, ha.ok, ha.sl⟩)⟩
  unfold adv at h
  split at h
  · rename_i ht; cases h; exact ctl rfl fun hw => by rw [ht]; exact W_skip hw
  · rename_i ht; cases h; exact ctl rfl fun hw => by rw [ht]; simp only [Wk, Exit.then]; exact W_of (wpIn_label hw)
  · rename_i ht; cases h; exact ctl rfl fun hw => by rw [ht]; exact W_seq hw
  · rename_i ht; cases h; exact ctl rfl fun hw => by rw [ht]; exact W_block hw
  · rename_i ht; cases h; exact ctl rfl fun hw => by rw [ht]; exact W_scope hw
  · rename_i ht; cases h; exact ctl rfl fun hw => by rw [ht]; exact Wl_loop hw
  · rename_i ht
    split at h
    · rename_i k' hk'; cases h; exact ctl rfl fun hw => by rw [ht]; exact W_exit (exitK_wk hk' hw)
    · cases h
  · rename_i rid ops k ht; cases h; exact ctl rfl fun hw => by
      rw [ht]
      simp only [Wk, Exit.then] at hw ⊢
      have := W_region (id := rid) (r := r) (P := P) hw
      simpa using this
  · rename_i x t g k ht
    split at h
    · rename_i b hb
      refine ⟨hk.1, fun S wl M0 hH M ρ f w ha => ?_⟩
      have hr := evalV_rel (ds := ds) ha x
      rw [hb] at hr
      have he := relV_bool hr
      rw [ht]
      cases b with
      | true => cases h; exact W_if he (fun _ => hk.2 S wl M0 hH M ρ f w ⟨ha.ow, ha.ok, ha.sl⟩) (fun e => by cases e)
      | false => cases h; exact W_if he (fun e => by cases e) (fun _ => hk.2 S wl M0 hH M ρ f w ⟨ha.ow, ha.ok, ha.sl⟩)
    · cases h
  · rename_i ht; cases h; exact ctl rfl fun hw => by rw [ht]; exact hw
  · rename_i ht; cases h; exact ctl rfl fun hw => by rw [ht]; exact hw
  · rename_i ht; cases h; exact ctl rfl fun hw => by rw [ht]; exact Wl_body hw
  · rename_i ht; cases h; exact ctl rfl fun hw => by rw [ht]; exact L_nil hw
  · rename_i all o rest k ht
    split at h
    · rename_i hg
      split at h
      · rename_i v wr he
        cases h
        refine J_eff ht hg (fun S wl M0 M ρ f w ha => ?_) hk
        have := evOp_sound (r := r) (P := P) (a := fr N f ds) (op := o.op) (d := o.dst.getD 0) (ty := o.type) ha.ow (evalV_rel (ds := ds) ha)
        unfold evNow at he
        rw [ht] at he
        simp only [hg] at he
        rw [he] at this
        exact this
      · cases h
    · rename_i hg; cases h; exact J_skip ht hg hk
    · cases h
  · cases h
theorem J_adv : ∀ (n : Nat) {c : Cfg}, J r P N ds fin (advN P N n c) → J r P N ds fin c
  | 0, _, h => h
  | n + 1, c, h => by
    unfold advN at h
    split at h
    · rename_i c' hc; exact J_adv1 hc (J_adv n h)
    · exact h
end
end Go.Proofs.YtilfjfpemjfalaaGreatDoor.Kx
