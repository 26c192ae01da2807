/- Maps as data; an object told by an equal text. -/
import Derived.Test.YtilfjfpemjfalaaGreatDoorRs
namespace Go.Proofs.YtilfjfpemjfalaaGreatDoor.Kx
open Go Go.RowKit
section
variable {r : Option Nat} {P : Program} {N : Nat} {ds : List Deferred} {fin : Fin} {c : Cfg} {q : CfgD}
theorem obSet_id {l : List (Nat × IObj)} {t : Nat} {o : IObj} (h : obGet l t = some o) : obGet (obSet l t o) = obGet l := by
  rw [obGet_set]
  funext s
  by_cases e : s = t
  · subst e; rw [updO_same, h]
  · rw [updO_ne _ _ e]
theorem J_obj (t : Nat) {o : IObj} (o' : IObj) (ho : obGet c.ob t = some o) (h : o = o') (hk : J r P N ds fin ⟨c.sl, obSet c.ob t o', c.td⟩) : J r P N ds fin c := by
  subst h
  refine ⟨hk.1, fun S wl M0 hH M ρ f w ha => hk.2 S wl M0 hH M ρ f w ⟨?_, ha.ok, ha.sl⟩⟩
  dsimp only
  rw [obSet_id ho]; exact ha.ow
theorem JD_obj (t : Nat) {o : IObj} (o' : IObj) (ho : obGet q.ob t = some o) (h : o = o') (hk : JD r P N ds fin ⟨q.sl, obSet q.ob t o', q.all, q.rest, q.ks, q.td⟩) : JD r P N ds fin q := by
  subst h
  refine ⟨hk.1, fun hok => ?_⟩
  obtain ⟨Δ, c, h1, h2, h3, h4, h5, h6⟩ := hk.2 hok
  refine ⟨Δ, c, h1, h2, h3, ?_, h5, h6⟩
  dsimp only at h4
  rw [obSet_id ho] at h4
  exact h4
end
section
variable {κ β : Type} [DecidableEq κ]
def mputF : List (κ × β) → κ → β → List (κ × β)
  | [], k, v => [(k, v)]
  | x :: l, k, v => bif decide (x.1 = k) then (k, v) :: l else x :: mputF l k v
def mlookF : List (κ × β) → κ → β → β
  | [], _, z => z
  | x :: l, k, z => bif decide (x.1 = k) then x.2 else mlookF l k z
def mhasF : List (κ × β) → κ → Bool
  | [], _ => false
  | x :: l, k => bif decide (x.1 = k) then true else mhasF l k
def pe (ke : κ → Dat) (ve : β → List Dat) (x : κ × β) : Dat × List Dat := (ke x.1, ve x.2)
variable {ke : κ → Dat} {ve : β → List Dat}
theorem ptm (hk : ∀ a b, dkeq (ke a) (ke b) = decide (a = b)) : ∀ (l : List (κ × β)) (k : κ) (v : β), mput (l.map (pe ke ve)) (ke k) (ve v) = (mputF l k v).map (pe ke ve)
  | [], _, _ => rfl
  | x :: l, k, v => by
    simp only [List.map_cons, mput, mputF, pe, hk]
    cases decide (x.1 = k) with
    | true => rfl
    | false =>
      simp only [cond_false, List.map_cons]
      rw [← ptm hk l k v]; rfl
theorem lkm (hk : ∀ a b, dkeq (ke a) (ke b) = decide (a = b)) : ∀ (l : List (κ × β)) (k : κ) (z : β), mlook (l.map (pe ke ve)) (ke k) (ve z) = ve (mlookF l k z)
  | [], _, _ => rfl
  | x :: l, k, z => by
    simp only [List.map_cons, mlook, mlookF, pe, hk]
    cases decide (x.1 = k) with
    | true => rfl
    | false => simp only [cond_false]; exact lkm hk l k z
theorem hsm (hk : ∀ a b, dkeq (ke a) (ke b) = decide (a = b)) : ∀ (l : List (κ × β)) (k : κ), mhas (l.map (pe ke ve)) (ke k) = mhasF l k
  | [], _ => rfl
  | x :: l, k => by
    simp only [List.map_cons, mhas, mhasF, pe, hk]
    cases decide (x.1 = k) with
    | true => rfl
    | false => simp only [cond_false]; exact hsm hk l k
theorem dk_int (i : IntKind) (a b : Int) : dkeq (.int i a) (.int i b) = decide (a = b) := rfl
theorem dk_str (a b : List UInt8) : dkeq (.str a) (.str b) = decide (a = b) := rfl
theorem dk_bool (a b : Bool) : dkeq (.bool a) (.bool b) = decide (a = b) := by cases a <;> cases b <;> rfl
end
end Go.Proofs.YtilfjfpemjfalaaGreatDoor.Kx
