/- Functions that are ranged over: the side of the one who ranges. -/
import Derived.Test.YtilfjfpemjfalaaGreatDoorRu
namespace Go.Proofs.YtilfjfpemjfalaaGreatDoor.Kx
open Go Go.RowKit

section
variable {S : Hand} {wl w : World} {M0 M : Mem} {ρ : Rho} {ob : Nat → Option IObj}
/-- A block that is no cells is turned. -/
theorem Ow.raw (h : Ow S wl M0 M ρ ob w) {q b : Nat} {o : Obj} (hq : ob q = some (.raw b o)) (o' : Obj) : w.heap[b]? = some o ∧ Ow S wl M0 M ρ (updO ob q (.raw b o')) (w.putObj b o') := by
  obtain ⟨i, hi, hfix, hib, hm, hw⟩ := h.own q _ hq
  have hlt : b < w.heap.size := (Array.getElem?_eq_some_iff.1 hw).1
  obtain ⟨h1, h2⟩ := h.turn (w' := w.putObj b o') hq hi i (.raw b o') (fun k _ hk => World.putObj_heap_other (by have := hk trivial; rw [hib] at this; exact this)) (by simp) rfl rfl rfl (fun _ c hc => by rw [hm.2] at hc; cases hc) (Ile.refl i) (fun _ => .inl ⟨trivial, rfl⟩)
    (fun ρ' _ _ => ⟨hfix, hib, hm, World.putObj_heap_same hlt⟩)
  refine ⟨hw, ?_⟩
  have e : updO ρ q i = ρ := by
    funext s
    by_cases e : s = q
    · subst e; rw [updO_same, hi]
    · rw [updO_ne _ _ e]
  rw [e] at h2
  exact h2
/-- Two stretches, one behind the other: the second's base is the first's end. -/
theorem Ow.compP {r0 r1 r2 : Rho} {M2 : Mem} {ρ2 : Rho} {ob2 : Nat → Option IObj} {w2 : World} (h : Ow ⟨S.s, r0⟩ wl M0 M ρ ob w) (h2 : Ow ⟨TA ρ ob, r1⟩ w M M2 ρ2 ob2 w2) (hnf : ∀ q x, ob2 q ≠ some (.frn x)) (hh : ∀ q i, Nat.ble 2000 q = true → r2 q = some i → ∃ k, ρ2 q = some k ∧ Ile i k) : Ow ⟨S.s, r2⟩ wl M0 M2 ρ2 ob2 w2 := by
  refine ⟨Nat.le_trans h.size h2.size, h2.os.trans h.os, h2.tape.trans h.tape, h2.output.trans h.output, fun k hk hS => ?_, h2.sits, Mem.le_trans h.le h2.le, ⟨h2.gl.ok, h.gl.off, h.gl.sz⟩, fun b c hb hlt => ?_, fun q o hq => ?_, h2.dom, h2.inj, fun q i hb hi => hh q i hb hi⟩
  · rw [h2.old k (by have := h.size; omega) (fun ht => (TA_mine h ht).1.elim hS (fun hl => by omega))]; exact h.old k hk hS
  · rcases h2.new b c hb (by have := h.size; omega) with h1 | h1
    · exact h.new b c h1 hlt
    · exact (TA_mine h h1).1.elim .inr (fun hl => by omega)
  · obtain ⟨i, hi, hok⟩ := h2.own q o hq
    refine ⟨i, hi, ?_⟩
    have hM : live i o → S.s i.b ∨ wl.heap.size ≤ i.b := fun hl => by
      rcases (live_mine hok hl).1 with hs | hs
      · exact (TA_mine h hs).1
      · exact .inr (Nat.le_trans h.size hs)
    cases o with
    | box te cs => obtain ⟨h0, h1, rest⟩ := hok; exact ⟨h0, ⟨hM trivial, h1.2⟩, rest⟩
    | buf g e sz es =>
      obtain ⟨h0, hg, hs, hn, ht, hx, h1⟩ := hok
      refine ⟨h0, hg, hs, hn, ht, hx, fun hp => ?_⟩
      obtain ⟨h1, rest⟩ := h1 hp
      exact ⟨⟨hM hp, h1.2⟩, rest⟩
    | fzs g sz es => exact hok
    | fzb cs => exact hok
    | mapo kk ag sz es => obtain ⟨h0, h1, rest⟩ := hok; exact ⟨h0, ⟨hM trivial, h1.2⟩, rest⟩
    | raw b x => obtain ⟨h0, e, h1, rest⟩ := hok; exact ⟨h0, e, ⟨hM trivial, h1.2⟩, rest⟩
    | frn x => exact absurd hq (hnf q x)
theorem Ow.comp {r0 : Rho} {M2 : Mem} {ρ2 : Rho} {ob2 : Nat → Option IObj} {w2 : World} (h : Ow ⟨S.s, r0⟩ wl M0 M ρ ob w) (h2 : Ow ⟨TA ρ ob, ρ⟩ w M M2 ρ2 ob2 w2) (hnf : ∀ q x, ob2 q ≠ some (.frn x)) : Ow ⟨S.s, r0⟩ wl M0 M2 ρ2 ob2 w2 :=
  h.compP h2 hnf fun q i hb hi => by
    obtain ⟨j, h1, h3⟩ := h.held q i hb hi
    obtain ⟨k, h4, h5⟩ := h2.held q j hb h1
    exact ⟨k, h4, h3.trans h5⟩
end

section
variable {r : Option Nat} {P : Program} {N : Nat} {ds : List Deferred} {fin : Fin} {c : Cfg}
/-- A round begins. -/
theorem J_begR {l q : Nat} {k : List It} {rec : Loop} (ht : c.td = .begR l :: k) (hq : obGet c.ob q = some (.raw l (.loop rec))) (hs : rec.state = .ready) (hk : J r P N ds fin ⟨c.sl, obSet c.ob q (.raw l (.loop { rec with state := .busy })), k⟩) : J r P N ds fin c := by
  refine ⟨hk.1, fun S wl M0 hH M ρ f w ha => ?_⟩
  rw [ht]
  obtain ⟨h1, h2⟩ := ha.ow.raw hq (.loop { rec with state := .busy })
  simp only [Wk, Exit.then]
  refine ⟨_, run_beginRound h1 hs, hk.2 S wl M0 hH M ρ f _ ⟨?_, ha.ok, ha.sl⟩⟩
  dsimp only
  rw [obGet_set]
  exact h2
end
end Go.Proofs.YtilfjfpemjfalaaGreatDoor.Kx
