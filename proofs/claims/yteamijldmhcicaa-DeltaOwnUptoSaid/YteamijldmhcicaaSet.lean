/-
  A store into a slice of the call's own.
-/
import Derived.Test.YteamijldmhcicaaMix
namespace Go.Proofs.Yteamijldmhcicaa
open Go.RowKit Base
set_option linter.unusedVariables false
set_option linter.unusedSimpArgs false
namespace Set1

/-- The place of an own row's element: it may be written. -/
theorem own_place {w : World} {B : Nat} {e : TypeId} {a : Option Addr} {n c : Nat} {vs : List Value} (h : w.ownsRow B e 1 (.slice a n c) n vs) (hn : 0 < n) :
    ∃ g, a = some ⟨g, 0, none⟩ ∧ B ≤ g ∧ g < w.heap.size ∧ ∀ i, w.frozen? ⟨g, i, none⟩ = false := by
  rcases h.2 with ⟨hv, hnil⟩ | ⟨g, cap, cur, hv, hg, hh, _⟩
  · simp only [Value.slice.injEq] at hv
    omega
  · simp only [Value.slice.injEq] at hv
    obtain ⟨rfl, _, _⟩ := hv
    exact ⟨g, rfl, hg, (Array.getElem?_eq_some_iff.1 hh).1, fun i => by simp [World.frozen?, hh]⟩

theorem sl_set {w : World} {g n c : Nat} {vs : List Value} (h : Sl w (some ⟨g, 0, none⟩) n c vs) {i : Nat} (hi : i < n) (u : Value) : Sl (w.setCell ⟨g, i, none⟩ u) (some ⟨g, 0, none⟩) n c (vs.set i u) := by
  have hsz : (w.setCell ⟨g, i, none⟩ u).heap.size = w.heap.size := by simp [World.setCell]
  refine ⟨by rw [List.length_set]; exact h.len, h.cap, h.big, h.bare, fun k x hx => ?_⟩
  by_cases hk : k = i
  · subst hk
    rw [List.getElem?_set_self (by rw [h.len]; exact hi)] at hx
    simp only [Option.some.injEq] at hx
    subst hx
    obtain ⟨b, o, x, ha, hb, _, hc⟩ := h.at hi
    simp only [Option.some.injEq, Addr.mk.injEq] at ha
    obtain ⟨rfl, rfl, _⟩ := ha
    rw [Nat.zero_add] at hc
    exact ⟨g, 0, rfl, by rw [hsz]; exact hb, by rw [Nat.zero_add]; exact World.cell?_setCell_same _ _ _ hc⟩
  · rw [List.getElem?_set_ne (fun e => hk e.symm)] at hx
    obtain ⟨b, o, ha, hb, hc⟩ := h.cell k x hx
    simp only [Option.some.injEq, Addr.mk.injEq] at ha
    obtain ⟨rfl, rfl, _⟩ := ha
    refine ⟨g, 0, rfl, by rw [hsz]; exact hb, (World.cell?_setCell_other _ _ _ _ (fun h => ?_)).trans hc⟩
    simp only [Addr.mk.injEq] at h
    omega

theorem sl_keep {w : World} {g i : Nat} {u : Value} {a : Option Addr} {n c : Nat} {vs : List Value} (h : Sl w a n c vs) (hg : ∀ b o, a = some ⟨b, o, none⟩ → vs ≠ [] → b ≠ g) : Sl (w.setCell ⟨g, i, none⟩ u) a n c vs := by
  have hsz : (w.setCell ⟨g, i, none⟩ u).heap.size = w.heap.size := by simp [World.setCell]
  refine ⟨h.len, h.cap, h.big, h.bare, fun k x hx => ?_⟩
  obtain ⟨b, o, ha, hb, hc⟩ := h.cell k x hx
  refine ⟨b, o, ha, by rw [hsz]; exact hb, (World.cell?_setCell_other _ _ _ _ (fun h => ?_)).trans hc⟩
  simp only [Addr.mk.injEq] at h
  exact hg b o ha (by rintro rfl; simp at hx) (by omega)

end Set1
end Go.Proofs.Yteamijldmhcicaa
