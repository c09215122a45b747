/-
  Plain: behind a push, what comes to a table, and a pop.
-/
import Derived.Test.YtgbpoeidpldmkaaFactK
namespace Go.Proofs.Ytgbpoeidpldmkaa
open Go.RowKit Base
set_option linter.unusedVariables false
set_option linter.unusedSimpArgs false
namespace Fact
open Vals (srt srt_spec srt_one)

/-- X is t, one deeper, and with new facts whose ids are ws. -/
structure Ext (t X : Tb) (ws : List Int) : Prop where
  ok : Ok X
  depth : X.depth = t.depth + 1
  wf : WfF X.facts
  new : ∃ new, X.facts = t.facts ++ new ∧ (∀ x ∈ new, x.depth = t.depth + 1) ∧ new.map (·.id) = ws

theorem ext_push {t : Tb} (h : Ok t) (hw : WfF t.facts) (hd : t.depth ≠ 16) : Ext t ⟨t.next, t.depth + 1, t.facts⟩ [] :=
  ⟨ok_deep h hd, rfl, hw, [], by simp, by simp, rfl⟩

theorem putT_zero {X : Tb} (h : Ok X) {k : Int} {l : List Int} (he : (putT X k l).2.2 = 0) : putT X k l = (put X k (srt l), X.next, 0) ∧ litsOk (srt l) = true ∧ X.facts.length ≠ 64 ∧ X.next ≠ 1099511627776 := by
  unfold putT at he ⊢
  rw [if_pos (ok_to h)] at he ⊢
  by_cases h1 : litsOk (srt l) = true
  · rw [if_pos h1] at he ⊢
    by_cases h2 : X.facts.length = 64
    · rw [if_pos h2] at he
      exact absurd he (by decide)
    · rw [if_neg h2] at he ⊢
      by_cases h3 : X.next = 1099511627776
      · rw [if_pos h3] at he
        exact absurd he (by decide)
      · rw [if_neg h3]
        exact ⟨rfl, h1, h2, h3⟩
  · rw [if_neg h1] at he
    exact absurd he (by decide)

theorem ext_put {t X : Tb} {ws : List Int} (h : Ext t X ws) {k : Int} (hk : k = 1 ∨ k = 2) {l : List Int} (hl : Clause.Wf l) (he : (putT X k l).2.2 = 0) : Ext t (putT X k l).1 (ws ++ [(putT X k l).2.1]) := by
  obtain ⟨e, h1, h2, h3⟩ := putT_zero h.ok he
  rw [e]
  obtain ⟨new, hn, hd, hi⟩ := h.new
  refine ⟨ok_put h.ok hk h1 h2 h3, h.depth, ⟨fun f hf => ?_, fun f hf => ?_⟩, new ++ [fresh X k (srt l)], ?_, fun x hx => ?_, ?_⟩
  · rcases List.mem_append.1 hf with hf | hf
    · exact h.wf.lits f hf
    · rw [List.mem_singleton] at hf
      subst hf
      exact fun x hx => hl x (srt_one l hx)
  · rcases List.mem_append.1 hf with hf | hf
    · exact h.wf.tags f hf
    · rw [List.mem_singleton] at hf
      subst hf
      have hl64 := h.ok.len
      have ha : (active X.facts).length ≤ X.facts.length := by
        unfold active
        rw [List.length_map]
        exact List.length_filter_le _ _
      show (if k = 2 then active X.facts else []).length * 8 ≤ _
      split
      · omega
      · simp
  · show X.facts ++ [_] = _
    rw [hn, List.append_assoc]
  · rcases List.mem_append.1 hx with hx | hx
    · exact hd x hx
    · rw [List.mem_singleton] at hx
      subst hx
      exact h.depth
  · rw [List.map_append, hi]
    rfl

theorem pop_ext {t X : Tb} {ws : List Int} (ht : Ok t) (h : Ext t X ws) : popT X = (⟨X.next, t.depth, t.facts⟩, ws, 0) := by
  obtain ⟨new, hn, hd, hi⟩ := h.new
  have h0 := ht.d0
  have hX := h.depth
  have g1 : gids (fun f => decide (X.depth ≤ f.depth)) X.facts = ws := by
    rw [hn, gids_new t.facts new (fun x hx => ?_) (fun x hx => ?_), hi]
    · have := (ht.each x hx).2.2.2.2.1
      exact decide_eq_false (by omega)
    · have := hd x hx
      exact decide_eq_true (by omega)
  have g2 : rest X.facts ws = t.facts := by
    have ho := h.ok.ord
    rw [hn, List.pairwise_append] at ho
    rw [hn]
    refine rest_new (fun x hx hm => ?_) (fun x hx => ?_)
    · rw [← hi] at hm
      obtain ⟨y, hy, e⟩ := List.mem_map.1 hm
      have := (ho.2.2 x hx y hy).1
      omega
    · rw [← hi]
      exact List.mem_map.2 ⟨x, hx, rfl⟩
  unfold popT
  rw [if_pos (ok_to h.ok), if_neg (by omega), g1, g2, hX]
  have e : t.depth + 1 - 1 = t.depth := by omega
  rw [e]
end Fact
end Go.Proofs.Ytgbpoeidpldmkaa
