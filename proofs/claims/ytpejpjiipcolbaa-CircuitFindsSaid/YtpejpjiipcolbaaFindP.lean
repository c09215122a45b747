/-
  Plain: of a circuit that may be each name's literal is found, and is of something.
-/
import Derived.Test.YtpejpjiipcolbaaFind
import Derived.Test.YtpejpjiipcolbaaCheckP
namespace Go.Proofs.Ytpejpjiipcolbaa
open Go.RowKit Base
set_option linter.unusedVariables false
set_option linter.unusedSimpArgs false
namespace Circuit

theorem lit_known {x : Circ} (h : CheckOk x) {k : ByteArray} {n : Nat} (hn : n < countOf x k) : KnR x (litOf x k n) := by
  obtain ⟨hf, ⟨hd, _, _⟩, _, _, ho, hb, hv, _⟩ := h
  have hown := own_two ((own_iff hf.1).1 hd)
  have hk := knR_iff hown
  have hmem : ∀ m ∈ ownL x, KnR x m := fun m hm => by
    have h2 := hown m hm
    refine ⟨by omega, (full_iff x _).2 (Or.inr ⟨m, hm, by omega, by unfold var; omega⟩)⟩
  unfold litOf countOf at *
  split
  · rename_i h1
    rw [if_pos h1] at hn
    rw [List.getD_eq_getElem?_getD, List.getElem?_eq_getElem hn]
    apply hmem
    unfold ownL
    rw [List.mem_append, List.mem_append]
    exact Or.inl (Or.inl (List.getElem_mem hn))
  · rename_i h1
    rw [if_neg h1] at hn
    split
    · rename_i h2
      rw [if_pos h2] at hn
      rw [List.getD_eq_getElem?_getD, List.getElem?_eq_getElem hn]
      apply hmem
      unfold ownL
      rw [List.mem_append, List.mem_append]
      exact Or.inl (Or.inr (List.mem_map.2 ⟨x.lats[n], List.getElem_mem hn, rfl⟩))
    · rename_i h2
      rw [if_neg h2] at hn
      split
      · rename_i h3
        rw [if_pos h3] at hn
        rw [List.getD_eq_getElem?_getD, List.getElem?_eq_getElem hn]
        exact (hk _).2 (ho _ (List.getElem_mem hn))
      · rename_i h3
        rw [if_neg h3] at hn
        split
        · rename_i h4
          rw [if_pos h4] at hn
          rw [List.getD_eq_getElem?_getD, List.getElem?_eq_getElem hn]
          exact (hk _).2 (hb _ (List.getElem_mem hn))
        · rename_i h4
          rw [if_neg h4] at hn
          rw [List.getD_eq_getElem?_getD, List.getElem?_eq_getElem hn]
          exact (hk _).2 (hv _ (List.getElem_mem hn))

theorem lit_64 {x : Circ} (hw : WfC x) {k : ByteArray} {n : Nat} (hn : n < countOf x k) : I64 (litOf x k n) := by
  unfold litOf countOf at *
  split
  · rename_i h1
    rw [if_pos h1] at hn
    rw [List.getD_eq_getElem?_getD, List.getElem?_eq_getElem hn]
    exact hw.ins _ (List.getElem_mem hn)
  · rename_i h1
    rw [if_neg h1] at hn
    split
    · rename_i h2
      rw [if_pos h2] at hn
      rw [List.getD_eq_getElem?_getD, List.getElem?_eq_getElem hn]
      exact (hw.lats _ (List.getElem_mem hn)).1
    · rename_i h2
      rw [if_neg h2] at hn
      split
      · rename_i h3
        rw [if_pos h3] at hn
        rw [List.getD_eq_getElem?_getD, List.getElem?_eq_getElem hn]
        exact hw.outs _ (List.getElem_mem hn)
      · rename_i h3
        rw [if_neg h3] at hn
        split
        · rename_i h4
          rw [if_pos h4] at hn
          rw [List.getD_eq_getElem?_getD, List.getElem?_eq_getElem hn]
          exact hw.bads _ (List.getElem_mem hn)
        · rename_i h4
          rw [if_neg h4] at hn
          rw [List.getD_eq_getElem?_getD, List.getElem?_eq_getElem hn]
          exact hw.invs _ (List.getElem_mem hn)

theorem name_found {x : Circ} (h : CheckOk x) (hw : WfC x) {t : NameT} (ht : t ∈ x.names) : ∃ l, findOf x t.2.2 = some l ∧ KnR x l ∧ I64 l := by
  have hn := h.2.2.2.2.2.2.2
  obtain ⟨j, hj, rfl⟩ := List.mem_iff_getElem.1 ht
  obtain ⟨c, _, _, h0, h1, _⟩ := (hn j hj hj).1
  have hh : hit x x.names[j].2.2 x.names[j] = true := by
    unfold hit
    rw [Bool.and_eq_true, Bool.and_eq_true, decide_eq_true_iff, decide_eq_true_iff]
    exact ⟨by simp, h0, h1⟩
  unfold findOf
  cases hfi : x.names.find? (hit x x.names[j].2.2) with
  | none =>
    rw [List.find?_eq_none] at hfi
    exact absurd hh (hfi _ ht)
  | some t' =>
    have hp := List.find?_some hfi
    unfold hit at hp
    rw [Bool.and_eq_true, Bool.and_eq_true, decide_eq_true_iff, decide_eq_true_iff] at hp
    exact ⟨_, rfl, lit_known h (by have := hp.2; omega), lit_64 hw (by have := hp.2; omega)⟩

end Circuit
end Go.Proofs.Ytpejpjiipcolbaa
