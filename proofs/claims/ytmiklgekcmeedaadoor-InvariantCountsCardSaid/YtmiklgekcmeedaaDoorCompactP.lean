/-
  What slices.Compact leaves of a list in order rises strictly and has the same members: so a clause in order, by package clause, is the reference's. Plain lists, no program.
-/
import Derived.Test.YtmiklgekcmeedaaDoorNormS
import Derived.Lib.SlicesCompact
namespace Go.Proofs.YtmiklgekcmeedaaDoor.RefC
set_option linter.unusedVariables false
set_option linter.unusedSimpArgs false
open Go.Lib

def Le (a b : Int) : Prop := ¬ Less b a

theorem le_less {a b c : Int} (h1 : Le a b) (h2 : Le b c) (h : b ≠ c) : Less a c := by
  unfold Le at *
  rw [less_iff] at *
  omega

theorem get_bang (xs : List Int) (j : Nat) (hj : j < xs.length) : xs.toArray[j]! = xs[j] := by
  simp [hj]

theorem compact_inv (xs : List Int) (hs : xs.Pairwise Le) : ∀ m, m ≤ xs.length → (compactUpTo xs.toArray m).Pairwise Less ∧ (∀ x, x ∈ compactUpTo xs.toArray m ↔ ∃ j, j < m ∧ xs.toArray[j]! = x) := by
  intro m
  induction m with
  | zero => intro _; exact ⟨by simp [compactUpTo], by simp [compactUpTo]⟩
  | succ m ih =>
    intro hm
    obtain ⟨h1, h2⟩ := ih (by omega)
    rw [compactUpTo_succ]
    have hle : ∀ i j, i < j → j < xs.length → Le xs.toArray[i]! xs.toArray[j]! := by
      intro i j hij hj
      rw [get_bang xs i (by omega), get_bang xs j hj]
      exact List.pairwise_iff_getElem.1 hs i j (by omega) hj hij
    by_cases hk : keeps xs.toArray m = true
    · rw [if_pos hk]
      have hne : m = 0 ∨ xs.toArray[m]! ≠ xs.toArray[m - 1]! := by
        by_cases h0 : m = 0
        · exact .inl h0
        · refine .inr fun he => ?_
          rw [keeps_neg (by omega) he] at hk
          cases hk
      refine ⟨?_, ?_⟩
      · rw [List.pairwise_append]
        refine ⟨h1, by simp, ?_⟩
        intro y hy z hz
        rw [List.mem_singleton] at hz
        subst hz
        obtain ⟨j, hj, rfl⟩ := (h2 y).1 hy
        rcases hne with h0 | hne
        · omega
        · by_cases hjm : j = m - 1
          · subst hjm
            exact Classical.byContradiction fun hn => hne (Classical.byContradiction fun hne' => hn (less_total hne' (fun h => hle (m - 1) m (by omega) (by omega) h)))
          · exact le_less (hle j (m - 1) (by omega) (by omega)) (hle (m - 1) m (by omega) (by omega)) (fun e => hne e.symm)
      · intro x
        rw [List.mem_append, h2, List.mem_singleton]
        constructor
        · rintro (⟨j, hj, rfl⟩ | rfl)
          · exact ⟨j, by omega, rfl⟩
          · exact ⟨m, by omega, rfl⟩
        · rintro ⟨j, hj, rfl⟩
          by_cases hjm : j = m
          · exact .inr (by rw [hjm])
          · exact .inl ⟨j, by omega, rfl⟩
    · rw [if_neg hk, List.append_nil]
      refine ⟨h1, fun x => ?_⟩
      rw [h2]
      have he : m ≠ 0 ∧ xs.toArray[m]! = xs.toArray[m - 1]! := by
        refine ⟨fun h0 => hk (keeps_lt_one _ _ (by omega)), ?_⟩
        exact Classical.byContradiction fun hne => hk (keeps_pos hne)
      constructor
      · rintro ⟨j, hj, rfl⟩
        exact ⟨j, by omega, rfl⟩
      · rintro ⟨j, hj, rfl⟩
        by_cases hjm : j = m
        · exact ⟨m - 1, by omega, by rw [hjm]; exact he.2.symm⟩
        · exact ⟨j, by omega, rfl⟩

/-- Sorted, each once, no 0: the clause in order. -/
theorem compact_norm (l xs : List Int) (hp : xs.Perm (l.filter fun x => !decide (x = 0))) (hs : xs.Pairwise Le) : compactUpTo xs.toArray xs.length = norm l := by
  obtain ⟨h1, h2⟩ := compact_inv xs hs xs.length (Nat.le_refl _)
  refine sorted_ext _ _ h1 (norm_sorted l) fun x => ?_
  rw [h2, mem_norm]
  have hm : (∃ j, j < xs.length ∧ xs.toArray[j]! = x) ↔ x ∈ xs := by
    constructor
    · rintro ⟨j, hj, rfl⟩
      rw [get_bang xs j hj]
      exact List.getElem_mem hj
    · intro hx
      obtain ⟨j, hj, rfl⟩ := List.getElem_of_mem hx
      exact ⟨j, hj, get_bang xs j hj⟩
  rw [hm, hp.mem_iff]
  simp

end Go.Proofs.YtmiklgekcmeedaaDoor.RefC
