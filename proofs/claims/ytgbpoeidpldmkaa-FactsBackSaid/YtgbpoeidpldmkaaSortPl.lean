/-
  Plain: sorted, each once. No program.
-/
import Derived.Test.YtgbpoeidpldmkaaBase
import Derived.Lib.SlicesCompact
namespace Go.Proofs.Ytgbpoeidpldmkaa.Vals
set_option linter.unusedVariables false
set_option linter.unusedSimpArgs false
open Go.Lib

theorem get_bang (xs : List Int) (j : Nat) (hj : j < xs.length) : xs.toArray[j]! = xs[j] := by
  simp [hj]

theorem compact_inv (xs : List Int) (hs : xs.Pairwise (· ≤ ·)) : ∀ m, m ≤ xs.length → (compactUpTo xs.toArray m).Pairwise (· < ·) ∧ (∀ x, x ∈ compactUpTo xs.toArray m ↔ ∃ j, j < m ∧ xs.toArray[j]! = x) := by
  intro m
  induction m with
  | zero => intro _; exact ⟨by simp [compactUpTo], by simp [compactUpTo]⟩
  | succ m ih =>
    intro hm
    obtain ⟨h1, h2⟩ := ih (by omega)
    rw [compactUpTo_succ]
    have hle : ∀ i j, i < j → j < xs.length → xs.toArray[i]! ≤ xs.toArray[j]! := by
      intro i j hij hj
      rw [get_bang xs i (by omega), get_bang xs j hj]
      exact List.pairwise_iff_getElem.1 hs i j (by omega) hj hij
    by_cases hk : keeps xs.toArray m = true
    · rw [if_pos hk]
      have hne : m = 0 ∨ xs.toArray[m]! ≠ xs.toArray[m - 1]! := by
        by_cases h0 : m = 0
        · exact .inl h0
        · refine .inr fun he => ?_
          rw [keeps_neg (by omega) he] at hk
          cases hk
      refine ⟨?_, ?_⟩
      · rw [List.pairwise_append]
        refine ⟨h1, by simp, ?_⟩
        intro y hy z hz
        rw [List.mem_singleton] at hz
        subst hz
        obtain ⟨j, hj, rfl⟩ := (h2 y).1 hy
        rcases hne with h0 | hne
        · omega
        · have h3 := hle (m - 1) m (by omega) (by omega)
          by_cases hjm : j = m - 1
          · subst hjm
            omega
          · have h4 := hle j (m - 1) (by omega) (by omega)
            omega
      · intro x
        rw [List.mem_append, h2, List.mem_singleton]
        constructor
        · rintro (⟨j, hj, rfl⟩ | rfl)
          · exact ⟨j, by omega, rfl⟩
          · exact ⟨m, by omega, rfl⟩
        · rintro ⟨j, hj, rfl⟩
          by_cases hjm : j = m
          · exact .inr (by rw [hjm])
          · exact .inl ⟨j, by omega, rfl⟩
    · rw [if_neg hk, List.append_nil]
      refine ⟨h1, fun x => ?_⟩
      rw [h2]
      have he : m ≠ 0 ∧ xs.toArray[m]! = xs.toArray[m - 1]! := by
        refine ⟨fun h0 => hk (keeps_lt_one _ _ (by omega)), ?_⟩
        exact Classical.byContradiction fun hne => hk (keeps_pos hne)
      constructor
      · rintro ⟨j, hj, rfl⟩
        exact ⟨j, by omega, rfl⟩
      · rintro ⟨j, hj, rfl⟩
        by_cases hjm : j = m
        · exact ⟨m - 1, by omega, by rw [hjm]; exact he.2.symm⟩
        · exact ⟨j, by omega, rfl⟩

/-- Rising, each once. -/
def srt (zs : List Int) : List Int := compactUpTo (zs.mergeSort (fun x y => decide (x ≤ y))).toArray (zs.mergeSort (fun x y => decide (x ≤ y))).length

theorem srt_spec (zs : List Int) : (srt zs).Pairwise (· < ·) ∧ ∀ x, x ∈ srt zs ↔ x ∈ zs := by
  have h1 : (zs.mergeSort (fun x y => decide (x ≤ y))).Pairwise (fun x y => decide (x ≤ y) = true) :=
    List.pairwise_mergeSort (fun a b c h1 h2 => by simp only [decide_eq_true_eq] at *; omega) (fun a b => by simp only [Bool.or_eq_true, decide_eq_true_eq]; omega) zs
  obtain ⟨h2, h3⟩ := compact_inv (zs.mergeSort (fun x y => decide (x ≤ y))) (h1.imp fun h => by simpa using h) _ (Nat.le_refl _)
  refine ⟨h2, fun x => ?_⟩
  have hm : x ∈ zs ↔ x ∈ zs.mergeSort (fun x y => decide (x ≤ y)) := (List.mergeSort_perm zs _).mem_iff.symm
  unfold srt
  rw [h3, hm]
  constructor
  · rintro ⟨j, hj, rfl⟩
    rw [get_bang _ j hj]
    exact List.getElem_mem hj
  · intro h
    obtain ⟨j, hj, rfl⟩ := List.mem_iff_getElem.1 h
    exact ⟨j, hj, get_bang _ j hj⟩

theorem srt_one (zs : List Int) {x : Int} (h : x ∈ srt zs) : x ∈ zs := ((srt_spec zs).2 x).1 h
end Go.Proofs.Ytgbpoeidpldmkaa.Vals
