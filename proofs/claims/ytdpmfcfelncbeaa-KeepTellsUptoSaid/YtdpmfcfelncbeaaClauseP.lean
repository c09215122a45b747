/-
  Clauses as plain lists: in order again; always true; resolved; what a model makes of them. No program.
-/
import Derived.Test.YtdpmfcfelncbeaaNormS
import Derived.Test.YtdpmfcfelncbeaaCubeP
namespace Go.Proofs.Ytdpmfcfelncbeaa.Clause
set_option linter.unusedVariables false
set_option linter.unusedSimpArgs false
open RefC (norm always alw Less less_iff less_trans less_irrefl less_asymm)
open Go.RowKit

def resolve (a b : List Int) (v : Int) : List Int × Int :=
  if v < 1 ∨ v ∉ a ∨ -v ∉ b then ([], 71) else (norm (a.filter (fun x => !decide (x = v)) ++ b.filter (fun x => !decide (x = -v))), 0)

theorem norm_wf {l : List Int} (h : Wf l) : Wf (norm l) := fun y hy => h y (RefC.mem_norm.1 hy).1

theorem norm_len (l : List Int) : (norm l).length ≤ l.length := by
  have := RefC.norm_len l l.length
  rwa [List.take_length] at this

theorem norm_norm (l : List Int) : norm (norm l) = norm l := by
  refine RefC.sorted_ext _ _ (RefC.norm_sorted _) (RefC.norm_sorted _) fun x => ?_
  rw [RefC.mem_norm, RefC.mem_norm]
  exact ⟨fun h => h.1, fun h => ⟨h, h.2⟩⟩

def both (l : List Int) : Bool := l.any fun x => decide (0 < x) && l.any fun y => decide (y = -x)

theorem both_iff {l : List Int} : both l = true ↔ ∃ x, x ∈ l ∧ 0 < x ∧ -x ∈ l := by
  unfold both
  simp only [List.any_eq_true, Bool.and_eq_true, decide_eq_true_eq]
  constructor
  · rintro ⟨x, hx, h0, y, hy, rfl⟩
    exact ⟨x, hx, h0, hy⟩
  · rintro ⟨x, hx, h0, hy⟩
    exact ⟨x, hx, h0, _, hy, rfl⟩

theorem always_iff {L : List Int} : always L = true ↔ ∃ i, ∃ h : i + 1 < L.length, L[i] = wrap64 (-L[i + 1]) := by
  unfold always alw
  rw [List.any_eq_true]
  constructor
  · rintro ⟨i, hi, h⟩
    rw [List.mem_range] at hi
    refine ⟨i, by omega, ?_⟩
    rw [List.getD_eq_getElem?_getD, List.getD_eq_getElem?_getD, List.getElem?_eq_getElem (by omega), List.getElem?_eq_getElem (by omega)] at h
    simpa using h
  · rintro ⟨i, hi, h⟩
    refine ⟨i, List.mem_range.2 (by omega), ?_⟩
    rw [List.getD_eq_getElem?_getD, List.getD_eq_getElem?_getD, List.getElem?_eq_getElem (by omega), List.getElem?_eq_getElem (by omega)]
    simpa using h

theorem wrap_neg {x : Int} (h0 : -9223372036854775808 < x) (h1 : x ≤ 9223372036854775807) : wrap64 (-x) = -x := by
  unfold wrap64; omega

theorem always_both {l : List Int} (hw : Wf l) : always (norm l) = both l := by
  have hs := List.pairwise_iff_getElem.1 (RefC.norm_sorted l)
  rw [Bool.eq_iff_iff, always_iff, both_iff]
  constructor
  · rintro ⟨i, hi, he⟩
    have m0 := RefC.mem_norm.1 (List.getElem_mem (l := norm l) (n := i) (by omega))
    have m1 := RefC.mem_norm.1 (List.getElem_mem (l := norm l) (n := i + 1) hi)
    have hl := hs i (i + 1) (by omega) hi (by omega)
    generalize (norm l)[i] = y at *
    generalize (norm l)[i + 1] = z at *
    have hz := hw z m1.1
    by_cases hm : z = -9223372036854775808
    · subst hm
      have : y = -9223372036854775808 := by rw [he]; unfold wrap64; omega
      rw [this] at hl
      exact absurd hl (less_irrefl _)
    · rw [wrap_neg (by omega) hz.2] at he
      have hz0 := m1.2
      by_cases hp : 0 < z
      · exact ⟨z, m1.1, hp, by rw [← he]; exact m0.1⟩
      · exact ⟨y, m0.1, by omega, by rw [he, Int.neg_neg]; exact m1.1⟩
  · rintro ⟨x, hx, h0, hn⟩
    obtain ⟨i, hi, ei⟩ := List.getElem_of_mem (RefC.mem_norm.2 ⟨hn, by omega⟩)
    obtain ⟨j, hj, ej⟩ := List.getElem_of_mem (RefC.mem_norm.2 ⟨hx, by omega⟩)
    have hxw := hw x hx
    have ax : absI x = x := by unfold absI; rw [if_neg (by omega)]; omega
    have an : absI (-x) = x := by unfold absI; rw [if_neg (by omega)]; omega
    have hlt : Less (-x) x := by rw [less_iff, ax, an]; omega
    have hij : i < j := by
      rcases Nat.lt_trichotomy i j with h | h | h
      · exact h
      · subst h; omega
      · have := hs j i hj hi h
        rw [ei, ej] at this
        exact absurd this (fun h => less_asymm h hlt)
    have hj1 : j = i + 1 := by
      refine Classical.byContradiction fun hne => ?_
      have h1 := hs i (i + 1) hi (by omega) (by omega)
      have h2 := hs (i + 1) j (by omega) hj (by omega)
      rw [ei] at h1
      rw [ej] at h2
      generalize (norm l)[i + 1] = y at *
      rw [less_iff, an] at h1
      rw [less_iff, ax] at h2
      unfold absI at h1 h2
      split at h1 <;> omega
    subst hj1
    refine ⟨i, hj, ?_⟩
    rw [ei, ej, wrap_neg (by omega) hxw.2]

/-! ### Models. -/
theorem is_zero (s : List UInt8) : CubeP.is s 0 = false := by unfold CubeP.is; simp

theorem any_norm (s : List UInt8) (l : List Int) : (norm l).any (CubeP.is s) = l.any (CubeP.is s) := by
  rw [Bool.eq_iff_iff, List.any_eq_true, List.any_eq_true]
  constructor
  · rintro ⟨x, hx, h⟩
    exact ⟨x, (RefC.mem_norm.1 hx).1, h⟩
  · rintro ⟨x, hx, h⟩
    refine ⟨x, RefC.mem_norm.2 ⟨hx, ?_⟩, h⟩
    rintro rfl
    rw [is_zero] at h
    cases h

theorem any_subs {s : List UInt8} {a b : List Int} (h : ∀ x ∈ a, x ∈ b) (ha : a.any (CubeP.is s) = true) : b.any (CubeP.is s) = true := by
  rw [List.any_eq_true] at *
  obtain ⟨x, hx, h'⟩ := ha
  exact ⟨x, h x hx, h'⟩

theorem is_not_both {s : List UInt8} {v : Int} (hv : 1 ≤ v) (h1 : CubeP.is s v = true) (h2 : CubeP.is s (-v) = true) : False := by
  unfold CubeP.is at h1 h2
  simp only [Bool.and_eq_true, decide_eq_true_eq, beq_iff_eq] at h1 h2
  rw [show max (-v) (- -v) = max v (-v) by omega] at h2
  have e := h1.2.symm.trans h2.2
  rw [decide_eq_true (by omega : 0 < v), decide_eq_false (by omega : ¬ 0 < -v)] at e
  cases e

theorem resolve_sound {s : List UInt8} {a b : List Int} {v : Int} (hv : 1 ≤ v) (ha : a.any (CubeP.is s) = true) (hb : b.any (CubeP.is s) = true) :
    (norm (a.filter (fun x => !decide (x = v)) ++ b.filter (fun x => !decide (x = -v)))).any (CubeP.is s) = true := by
  rw [any_norm, List.any_append, Bool.or_eq_true, List.any_filter, List.any_filter, List.any_eq_true, List.any_eq_true]
  rw [List.any_eq_true] at ha hb
  obtain ⟨x, hx, h1⟩ := ha
  obtain ⟨y, hy, h2⟩ := hb
  by_cases hxv : x = v
  · refine .inr ⟨y, hy, ?_⟩
    rw [Bool.and_eq_true]
    refine ⟨?_, h2⟩
    simp only [Bool.not_eq_eq_eq_not, Bool.not_true, decide_eq_false_iff_not]
    rintro rfl
    subst hxv
    exact is_not_both hv h1 h2
  · exact .inl ⟨x, hx, by simp [hxv, h1]⟩

end Go.Proofs.Ytdpmfcfelncbeaa.Clause
