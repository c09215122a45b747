/-
  The reference's order of literals is a strict order; what it brings in order rises strictly; two lists that rise strictly and have the same members are one. Plain lists, no program.
-/
import Derived.Test.YtmiklgekcmeedaaDoorNormP
namespace Go.Proofs.YtmiklgekcmeedaaDoor.RefC
set_option linter.unusedVariables false
set_option linter.unusedSimpArgs false

def Less (a b : Int) : Prop := lessB a b = true

theorem less_iff {a b : Int} : Less a b ↔ Clause.absI a < Clause.absI b ∨ (Clause.absI a = Clause.absI b ∧ a < b) := by
  unfold Less lessB; simp

theorem less_irrefl (a : Int) : ¬ Less a a := by rw [less_iff]; omega
theorem less_trans {a b c : Int} (h1 : Less a b) (h2 : Less b c) : Less a c := by rw [less_iff] at *; omega
theorem less_asymm {a b : Int} (h1 : Less a b) (h2 : Less b a) : False := less_irrefl a (less_trans h1 h2)
theorem less_total {a b : Int} (h : a ≠ b) (h1 : ¬ Less a b) : Less b a := by rw [less_iff] at *; omega

theorem sorted_ext : ∀ (l1 l2 : List Int), l1.Pairwise Less → l2.Pairwise Less → (∀ x, x ∈ l1 ↔ x ∈ l2) → l1 = l2 := by
  intro l1
  induction l1 with
  | nil =>
    intro l2 _ _ h
    cases l2 with
    | nil => rfl
    | cons y t => exact absurd ((h y).2 List.mem_cons_self) (by simp)
  | cons x t ih =>
    intro l2 h1 h2 h
    cases l2 with
    | nil => exact absurd ((h x).1 List.mem_cons_self) (by simp)
    | cons y u =>
      obtain ⟨hx, ht⟩ := List.pairwise_cons.1 h1
      obtain ⟨hy, hu⟩ := List.pairwise_cons.1 h2
      have hxy : x = y := by
        refine Classical.byContradiction fun hne => ?_
        have a1 : x ∈ u := by
          rcases List.mem_cons.1 ((h x).1 List.mem_cons_self) with e | e
          · exact absurd e hne
          · exact e
        have a2 : y ∈ t := by
          rcases List.mem_cons.1 ((h y).2 List.mem_cons_self) with e | e
          · exact absurd e.symm hne
          · exact e
        exact less_asymm (hx y a2) (hy x a1)
      subst hxy
      congr 1
      refine ih u ht hu fun z => ⟨fun hz => ?_, fun hz => ?_⟩
      · rcases List.mem_cons.1 ((h z).1 (List.mem_cons_of_mem _ hz)) with e | e
        · exact absurd (hx z hz) (by rw [e]; exact less_irrefl x)
        · exact e
      · rcases List.mem_cons.1 ((h z).2 (List.mem_cons_of_mem _ hz)) with e | e
        · exact absurd (hy z hz) (by rw [e]; exact less_irrefl x)
        · exact e

theorem ins_cons (x y : Int) (r : List Int) : ins x (y :: r) = if lessB y x = true then y :: ins x r else x :: y :: r := by
  unfold ins
  by_cases h : lessB y x = true
  · simp [h]
  · simp [h]

theorem ins_sorted (x : Int) (out : List Int) (hx : x ∉ out) (h : out.Pairwise Less) : (ins x out).Pairwise Less := by
  induction out with
  | nil => simp [ins]
  | cons y r ih =>
    obtain ⟨hy, hr⟩ := List.pairwise_cons.1 h
    rw [ins_cons]
    by_cases hl : lessB y x = true
    · rw [if_pos hl, List.pairwise_cons]
      refine ⟨fun z hz => ?_, ih (fun hm => hx (List.mem_cons_of_mem _ hm)) hr⟩
      rcases mem_ins.1 hz with rfl | hz
      · exact hl
      · exact hy z hz
    · rw [if_neg hl, List.pairwise_cons]
      have hxy : Less x y := less_total (fun e => hx (by rw [e]; exact List.mem_cons_self)) hl
      refine ⟨fun z hz => ?_, h⟩
      rcases List.mem_cons.1 hz with rfl | hz
      · exact hxy
      · exact less_trans hxy (hy z hz)

theorem put1_sorted (out : List Int) (x : Int) (h : out.Pairwise Less) : (put1 out x).Pairwise Less := by
  unfold put1
  by_cases hc : x = 0 ∨ x ∈ out
  · rw [if_pos hc]; exact h
  · rw [if_neg hc]; exact ins_sorted x out (fun hm => hc (.inr hm)) h

theorem foldl_sorted (l out : List Int) (h : out.Pairwise Less) : (l.foldl put1 out).Pairwise Less := by
  induction l generalizing out with
  | nil => exact h
  | cons x r ih => exact ih _ (put1_sorted out x h)

theorem norm_sorted (l : List Int) : (norm l).Pairwise Less := foldl_sorted l [] List.Pairwise.nil

theorem mem_put1 {out : List Int} {x y : Int} : y ∈ put1 out x ↔ y ∈ out ∨ (y = x ∧ x ≠ 0) := by
  unfold put1
  by_cases hc : x = 0 ∨ x ∈ out
  · rw [if_pos hc]
    refine ⟨.inl, ?_⟩
    rintro (h | ⟨rfl, h0⟩)
    · exact h
    · rcases hc with h | h
      · exact absurd h h0
      · exact h
  · rw [if_neg hc, mem_ins]
    constructor
    · rintro (h | h)
      · exact .inr ⟨h, fun e => hc (.inl e)⟩
      · exact .inl h
    · rintro (h | ⟨h, _⟩)
      · exact .inr h
      · exact .inl h

theorem mem_foldl {l out : List Int} {y : Int} : y ∈ l.foldl put1 out ↔ y ∈ out ∨ (y ∈ l ∧ y ≠ 0) := by
  induction l generalizing out with
  | nil => simp
  | cons x r ih =>
    rw [List.foldl_cons, ih, mem_put1, List.mem_cons]
    constructor
    · rintro ((h | ⟨rfl, h⟩) | ⟨h, h0⟩)
      · exact .inl h
      · exact .inr ⟨.inl rfl, h⟩
      · exact .inr ⟨.inr h, h0⟩
    · rintro (h | ⟨rfl | h, h0⟩)
      · exact .inl (.inl h)
      · exact .inl (.inr ⟨rfl, h0⟩)
      · exact .inr ⟨h, h0⟩

theorem mem_norm {l : List Int} {y : Int} : y ∈ norm l ↔ y ∈ l ∧ y ≠ 0 := by
  unfold norm
  rw [mem_foldl]
  simp

end Go.Proofs.YtmiklgekcmeedaaDoor.RefC
