/-
  Frames of clauses, as plain lists: what is added is covered, added again it stays; what holds of models. No program.
-/
import Derived.Test.YteamijldmhcicaaDeltaP
import Derived.Test.YteamijldmhcicaaCubeP
namespace Go.Proofs.Yteamijldmhcicaa.Delta
set_option linter.unusedVariables false
set_option linter.unusedSimpArgs false
open RefC (norm always)
open Clause (subs)

theorem add_res (F : List (List (List Int))) (level : Int) (l : List Int) :
    ((add F level l).1 = [] ∧ ((add F level l).2 = 4 ∨ (add F level l).2 = 23)) ∨
    (0 ≤ level ∧ level < F.length ∧ always (norm l) = false ∧ (add F level l).2 = 0 ∧ (add F level l).1 = if covered F level.toNat (norm l) = true then F else addL F level.toNat (norm l)) := by
  unfold add
  split
  · exact .inl ⟨rfl, .inl rfl⟩
  · rename_i h
    split
    · exact .inl ⟨rfl, .inr rfl⟩
    · rename_i h2
      refine .inr ⟨by omega, by omega, by simpa using h2, ?_⟩
      split
      · exact ⟨rfl, rfl⟩
      · exact ⟨rfl, rfl⟩

theorem addL_len (F : List (List (List Int))) (lev : Nat) (x : List Int) : (addL F lev x).length = F.length := by
  unfold addL; rw [List.length_set, cut_len]

/-- Row i of what was added to. -/
theorem addL_get {F : List (List (List Int))} {lev : Nat} {x : List Int} (hl : lev < F.length) {i : Nat} (hi : i < F.length) :
    (addL F lev x)[i]? = some (if i < lev then F[i].filter fun y => !subs x y else if i = lev then (F[i].filter fun y => !subs x y) ++ [x] else F[i]) := by
  unfold addL
  by_cases h : i = lev
  · subst h
    rw [List.getElem?_set_self (by rw [cut_len]; exact hi), if_neg (by omega), if_pos rfl, List.getD_eq_getElem?_getD, cut_last hi]
    rfl
  · rw [List.getElem?_set_ne (fun e => h e.symm)]
    unfold cut
    by_cases h2 : i < lev
    · rw [if_pos h2, List.getElem?_append_left (by simp; omega), List.getElem?_map, List.getElem?_take_of_lt (by omega), List.getElem?_eq_getElem hi]
      rfl
    · have ht : ((F.take (lev + 1)).map fun r => r.filter fun y => !subs x y).length = lev + 1 := by simp; omega
      rw [if_neg h2, if_neg h, List.getElem?_append_right (by omega), ht, List.getElem?_drop, ← List.getElem?_eq_getElem hi]
      congr 1
      omega

theorem mem_atL {F : List (List (List Int))} {i : Nat} {y : List Int} : y ∈ atL F i ↔ ∃ k, ∃ h : k < F.length, i ≤ k ∧ y ∈ F[k] := by
  unfold atL
  rw [List.mem_flatten]
  constructor
  · rintro ⟨r, hr, hy⟩
    obtain ⟨j, hj, rfl⟩ := List.mem_iff_getElem.1 hr
    rw [List.length_drop] at hj
    rw [List.getElem_drop] at hy
    exact ⟨i + j, by omega, by omega, hy⟩
  · rintro ⟨k, hk, hik, hy⟩
    refine ⟨F[k], ?_, hy⟩
    rw [List.mem_iff_getElem]
    exact ⟨k - i, by rw [List.length_drop]; omega, by rw [List.getElem_drop]; congr 1; omega⟩

theorem mem_addL {F : List (List (List Int))} {lev : Nat} {x : List Int} (hl : lev < F.length) {i : Nat} {y : List Int} :
    y ∈ atL (addL F lev x) i ↔ (i ≤ lev ∧ y = x) ∨ ∃ k, ∃ h : k < F.length, i ≤ k ∧ y ∈ F[k] ∧ (lev < k ∨ subs x y = false) := by
  rw [mem_atL]
  constructor
  · rintro ⟨k, hk, hik, hy⟩
    have hk' : k < F.length := by rwa [addL_len] at hk
    have he : (addL F lev x)[k] = _ := Option.some.inj ((List.getElem?_eq_getElem hk).symm.trans (addL_get hl hk'))
    rw [he] at hy
    split at hy
    · rw [List.mem_filter] at hy
      exact .inr ⟨k, hk', hik, hy.1, .inr (by simpa using hy.2)⟩
    · split at hy
      · rw [List.mem_append, List.mem_filter, List.mem_singleton] at hy
        rcases hy with hy | hy
        · exact .inr ⟨k, hk', hik, hy.1, .inr (by simpa using hy.2)⟩
        · exact .inl ⟨by omega, hy⟩
      · exact .inr ⟨k, hk', hik, hy, .inl (by omega)⟩
  · rintro (⟨hi, rfl⟩ | ⟨k, hk, hik, hy, hor⟩)
    · refine ⟨lev, by rw [addL_len]; exact hl, hi, ?_⟩
      have he : (addL F lev y)[lev]'(by rw [addL_len]; exact hl) = _ := Option.some.inj ((List.getElem?_eq_getElem (by rw [addL_len]; exact hl)).symm.trans (addL_get hl hl))
      rw [he, if_neg (by omega), if_pos rfl]
      simp
    · refine ⟨k, by rw [addL_len]; exact hk, hik, ?_⟩
      have he : (addL F lev x)[k]'(by rw [addL_len]; exact hk) = _ := Option.some.inj ((List.getElem?_eq_getElem (by rw [addL_len]; exact hk)).symm.trans (addL_get hl hk))
      rw [he]
      have hf : k ≤ lev → y ∈ F[k].filter fun y => !subs x y := fun h => by
        rw [List.mem_filter]
        refine ⟨hy, ?_⟩
        rcases hor with hor | hor
        · omega
        · simp [hor]
      split
      · exact hf (by omega)
      · split
        · rw [List.mem_append]; exact .inl (hf (by omega))
        · exact hy

theorem subs_self (x : List Int) : subs x x = true := Clause.subs_iff.2 fun _ h => h

theorem covered_iff {F : List (List (List Int))} {i : Nat} {l : List Int} : covered F i l = true ↔ ∃ y ∈ atL F i, subs y l = true := by
  unfold covered; rw [List.any_eq_true]

/-- What was added is covered there and at all levels ahead. -/
theorem again_cov {F : List (List (List Int))} {level : Int} {l : List Int} (h : (add F level l).2 = 0) {i : Nat} (hi : i ≤ level.toNat) : covered (add F level l).1 i (norm l) = true := by
  rcases add_res F level l with ⟨_, h4 | h4⟩ | ⟨h0, h1, ha, he, hF⟩
  · omega
  · omega
  · rw [hF]
    split
    · rename_i hc
      obtain ⟨y, hy, hs⟩ := covered_iff.1 hc
      obtain ⟨k, hk, hik, hy⟩ := mem_atL.1 hy
      exact covered_iff.2 ⟨y, mem_atL.2 ⟨k, hk, by omega, hy⟩, hs⟩
    · exact covered_iff.2 ⟨norm l, (mem_addL (by omega)).2 (.inl ⟨hi, rfl⟩), subs_self _⟩

theorem add_len {F : List (List (List Int))} {level : Int} {l : List Int} (h : (add F level l).2 = 0) : (add F level l).1.length = F.length := by
  rcases add_res F level l with ⟨_, h4 | h4⟩ | ⟨h0, h1, ha, he, hF⟩
  · omega
  · omega
  · rw [hF]
    split
    · rfl
    · exact addL_len _ _ _

/-- Added again it changes nothing. -/
theorem again_same {F : List (List (List Int))} {level : Int} {l : List Int} (h : (add F level l).2 = 0) : add (add F level l).1 level l = ((add F level l).1, 0) := by
  have hc := again_cov h (Nat.le_refl _)
  have hn := add_len h
  rcases add_res F level l with ⟨_, h4 | h4⟩ | ⟨h0, h1, ha, he, hF⟩
  · omega
  · omega
  · generalize (add F level l).1 = G at *
    unfold add
    rw [if_neg (by omega), if_neg (by simp [ha]), if_pos hc]

/-- What an added frame's rows weigh. -/
theorem add_rows {F : List (List (List Int))} {level : Int} {l : List Int} : ∀ r ∈ (add F level l).1, (∃ k, ∃ h : k < F.length, r.length ≤ F[k].length + 1) ∧ ∀ y ∈ r, y = norm l ∨ ∃ q ∈ F, y ∈ q := by
  intro r hr
  rcases add_res F level l with ⟨h, _⟩ | ⟨h0, h1, ha, he, hF⟩
  · rw [h] at hr; cases hr
  · rw [hF] at hr
    split at hr
    · obtain ⟨k, hk, rfl⟩ := List.mem_iff_getElem.1 hr
      exact ⟨⟨k, hk, by omega⟩, fun y hy => .inr ⟨_, hr, hy⟩⟩
    · obtain ⟨k, hk, rfl⟩ := List.mem_iff_getElem.1 hr
      have hk' : k < F.length := by rwa [addL_len] at hk
      have he : (addL F level.toNat (norm l))[k] = _ := Option.some.inj ((List.getElem?_eq_getElem hk).symm.trans (addL_get (by omega) hk'))
      rw [he]
      have hf := List.length_filter_le (fun y => !subs (norm l) y) F[k]
      split
      · exact ⟨⟨k, hk', by omega⟩, fun y hy => .inr ⟨_, List.getElem_mem hk', (List.mem_filter.1 hy).1⟩⟩
      · split
        · refine ⟨⟨k, hk', by rw [List.length_append]; simp; omega⟩, fun y hy => ?_⟩
          rw [List.mem_append, List.mem_singleton] at hy
          rcases hy with hy | hy
          · exact .inr ⟨_, List.getElem_mem hk', (List.mem_filter.1 hy).1⟩
          · exact .inl hy
        · exact ⟨⟨k, hk', by omega⟩, fun y hy => .inr ⟨_, List.getElem_mem hk', hy⟩⟩

theorem flat_cut (F : List (List (List Int))) (x : List Int) (k : Nat) : (cut F x k).flatten.length ≤ F.flatten.length := by
  unfold cut
  conv => rhs; rw [← List.take_append_drop k F]
  rw [List.flatten_append, List.flatten_append, List.length_append, List.length_append]
  refine Nat.add_le_add_right ?_ _
  generalize F.take k = G
  induction G with
  | nil => simp
  | cons r G ih =>
    simp only [List.map_cons, List.flatten_cons, List.length_append]
    have := List.length_filter_le (fun y => !subs x y) r
    omega

theorem flat_set (F : List (List (List Int))) (i : Nat) (x : List Int) : (F.set i (F.getD i [] ++ [x])).flatten.length ≤ F.flatten.length + 1 := by
  induction F generalizing i with
  | nil => simp
  | cons r F ih =>
    cases i with
    | zero => simp; omega
    | succ i =>
      have := ih i
      simp only [List.set_cons_succ, List.flatten_cons, List.length_append, List.getD_cons_succ] at this ⊢
      omega

theorem add_flat (F : List (List (List Int))) (level : Int) (l : List Int) : (add F level l).1.flatten.length ≤ F.flatten.length + 1 := by
  rcases add_res F level l with ⟨h, _⟩ | ⟨h0, h1, ha, he, hF⟩
  · rw [h]; simp
  · rw [hF]
    split
    · omega
    · unfold addL
      have h1 := flat_set (cut F (norm l) (level.toNat + 1)) level.toNat (norm l)
      have h2 := flat_cut F (norm l) (level.toNat + 1)
      omega

/-- Is a model within clauses? -/
def inM (s : List UInt8) (L : List (List Int)) : Bool := L.all fun x => x.any (CubeP.is s)

theorem inM_iff {s : List UInt8} {L : List (List Int)} : inM s L = true ↔ ∀ x ∈ L, x.any (CubeP.is s) = true := by
  unfold inM; rw [List.all_eq_true]

theorem holds_next {s : List UInt8} {F : List (List (List Int))} {i j : Nat} (hij : i ≤ j) (h : inM s (atL F i) = true) : inM s (atL F j) = true := by
  rw [inM_iff] at h ⊢
  intro x hx
  obtain ⟨k, hk, hik, hx⟩ := mem_atL.1 hx
  exact h x (mem_atL.2 ⟨k, hk, by omega, hx⟩)

theorem holds_was {s : List UInt8} {F : List (List (List Int))} {level : Int} {l : List Int} (h : (add F level l).2 = 0) {i : Nat} (hm : inM s (atL (add F level l).1 i) = true) : inM s (atL F i) = true := by
  rcases add_res F level l with ⟨_, h4 | h4⟩ | ⟨h0, h1, ha, he, hF⟩
  · omega
  · omega
  · rw [hF] at hm
    split at hm
    · exact hm
    · rw [inM_iff] at hm ⊢
      intro y hy
      obtain ⟨k, hk, hik, hy⟩ := mem_atL.1 hy
      by_cases hs : level.toNat < k ∨ subs (norm l) y = false
      · exact hm y ((mem_addL (by omega)).2 (.inr ⟨k, hk, hik, hy, hs⟩))
      · have hk2 : k ≤ level.toNat := by omega
        have hsub : subs (norm l) y = true := by
          cases hq : subs (norm l) y
          · exact absurd (.inr hq) hs
          · rfl
        exact Clause.any_subs (Clause.subs_iff.1 hsub) (hm _ ((mem_addL (by omega)).2 (.inl ⟨by omega, rfl⟩)))

theorem holds_now {s : List UInt8} {F : List (List (List Int))} {level : Int} {l : List Int} (h : (add F level l).2 = 0) {i : Nat} (hm : inM s (atL F i) = true) (hl : l.any (CubeP.is s) = true ∨ level.toNat < i) : inM s (atL (add F level l).1 i) = true := by
  rcases add_res F level l with ⟨_, h4 | h4⟩ | ⟨h0, h1, ha, he, hF⟩
  · omega
  · omega
  · rw [hF]
    split
    · exact hm
    · rw [inM_iff] at hm ⊢
      intro y hy
      rcases (mem_addL (by omega)).1 hy with ⟨hi, rfl⟩ | ⟨k, hk, hik, hy, _⟩
      · rw [Clause.any_norm]
        rcases hl with hl | hl
        · exact hl
        · omega
      · exact hm y (mem_atL.2 ⟨k, hk, hik, hy⟩)

theorem holds_one {s : List UInt8} {F : List (List (List Int))} {level : Int} {l : List Int} (h : (add F level l).2 = 0) {i : Nat} (hi : i ≤ level.toNat) (hm : inM s (atL (add F level l).1 i) = true) : l.any (CubeP.is s) = true := by
  obtain ⟨y, hy, hs⟩ := covered_iff.1 (again_cov h hi)
  rw [← Clause.any_norm]
  exact Clause.any_subs (Clause.subs_iff.1 hs) (inM_iff.1 hm y hy)

/-- What the law asks of a level, for a model. -/
theorem holds_law {s : List UInt8} {F : List (List (List Int))} {level : Int} {l : List Int} (h : (add F level l).2 = 0) (i : Nat) :
    let now := inM s (atL (add F level l).1 i)
    let was := inM s (atL F i)
    let next := inM s (atL (add F level l).1 (i + 1))
    (now = true → next = true) ∧ (now = true → was = true) ∧ (level < i → was = now) ∧ ((i : Int) ≤ level → now = (was && l.any (CubeP.is s))) := by
  refine ⟨holds_next (by omega), holds_was h, fun hi => ?_, fun hi => ?_⟩
  · rw [Bool.eq_iff_iff]
    have h0 : 0 ≤ level := by
      rcases add_res F level l with ⟨_, h4 | h4⟩ | ⟨h0, _⟩
      · omega
      · omega
      · exact h0
    exact ⟨fun hm => holds_now h hm (.inr (by omega)), holds_was h⟩
  · rw [Bool.eq_iff_iff, Bool.and_eq_true]
    exact ⟨fun hm => ⟨holds_was h hm, holds_one h (by omega) hm⟩, fun hm => holds_now h hm.1 (.inl hm.2)⟩

end Go.Proofs.Yteamijldmhcicaa.Delta
