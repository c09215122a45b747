/-
  Plain: what is kept, and what is known of it. No program.
-/
import Derived.Test.YtdpmfcfelncbeaaClauseP
import Derived.Test.YtdpmfcfelncbeaaSortPl
namespace Go.Proofs.Ytdpmfcfelncbeaa.Keep
set_option linter.unusedVariables false
set_option linter.unusedSimpArgs false
open RefC (norm)
open Vals (srt srt_spec srt_one)

/-- Clauses, and what they rest on. -/
abbrev Kp := List (List Int) × List Int

def beyond (l some : List Int) : Bool := l.any (fun n => !decide (n ∈ some))
def hasC (l : List (List Int)) (x : List Int) : Bool := l.any (fun y => decide (norm x = norm y))
def lacks (k : Kp) (inv : List (List Int)) : Bool := inv.any (fun x => !hasC k.1 x)
def says (k : Kp) (inv : List (List Int)) (tags : List Int) : Bool := !beyond k.2 tags && !lacks k inv
def said (l : List Kp) (inv : List (List Int)) (tags : List Int) : Bool := l.any (fun k => says k inv tags)
def sz (l : List Kp) : Nat := (l.map (fun k => k.1.length)).sum

def trim : List Kp → List Kp
  | [] => []
  | k :: r => if 256 < sz (k :: r) then trim r else k :: r

def put (l : List Kp) (inv : List (List Int)) (tags : List Int) : Option (List Kp) :=
  if inv.length = 0 ∨ 256 < inv.length ∨ said l inv tags = true then none else some (trim (l ++ [(inv, srt tags)]))

/-- One clause more, if its tags are active and it is not known. -/
def one (act : List Int) (k : Kp) (out : List (List Int)) (x : List Int) : List (List Int) := if beyond k.2 act = false ∧ hasC out x = false then out ++ [x] else out
def knownK (act : List Int) (out : List (List Int)) (k : Kp) : List (List Int) := k.1.foldl (one act k) out
def known (l : List Kp) (act : List Int) : List (List Int) := l.foldl (knownK act) []

theorem beyond_mono {l a b : List Int} (h : ∀ x ∈ a, x ∈ b) (hb : beyond l a = false) : beyond l b = false := by
  unfold beyond at *
  rw [List.any_eq_false] at *
  intro x hx
  have := hb x hx
  simp only [Bool.not_eq_true', decide_eq_false_iff_not, Classical.not_not] at *
  exact h x this

theorem beyond_sub {l a : List Int} (h : ∀ x ∈ l, x ∈ a) : beyond l a = false := by
  unfold beyond
  rw [List.any_eq_false]
  intro x hx
  simp [h x hx]

theorem has_mem {l : List (List Int)} {x : List Int} (h : x ∈ l) : hasC l x = true := by
  unfold hasC
  rw [List.any_eq_true]
  exact ⟨x, h, by simp⟩

theorem has_iff {l : List (List Int)} {x : List Int} : hasC l x = true ↔ ∃ y ∈ l, norm x = norm y := by
  unfold hasC
  rw [List.any_eq_true]
  simp

theorem trim_last {l : List Kp} {k : Kp} (hk : k.1.length ≤ 256) : ∃ m, trim (l ++ [k]) = m ++ [k] := by
  induction l with
  | nil =>
    refine ⟨[], ?_⟩
    unfold trim
    rw [List.nil_append] at *
    simp only [List.nil_append]
    rw [if_neg]
    unfold sz
    simp
    omega
  | cons x r ih =>
    rw [List.cons_append]
    unfold trim
    split
    · exact ih
    · exact ⟨x :: r, rfl⟩

theorem trim_sz (l : List Kp) : sz (trim l) ≤ 256 := by
  induction l with
  | nil => simp [trim, sz]
  | cons x r ih =>
    unfold trim
    split
    · exact ih
    · omega

theorem says_self (inv : List (List Int)) (tags more : List Int) : says (inv, srt tags) inv (tags ++ more) = true := by
  unfold says
  rw [beyond_sub (fun x hx => List.mem_append_left _ (srt_one tags hx))]
  have : lacks (inv, srt tags) inv = false := by
    unfold lacks
    rw [List.any_eq_false]
    intro x hx
    simp [has_mem hx]
  rw [this]
  rfl

/-- What is kept is not put again. -/
theorem put_again {l m : List Kp} {inv : List (List Int)} {tags more : List Int} (h : put l inv tags = some m) : put m inv (tags ++ more) = none := by
  unfold put at h
  split at h
  · cases h
  · rename_i hc
    simp only [Option.some.injEq] at h
    obtain ⟨m', hm⟩ := trim_last (l := l) (k := (inv, srt tags)) (by simp; omega)
    rw [hm] at h
    subst h
    unfold put
    rw [if_pos]
    refine .inr (.inr ?_)
    unfold said
    rw [List.any_append, List.any_cons, says_self]
    simp

theorem one_keeps {act : List Int} {k : Kp} {out : List (List Int)} {x y : List Int} (h : y ∈ out) : y ∈ one act k out x := by
  unfold one
  split
  · exact List.mem_append_left _ h
  · exact h

theorem fold_keeps {act : List Int} {k : Kp} (xs : List (List Int)) {out : List (List Int)} {y : List Int} (h : y ∈ out) : y ∈ xs.foldl (one act k) out := by
  induction xs generalizing out with
  | nil => exact h
  | cons x r ih => exact ih (one_keeps h)

theorem known_keeps {act : List Int} (l : List Kp) {out : List (List Int)} {y : List Int} (h : y ∈ out) : y ∈ l.foldl (knownK act) out := by
  induction l generalizing out with
  | nil => exact h
  | cons k r ih => exact ih (fold_keeps _ h)

theorem hasC_more {out out2 : List (List Int)} {x : List Int} (hs : ∀ y ∈ out, y ∈ out2) (h : hasC out x = true) : hasC out2 x = true := by
  rw [has_iff] at *
  obtain ⟨y, hy, e⟩ := h
  exact ⟨y, hs y hy, e⟩

theorem fold_has {act : List Int} {k : Kp} (hb : beyond k.2 act = false) (xs : List (List Int)) (out : List (List Int)) {x : List Int} (h : x ∈ xs) : hasC (xs.foldl (one act k) out) x = true := by
  induction xs generalizing out with
  | nil => cases h
  | cons z r ih =>
    rw [List.foldl_cons]
    rcases List.mem_cons.1 h with rfl | h
    · refine hasC_more (fun y hy => fold_keeps r hy) ?_
      unfold one
      split
      · exact has_mem (by simp)
      · rename_i hc
        cases hh : hasC out x
        · exact absurd ⟨hb, hh⟩ hc
        · rfl
    · exact ih _ h

/-- What rests on what is active is known. -/
theorem known_has {act : List Int} {k : Kp} (hb : beyond k.2 act = false) {x : List Int} (hx : x ∈ k.1) (l : List Kp) (out : List (List Int)) (hk : k ∈ l) : hasC (l.foldl (knownK act) out) x = true := by
  induction l generalizing out with
  | nil => cases hk
  | cons z r ih =>
    rw [List.foldl_cons]
    rcases List.mem_cons.1 hk with rfl | hk
    · exact hasC_more (fun y hy => known_keeps r hy) (fold_has hb _ _ hx)
    · exact ih _ hk

theorem fold_from {act : List Int} {k : Kp} (xs : List (List Int)) {out : List (List Int)} {y : List Int} (h : y ∈ xs.foldl (one act k) out) : y ∈ out ∨ (y ∈ xs ∧ beyond k.2 act = false) := by
  induction xs generalizing out with
  | nil => exact .inl h
  | cons z r ih =>
    rcases ih h with h | ⟨h, hb⟩
    · unfold one at h
      split at h
      · rename_i hc
        rcases List.mem_append.1 h with h | h
        · exact .inl h
        · rw [List.mem_singleton] at h
          exact .inr ⟨by rw [h]; exact List.mem_cons_self, hc.1⟩
      · exact .inl h
    · exact .inr ⟨List.mem_cons_of_mem _ h, hb⟩

theorem known_from {act : List Int} (l : List Kp) {out : List (List Int)} {y : List Int} (h : y ∈ l.foldl (knownK act) out) : y ∈ out ∨ ∃ k ∈ l, y ∈ k.1 ∧ beyond k.2 act = false := by
  induction l generalizing out with
  | nil => exact .inl h
  | cons k r ih =>
    rcases ih h with h | ⟨k', hk, h⟩
    · rcases fold_from _ h with h | h
      · exact .inl h
      · exact .inr ⟨k, List.mem_cons_self, h⟩
    · exact .inr ⟨k', List.mem_cons_of_mem _ hk, h⟩

/-- With more that is active no less is known. -/
theorem known_more {l : List Kp} {a b : List Int} (h : ∀ x ∈ a, x ∈ b) {x : List Int} (hx : x ∈ known l a) : hasC (known l b) x = true := by
  rcases known_from l hx with h0 | ⟨k, hk, hx, hb⟩
  · cases h0
  · exact known_has (beyond_mono h hb) hx l [] hk

theorem put_known {l m : List Kp} {inv : List (List Int)} {tags more : List Int} (h : put l inv tags = some m) {x : List Int} (hx : x ∈ inv) : hasC (known m (tags ++ more)) x = true := by
  unfold put at h
  split at h
  · cases h
  · rename_i hc
    simp only [Option.some.injEq] at h
    obtain ⟨m', hm⟩ := trim_last (l := l) (k := (inv, srt tags)) (by simp; omega)
    rw [hm] at h
    subst h
    exact known_has (k := (inv, srt tags)) (beyond_sub (fun y hy => List.mem_append_left _ (srt_one tags hy))) hx _ [] (by simp)

theorem put_sz {l m : List Kp} {inv : List (List Int)} {tags : List Int} (h : put l inv tags = some m) : sz m ≤ 256 := by
  unfold put at h
  split at h
  · cases h
  · simp only [Option.some.injEq] at h
    subst h
    exact trim_sz _

end Go.Proofs.Ytdpmfcfelncbeaa.Keep
