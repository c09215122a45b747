/-
  Formulas made smaller, as plain lists: cleaned, subsumed, strengthened; what models make of them. No program.
-/
import Derived.Test.YthhkngpbaflfiaaClauseP
import Derived.Test.YthhkngpbaflfiaaSubP
namespace Go.Proofs.Ythhkngpbaflfiaa.Pre
set_option linter.unusedVariables false
set_option linter.unusedSimpArgs false
open RefC (norm always)
open Clause (subs subs_iff Wf)
open Go.RowKit

def step (out : List (List Int)) (x : List Int) : List (List Int) := if always (norm x) = true ∨ norm x ∈ out then out else out ++ [norm x]

def cleaned (l : List (List Int)) : List (List Int) := l.foldl step []

theorem cleaned_more (l : List (List Int)) (k : Nat) (hk : k < l.length) : cleaned (l.take (k + 1)) = step (cleaned (l.take k)) l[k] := by
  rw [List.take_succ_eq_append_getElem hk]
  unfold cleaned
  rw [List.foldl_append]
  rfl

theorem cleaned_all (l : List (List Int)) : cleaned (l.take l.length) = cleaned l := by rw [List.take_length]

theorem mem_step {out : List (List Int)} {x y : List Int} : y ∈ step out x ↔ y ∈ out ∨ (y = norm x ∧ always (norm x) = false) := by
  unfold step
  by_cases h : always (norm x) = true ∨ norm x ∈ out
  · rw [if_pos h]
    refine ⟨.inl, ?_⟩
    rintro (h' | ⟨rfl, h'⟩)
    · exact h'
    · rcases h with h | h
      · rw [h] at h'; cases h'
      · exact h
  · rw [if_neg h, List.mem_append, List.mem_singleton]
    have ha : always (norm x) = false := Bool.eq_false_iff.2 fun h' => h (.inl h')
    constructor
    · rintro (h' | h')
      · exact .inl h'
      · exact .inr ⟨h', ha⟩
    · rintro (h' | ⟨h', _⟩)
      · exact .inl h'
      · exact .inr h'

theorem mem_foldl {l : List (List Int)} {out : List (List Int)} {y : List Int} : y ∈ l.foldl step out ↔ y ∈ out ∨ ∃ x ∈ l, y = norm x ∧ always (norm x) = false := by
  induction l generalizing out with
  | nil => simp
  | cons x r ih =>
    rw [List.foldl_cons, ih, mem_step]
    constructor
    · rintro ((h | h) | ⟨z, hz, h⟩)
      · exact .inl h
      · exact .inr ⟨x, List.mem_cons_self, h⟩
      · exact .inr ⟨z, List.mem_cons_of_mem _ hz, h⟩
    · rintro (h | ⟨z, hz, h⟩)
      · exact .inl (.inl h)
      · rcases List.mem_cons.1 hz with rfl | hz
        · exact .inl (.inr h)
        · exact .inr ⟨z, hz, h⟩

theorem mem_cleaned {l : List (List Int)} {y : List Int} : y ∈ cleaned l ↔ ∃ x ∈ l, y = norm x ∧ always (norm x) = false := by
  unfold cleaned
  rw [mem_foldl]
  simp

theorem nodup_foldl {l : List (List Int)} {out : List (List Int)} (h : out.Nodup) : (l.foldl step out).Nodup := by
  induction l generalizing out with
  | nil => exact h
  | cons x r ih =>
    refine ih ?_
    unfold step
    by_cases hc : always (norm x) = true ∨ norm x ∈ out
    · rw [if_pos hc]; exact h
    · rw [if_neg hc, List.nodup_append]
      refine ⟨h, by simp, ?_⟩
      intro a ha b hb
      rw [List.mem_singleton] at hb
      subst hb
      rintro rfl
      exact hc (.inr ha)

theorem nodup_cleaned (l : List (List Int)) : (cleaned l).Nodup := nodup_foldl List.nodup_nil

theorem len_step (out : List (List Int)) (x : List Int) : (step out x).length ≤ out.length + 1 := by
  unfold step; split <;> simp

theorem len_foldl (l : List (List Int)) (out : List (List Int)) : (l.foldl step out).length ≤ out.length + l.length := by
  induction l generalizing out with
  | nil => simp
  | cons x r ih =>
    have h1 := ih (step out x)
    have h2 := len_step out x
    simp only [List.foldl_cons, List.length_cons]
    omega

theorem len_cleaned (l : List (List Int)) : (cleaned l).length ≤ l.length := by
  have := len_foldl l []
  simpa [cleaned] using this

/-- In order, each once, none always true: it stays. -/
structure Clean (l : List (List Int)) : Prop where
  norm : ∀ x ∈ l, RefC.norm x = x
  not : ∀ x ∈ l, always x = false
  nodup : l.Nodup

theorem clean_cleaned (l : List (List Int)) : Clean (cleaned l) := by
  refine ⟨fun x hx => ?_, fun x hx => ?_, nodup_cleaned l⟩
  · obtain ⟨y, _, rfl, _⟩ := mem_cleaned.1 hx
    exact Clause.norm_norm y
  · obtain ⟨y, _, rfl, h⟩ := mem_cleaned.1 hx
    exact h

theorem foldl_clean {l : List (List Int)} : ∀ {out : List (List Int)}, Clean l → (∀ x ∈ l, x ∉ out) → l.foldl step out = out ++ l := by
  induction l with
  | nil => intro out _ _; simp
  | cons x r ih =>
    intro out h ho
    have hn := List.nodup_cons.1 h.nodup
    have e : step out x = out ++ [x] := by
      unfold step
      rw [h.norm x List.mem_cons_self, if_neg]
      rintro (h' | h')
      · rw [h.not x List.mem_cons_self] at h'; cases h'
      · exact ho x List.mem_cons_self h'
    rw [List.foldl_cons, e, ih ⟨fun y hy => h.norm y (List.mem_cons_of_mem _ hy), fun y hy => h.not y (List.mem_cons_of_mem _ hy), hn.2⟩ ?_]
    · simp
    · intro y hy hy'
      rcases List.mem_append.1 hy' with h' | h'
      · exact ho y (List.mem_cons_of_mem _ hy) h'
      · rw [List.mem_singleton] at h'; subst h'; exact hn.1 hy

theorem cleaned_clean {l : List (List Int)} (h : Clean l) : cleaned l = l := by
  unfold cleaned
  rw [foldl_clean h (by simp)]
  rfl

theorem cleaned_cleaned (l : List (List Int)) : cleaned (cleaned l) = cleaned l := cleaned_clean (clean_cleaned l)

/-! ### Without those that another one says. -/
/-- Does another one than the i-th say it? -/
def said (l : List (List Int)) (i : Nat) : Bool := (l.take i ++ l.drop (i + 1)).any fun y => subs y (l.getD i [])

def kept (l : List (List Int)) (k : Nat) : List Nat := (List.range k).filter fun i => !said l i

def sub (l : List (List Int)) : List (List Int) := (kept l l.length).map fun i => l.getD i []

def subsumed (l : List (List Int)) : List (List Int) := sub (cleaned l)

theorem kept_more (l : List (List Int)) (k : Nat) : kept l (k + 1) = kept l k ++ (if said l k = true then [] else [k]) := by
  unfold kept
  rw [List.range_succ, List.filter_append]
  cases h : said l k <;> simp [h]

theorem mem_kept {l : List (List Int)} {k i : Nat} : i ∈ kept l k ↔ i < k ∧ said l i = false := by
  unfold kept
  simp

theorem kept_len (l : List (List Int)) (k : Nat) : (kept l k).length ≤ k := by
  have := List.length_filter_le (fun i => !said l i) (List.range k)
  simpa [kept] using this

theorem said_iff {l : List (List Int)} {i : Nat} (hi : i < l.length) : said l i = true ↔ ∃ k, ∃ h : k < l.length, k ≠ i ∧ subs l[k] l[i] = true := by
  unfold said
  have e : l.getD i [] = l[i] := by rw [List.getD_eq_getElem?_getD, List.getElem?_eq_getElem hi]; rfl
  rw [e, List.any_append, Bool.or_eq_true, List.any_eq_true, List.any_eq_true]
  constructor
  · rintro (⟨y, hy, h⟩ | ⟨y, hy, h⟩)
    · obtain ⟨k, hk, rfl⟩ := List.getElem_of_mem hy
      rw [List.length_take] at hk
      rw [List.getElem_take] at h
      exact ⟨k, by omega, by omega, h⟩
    · obtain ⟨k, hk, rfl⟩ := List.getElem_of_mem hy
      rw [List.length_drop] at hk
      rw [List.getElem_drop] at h
      exact ⟨i + 1 + k, by omega, by omega, h⟩
  · rintro ⟨k, hk, hne, h⟩
    by_cases hlt : k < i
    · exact .inl ⟨l[k], List.mem_iff_getElem.2 ⟨k, by rw [List.length_take]; omega, by rw [List.getElem_take]⟩, h⟩
    · exact .inr ⟨l[k], List.mem_iff_getElem.2 ⟨k - (i + 1), by rw [List.length_drop]; omega, by rw [List.getElem_drop]; congr 1; omega⟩, h⟩

theorem mem_sub {l : List (List Int)} {x : List Int} : x ∈ sub l ↔ ∃ i, ∃ h : i < l.length, l[i] = x ∧ said l i = false := by
  unfold sub
  rw [List.mem_map]
  constructor
  · rintro ⟨i, hi, rfl⟩
    obtain ⟨h1, h2⟩ := mem_kept.1 hi
    exact ⟨i, h1, by rw [List.getD_eq_getElem?_getD, List.getElem?_eq_getElem h1]; rfl, h2⟩
  · rintro ⟨i, hi, rfl, h⟩
    exact ⟨i, mem_kept.2 ⟨hi, h⟩, by rw [List.getD_eq_getElem?_getD, List.getElem?_eq_getElem hi]; rfl⟩

theorem mem_of_sub {l : List (List Int)} {x : List Int} (h : x ∈ sub l) : x ∈ l := by
  obtain ⟨i, hi, rfl, _⟩ := mem_sub.1 h
  exact List.getElem_mem hi

theorem sub_sublist (l : List (List Int)) : (sub l).Sublist l := by
  unfold sub kept
  have h1 : ((List.range l.length).map fun i => l.getD i []) = l := by
    apply List.ext_getElem
    · simp
    · intro i h1 h2
      simp [List.getD_eq_getElem?_getD, List.getElem?_eq_getElem h2]
  conv => rhs; rw [← h1]
  exact List.Sublist.map _ (List.filter_sublist)

theorem clean_sub {l : List (List Int)} (h : Clean l) : Clean (sub l) :=
  ⟨fun x hx => h.norm x (mem_of_sub hx), fun x hx => h.not x (mem_of_sub hx), h.nodup.sublist (sub_sublist l)⟩

theorem nodup_inj {α : Type} {l : List α} (h : l.Nodup) {i j : Nat} {hi : i < l.length} {hj : j < l.length} (e : l[i] = l[j]) : i = j := by
  have hp := List.pairwise_iff_getElem.1 h
  rcases Nat.lt_trichotomy i j with h' | h' | h'
  · exact absurd e (hp i j hi hj h')
  · exact h'
  · exact absurd e.symm (hp j i hj hi h')

/-- No clause says another one. -/
def Apart (l : List (List Int)) : Prop := ∀ i k, (hi : i < l.length) → (hk : k < l.length) → k ≠ i → subs l[k] l[i] = false

theorem apart_iff {l : List (List Int)} : Apart l ↔ ∀ i, i < l.length → said l i = false := by
  constructor
  · intro h i hi
    rw [Bool.eq_false_iff]
    intro hs
    obtain ⟨k, hk, hne, h'⟩ := (said_iff hi).1 hs
    rw [h i k hi hk hne] at h'
    cases h'
  · intro h i k hi hk hne
    rw [Bool.eq_false_iff]
    intro h'
    have := (said_iff hi).2 ⟨k, hk, hne, h'⟩
    rw [h i hi] at this
    cases this

theorem sub_apart {l : List (List Int)} (h : Apart l) : sub l = l := by
  unfold sub
  have hk : kept l l.length = List.range l.length := by
    unfold kept
    rw [List.filter_eq_self]
    intro i hi
    rw [List.mem_range] at hi
    rw [apart_iff.1 h i hi]; rfl
  rw [hk]
  apply List.ext_getElem
  · simp
  · intro i h1 h2
    simp [List.getD_eq_getElem?_getD, List.getElem?_eq_getElem h2]

theorem apart_sub {l : List (List Int)} (hn : l.Nodup) : Apart (sub l) := by
  intro i k hi hk hne
  have hnd := hn.sublist (sub_sublist l)
  obtain ⟨a, ha, ea, sa⟩ := mem_sub.1 (List.getElem_mem hi)
  obtain ⟨b, hb, eb, sb⟩ := mem_sub.1 (List.getElem_mem hk)
  rw [Bool.eq_false_iff]
  intro hs
  have hab : b ≠ a := by
    rintro rfl
    rw [ea] at eb
    exact hne (nodup_inj hnd eb.symm)
  have := (said_iff ha).2 ⟨b, hb, hab, by rw [ea, eb]; exact hs⟩
  rw [sa] at this
  cases this

theorem subsumed_subsumed (l : List (List Int)) : subsumed (subsumed l) = subsumed l := by
  unfold subsumed
  rw [cleaned_clean (clean_sub (clean_cleaned l)), sub_apart (apart_sub (nodup_cleaned l))]

theorem subsumed_len (l : List (List Int)) : (subsumed l).length ≤ l.length := Nat.le_trans (sub_sublist _).length_le (len_cleaned l)

/-! ### Strengthened. -/
/-- Does another clause than the i-th take the literal x of it away? -/
def takes (l : List (List Int)) (i : Nat) (x : Int) (k : Nat) : Bool :=
  decide (k ≠ i) && (decide (wrap64 (-x) ∈ l.getD k []) && subs ((l.getD k []).filter fun y => !decide (y = wrap64 (-x))) (l.getD i []))

def taken (l : List (List Int)) (i : Nat) (x : Int) : Bool := (List.range l.length).any (takes l i x)

def weaker (l : List (List Int)) (i : Nat) : Int := ((l.getD i []).find? (taken l i)).getD 0

def first (l : List (List Int)) : Option Nat := (List.range l.length).find? fun i => weaker l i != 0

def less (l : List (List Int)) (i : Nat) : List (List Int) := subsumed (l.set i ((l.getD i []).filter fun y => !decide (y = weaker l i)))

def stronger (l : List (List Int)) : Option (List (List Int)) := (first l).map (less l)

inductive Steps : List (List Int) → List (List Int) → Prop where
  | refl (l : List (List Int)) : Steps l l
  | tail {l l' l'' : List (List Int)} : Steps l l' → stronger l' = some l'' → Steps l l''

theorem steps_stuck {l l' : List (List Int)} (h : Steps l l') (hs : stronger l = none) : l' = l := by
  induction h with
  | refl => rfl
  | tail h1 h2 ih =>
    have := ih
    subst this
    rw [hs] at h2
    cases h2

def total (l : List (List Int)) : Nat := (l.map List.length).sum

end Go.Proofs.Ythhkngpbaflfiaa.Pre
