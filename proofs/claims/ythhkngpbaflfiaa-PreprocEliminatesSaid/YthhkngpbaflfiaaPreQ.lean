/-
  Formulas made smaller: what models make of them; that it ends; what it leaves. Plain lists, no program.
-/
import Derived.Test.YthhkngpbaflfiaaPreP
namespace Go.Proofs.Ythhkngpbaflfiaa.Pre
set_option linter.unusedVariables false
set_option linter.unusedSimpArgs false
open RefC (norm always)
open Clause (subs subs_iff Wf absI both)
open Go.RowKit

/-! ### Lists without repetition. -/
theorem nodup_len {y x : List Int} (hn : y.Nodup) (hs : ∀ a ∈ y, a ∈ x) : y.length ≤ x.length := by
  induction y generalizing x with
  | nil => simp
  | cons a r ih =>
    have hn' := List.nodup_cons.1 hn
    have hax := hs a List.mem_cons_self
    have h := ih (x := x.erase a) hn'.2 (fun b hb => by
      have hne : b ≠ a := fun e => hn'.1 (e ▸ hb)
      exact (List.mem_erase_of_ne hne).2 (hs b (List.mem_cons_of_mem _ hb)))
    rw [List.length_erase_of_mem hax] at h
    have := List.length_pos_of_mem hax
    simp only [List.length_cons]
    omega

theorem nodup_eq {y x : List Int} (hn : y.Nodup) (hs : ∀ a ∈ y, a ∈ x) (hl : x.length ≤ y.length) : ∀ a ∈ x, a ∈ y := by
  intro a ha
  refine Classical.byContradiction fun h => ?_
  have h1 := nodup_len (x := x.erase a) hn (fun b hb => (List.mem_erase_of_ne (fun (e : b = a) => h (by rw [← e]; exact hb))).2 (hs b hb))
  rw [List.length_erase_of_mem ha] at h1
  have := List.length_pos_of_mem ha
  omega

theorem norm_nodup {x : List Int} (h : norm x = x) : x.Nodup := by
  rw [← h]
  have := RefC.norm_sorted x
  exact this.imp (S := fun a b => a ≠ b) (fun {a b} hab (e : a = b) => RefC.less_irrefl b (by rw [e] at hab; exact hab))

theorem norm_eq {x y : List Int} (hx : norm x = x) (hy : norm y = y) (h : ∀ a, a ∈ x ↔ a ∈ y) : x = y := by
  rw [← hx, ← hy]
  refine RefC.sorted_ext _ _ (RefC.norm_sorted x) (RefC.norm_sorted y) fun a => ?_
  rw [hx, hy]; exact h a

theorem subs_len {x y : List Int} (hx : norm x = x) (hy : norm y = y) (hs : subs y x = true) (hne : y ≠ x) : y.length < x.length := by
  have h := subs_iff.1 hs
  refine Classical.byContradiction fun hn => ?_
  exact hne (norm_eq hy hx fun a => ⟨h a, nodup_eq (norm_nodup hy) h (by omega) a⟩)

/-! ### Models. -/
def one (s : List UInt8) (l : List Int) : Bool := l.any (CubeP.is s)
def allT (s : List UInt8) (L : List (List Int)) : Bool := L.all (one s)

def InR (n : Nat) (L : List (List Int)) : Prop := ∀ l ∈ L, ∀ x ∈ l, 1 ≤ absI x ∧ absI x ≤ n

theorem allT_iff {s : List UInt8} {L : List (List Int)} : allT s L = true ↔ ∀ l ∈ L, one s l = true := by simp [allT]

theorem one_norm (s : List UInt8) (l : List Int) : one s (norm l) = one s l := Clause.any_norm s l

theorem is_or {s : List UInt8} {v : Int} (h1 : 1 ≤ v) (h2 : v ≤ s.length) (h : CubeP.is s v = false) : CubeP.is s (-v) = true := by
  unfold CubeP.is at h ⊢
  have e : max (-v) (- -v) = max v (-v) := by omega
  rw [e]
  rw [decide_eq_true (by omega : 1 ≤ max v (-v)), decide_eq_true (by omega : max v (-v) ≤ (s.length : Int))] at h ⊢
  rw [decide_eq_true (by omega : 0 < v)] at h
  rw [decide_eq_false (by omega : ¬ 0 < -v)]
  cases hq : (s.getD ((max v (-v)).toNat - 1) 0 == 49)
  · rfl
  · rw [hq] at h; cases h

theorem one_always {s : List UInt8} {l : List Int} (hw : Wf l) (hr : ∀ x ∈ l, 1 ≤ absI x ∧ absI x ≤ s.length) (h : always (norm l) = true) : one s l = true := by
  rw [Clause.always_both hw, Clause.both_iff] at h
  obtain ⟨x, hx, h0, hn⟩ := h
  have hrx := hr x hx
  have ax : absI x = x := by unfold absI; rw [if_neg (by omega)]; omega
  rw [ax] at hrx
  unfold one
  rw [List.any_eq_true]
  cases hq : CubeP.is s x
  · exact ⟨-x, hn, is_or hrx.1 hrx.2 hq⟩
  · exact ⟨x, hx, hq⟩

theorem allT_cleaned {s : List UInt8} {L : List (List Int)} (hw : ∀ l ∈ L, Wf l) (hr : InR s.length L) : allT s (cleaned L) = allT s L := by
  rw [Bool.eq_iff_iff, allT_iff, allT_iff]
  constructor
  · intro h l hl
    cases ha : always (norm l)
    · rw [← one_norm]; exact h _ (mem_cleaned.2 ⟨l, hl, rfl, ha⟩)
    · exact one_always (hw l hl) (hr l hl) ha
  · intro h l hl
    obtain ⟨x, hx, rfl, _⟩ := mem_cleaned.1 hl
    rw [one_norm]; exact h x hx

theorem one_subs {s : List UInt8} {a b : List Int} (h : subs a b = true) (ha : one s a = true) : one s b = true := Clause.any_subs (subs_iff.1 h) ha

theorem allT_sub {s : List UInt8} {L : List (List Int)} (hc : Clean L) : allT s (sub L) = allT s L := by
  rw [Bool.eq_iff_iff, allT_iff, allT_iff]
  constructor
  · intro h
    have key : ∀ n, ∀ l ∈ L, l.length ≤ n → one s l = true := by
      intro n
      induction n with
      | zero =>
        intro l hl hn
        obtain ⟨i, hi, rfl⟩ := List.getElem_of_mem hl
        cases hs : said L i
        · exact h _ (mem_sub.2 ⟨i, hi, rfl, hs⟩)
        · obtain ⟨k, hk, hne, h'⟩ := (said_iff hi).1 hs
          have hlt := subs_len (hc.norm _ hl) (hc.norm _ (List.getElem_mem hk)) h' (fun e => hne (nodup_inj hc.nodup e))
          omega
      | succ n ih =>
        intro l hl hn
        obtain ⟨i, hi, rfl⟩ := List.getElem_of_mem hl
        cases hs : said L i
        · exact h _ (mem_sub.2 ⟨i, hi, rfl, hs⟩)
        · obtain ⟨k, hk, hne, h'⟩ := (said_iff hi).1 hs
          have hlt := subs_len (hc.norm _ hl) (hc.norm _ (List.getElem_mem hk)) h' (fun e => hne (nodup_inj hc.nodup e))
          exact one_subs h' (ih _ (List.getElem_mem hk) (by omega))
    exact fun l hl => key l.length l hl (Nat.le_refl _)
  · intro h l hl
    exact h l (mem_of_sub hl)

theorem inR_cleaned {n : Nat} {L : List (List Int)} (h : InR n L) : InR n (cleaned L) := by
  intro l hl x hx
  obtain ⟨y, hy, rfl, _⟩ := mem_cleaned.1 hl
  exact h y hy x (RefC.mem_norm.1 hx).1

theorem wf_cleaned {L : List (List Int)} (h : ∀ l ∈ L, Wf l) : ∀ l ∈ cleaned L, Wf l := by
  intro l hl
  obtain ⟨y, hy, rfl, _⟩ := mem_cleaned.1 hl
  exact Clause.norm_wf (h y hy)

theorem inR_subsumed {n : Nat} {L : List (List Int)} (h : InR n L) : InR n (subsumed L) := fun l hl => inR_cleaned h l (mem_of_sub hl)
theorem wf_subsumed {L : List (List Int)} (h : ∀ l ∈ L, Wf l) : ∀ l ∈ subsumed L, Wf l := fun l hl => wf_cleaned h l (mem_of_sub hl)

theorem allT_subsumed {s : List UInt8} {L : List (List Int)} (hw : ∀ l ∈ L, Wf l) (hr : InR s.length L) : allT s (subsumed L) = allT s L := by
  unfold subsumed
  rw [allT_sub (clean_cleaned L), allT_cleaned hw hr]

/-! ### A literal less. -/
theorem getD_at {L : List (List Int)} {i : Nat} (h : i < L.length) : L.getD i [] = L[i] := by
  rw [List.getD_eq_getElem?_getD, List.getElem?_eq_getElem h]; rfl

theorem weaker_spec {L : List (List Int)} {i : Nat} (hi : i < L.length) (h : weaker L i ≠ 0) : weaker L i ∈ L[i] ∧ taken L i (weaker L i) = true := by
  have e : weaker L i = ((L.getD i []).find? (taken L i)).getD 0 := rfl
  rw [getD_at hi] at e
  cases hf : L[i].find? (taken L i) with
  | none => rw [hf] at e; exact absurd e h
  | some x =>
    rw [hf] at e
    rw [e]
    exact ⟨List.mem_of_find?_eq_some hf, List.find?_some hf⟩

theorem taken_iff {L : List (List Int)} {i : Nat} {x : Int} (hi : i < L.length) : taken L i x = true ↔ ∃ k, ∃ h : k < L.length, k ≠ i ∧ wrap64 (-x) ∈ L[k] ∧ ∀ y ∈ L[k], y ≠ wrap64 (-x) → y ∈ L[i] := by
  unfold taken
  rw [List.any_eq_true]
  constructor
  · rintro ⟨k, hk, h⟩
    rw [List.mem_range] at hk
    unfold takes at h
    rw [getD_at hk, getD_at hi] at h
    simp only [Bool.and_eq_true, decide_eq_true_eq] at h
    refine ⟨k, hk, h.1, h.2.1, fun y hy hne => subs_iff.1 h.2.2 y ?_⟩
    rw [List.mem_filter]
    exact ⟨hy, by simp [hne]⟩
  · rintro ⟨k, hk, hne, h1, h2⟩
    refine ⟨k, List.mem_range.2 hk, ?_⟩
    unfold takes
    rw [getD_at hk, getD_at hi]
    simp only [Bool.and_eq_true, decide_eq_true_eq]
    refine ⟨hne, h1, subs_iff.2 fun y hy => ?_⟩
    rw [List.mem_filter] at hy
    exact h2 y hy.1 (by simpa using hy.2)

theorem first_spec {L : List (List Int)} {i : Nat} (h : first L = some i) : i < L.length ∧ weaker L i ≠ 0 := by
  unfold first at h
  have h1 := List.mem_of_find?_eq_some h
  have h2 := List.find?_some h
  exact ⟨List.mem_range.1 h1, by simpa using h2⟩

/-- The literal gone, models are the same. -/
theorem allT_less {s : List UInt8} {L : List (List Int)} {i : Nat} (hc : Clean L) (hw : ∀ l ∈ L, Wf l) (hr : InR s.length L) (hi : i < L.length) (h : weaker L i ≠ 0) :
    allT s (L.set i ((L.getD i []).filter fun y => !decide (y = weaker L i))) = allT s L := by
  obtain ⟨hx, ht⟩ := weaker_spec hi h
  generalize weaker L i = x at *
  rw [getD_at hi]
  obtain ⟨k, hk, hne, h1, h2⟩ := (taken_iff hi).1 ht
  have hwx := hw _ (List.getElem_mem hi) x hx
  have hrx := hr _ (List.getElem_mem hi) x hx
  have hmin : x ≠ -9223372036854775808 := by
    rintro rfl
    unfold absI at hrx
    simp at hrx
  rw [Clause.wrap_neg (by omega) hwx.2] at h1 h2
  rw [Bool.eq_iff_iff, allT_iff, allT_iff]
  constructor
  · intro hall l hl
    obtain ⟨j, hj, rfl⟩ := List.getElem_of_mem hl
    by_cases hji : j = i
    · subst hji
      have := hall _ (List.mem_iff_getElem.2 ⟨j, by rw [List.length_set]; exact hj, List.getElem_set_self _⟩)
      unfold one at this ⊢
      rw [List.any_filter, List.any_eq_true] at this
      rw [List.any_eq_true]
      obtain ⟨y, hy, h'⟩ := this
      rw [Bool.and_eq_true] at h'
      exact ⟨y, hy, h'.2⟩
    · exact hall _ (List.mem_iff_getElem.2 ⟨j, by rw [List.length_set]; exact hj, by rw [List.getElem_set_ne (fun e => hji e.symm)]⟩)
  · intro hall l hl
    obtain ⟨j, hj, rfl⟩ := List.getElem_of_mem hl
    rw [List.length_set] at hj
    by_cases hji : j = i
    · subst hji
      rw [List.getElem_set_self]
      have hi1 := hall _ (List.getElem_mem hi)
      have hk1 := hall _ (List.getElem_mem hk)
      unfold one at hi1 hk1 ⊢
      rw [List.any_eq_true] at hi1 hk1
      rw [List.any_filter, List.any_eq_true]
      obtain ⟨y, hy, hty⟩ := hi1
      by_cases hyx : y = x
      · subst hyx
        obtain ⟨z, hz, htz⟩ := hk1
        have hzn : z ≠ -y := by
          rintro rfl
          by_cases hpos : 0 < y
          · exact Clause.is_not_both (by omega) hty htz
          · have hy0 : y ≠ 0 := by rintro rfl; rw [Clause.is_zero] at hty; cases hty
            exact Clause.is_not_both (v := -y) (by omega) htz (by rw [Int.neg_neg]; exact hty)
        refine ⟨z, h2 z hz hzn, ?_⟩
        rw [Bool.and_eq_true]
        refine ⟨?_, htz⟩
        have hzy : z ≠ y := by
          rintro rfl
          have hb : both L[k] = true := by
            rw [Clause.both_iff]
            by_cases hpos : 0 < z
            · exact ⟨z, hz, hpos, h1⟩
            · have hz0 : z ≠ 0 := by rintro rfl; rw [Clause.is_zero] at htz; cases htz
              exact ⟨-z, h1, by omega, by rw [Int.neg_neg]; exact hz⟩
          rw [← Clause.always_both (hw _ (List.getElem_mem hk)), hc.norm _ (List.getElem_mem hk), hc.not _ (List.getElem_mem hk)] at hb
          cases hb
        simp [hzy]
      · exact ⟨y, hy, by simp [hyx, hty]⟩
    · rw [List.getElem_set_ne (fun e => hji e.symm)]
      exact hall _ (List.getElem_mem hj)

theorem inR_set {n : Nat} {L : List (List Int)} {i : Nat} {p : Int → Bool} (h : InR n L) : InR n (L.set i ((L.getD i []).filter p)) := by
  intro l hl x hx
  rcases List.mem_or_eq_of_mem_set hl with hl | rfl
  · exact h l hl x hx
  · have hx' := (List.mem_filter.1 hx).1
    by_cases hi : i < L.length
    · rw [getD_at hi] at hx'
      exact h _ (List.getElem_mem hi) x hx'
    · rw [List.getD_eq_getElem?_getD, List.getElem?_eq_none (by omega)] at hx'
      simp at hx'

theorem wf_set {L : List (List Int)} {i : Nat} {p : Int → Bool} (h : ∀ l ∈ L, Wf l) : ∀ l ∈ L.set i ((L.getD i []).filter p), Wf l := by
  intro l hl x hx
  rcases List.mem_or_eq_of_mem_set hl with hl | rfl
  · exact h l hl x hx
  · have hx' := (List.mem_filter.1 hx).1
    by_cases hi : i < L.length
    · rw [getD_at hi] at hx'
      exact h _ (List.getElem_mem hi) x hx'
    · rw [List.getD_eq_getElem?_getD, List.getElem?_eq_none (by omega)] at hx'
      simp at hx'

/-- What subsumed leaves: in order, each once, none says another. -/
structure Neat (n : Nat) (L : List (List Int)) : Prop where
  clean : Clean L
  apart : Apart L
  wf : ∀ l ∈ L, Wf l
  inR : InR n L

theorem neat_subsumed {n : Nat} {L : List (List Int)} (hw : ∀ l ∈ L, Wf l) (hr : InR n L) : Neat n (subsumed L) :=
  ⟨clean_sub (clean_cleaned L), apart_sub (nodup_cleaned L), wf_subsumed hw, inR_subsumed hr⟩

theorem neat_stronger {n : Nat} {L L' : List (List Int)} (h : Neat n L) (hs : stronger L = some L') : Neat n L' := by
  unfold stronger at hs
  rw [Option.map_eq_some_iff] at hs
  obtain ⟨i, hi, rfl⟩ := hs
  exact neat_subsumed (wf_set h.wf) (inR_set h.inR)

theorem neat_steps {n : Nat} {L L' : List (List Int)} (h : Neat n L) (hs : Steps L L') : Neat n L' := by
  induction hs with
  | refl => exact h
  | tail h1 h2 ih => exact neat_stronger ih h2

theorem allT_stronger {s : List UInt8} {L L' : List (List Int)} (h : Neat s.length L) (hs : stronger L = some L') : allT s L' = allT s L := by
  unfold stronger at hs
  rw [Option.map_eq_some_iff] at hs
  obtain ⟨i, hi, rfl⟩ := hs
  obtain ⟨h1, h2⟩ := first_spec hi
  unfold less
  rw [allT_subsumed (wf_set h.wf) (inR_set h.inR), allT_less h.clean h.wf h.inR h1 h2]

theorem allT_steps {s : List UInt8} {L L' : List (List Int)} (h : Neat s.length L) (hs : Steps L L') : allT s L' = allT s L := by
  induction hs with
  | refl => rfl
  | tail h1 h2 ih => rw [allT_stronger (neat_steps h h1) h2, ih]

theorem len_stronger {L L' : List (List Int)} (hs : stronger L = some L') : L'.length ≤ L.length := by
  unfold stronger at hs
  rw [Option.map_eq_some_iff] at hs
  obtain ⟨i, hi, rfl⟩ := hs
  have := subsumed_len (L.set i ((L.getD i []).filter fun y => !decide (y = weaker L i)))
  rw [List.length_set] at this
  exact this

theorem len_steps {L L' : List (List Int)} (hs : Steps L L') : L'.length ≤ L.length := by
  induction hs with
  | refl => exact Nat.le_refl _
  | tail h1 h2 ih => exact Nat.le_trans (len_stronger h2) ih

/-! ### It ends. -/
theorem total_app (a b : List (List Int)) : total (a ++ b) = total a + total b := by unfold total; simp

theorem total_step (out : List (List Int)) (x : List Int) : total (step out x) ≤ total out + x.length := by
  unfold step
  split
  · omega
  · rw [total_app]
    have := Clause.norm_len x
    simp [total]
    omega

theorem total_foldl (l : List (List Int)) (out : List (List Int)) : total (l.foldl step out) ≤ total out + total l := by
  induction l generalizing out with
  | nil => simp [total]
  | cons x r ih =>
    have h1 := ih (step out x)
    have h2 := total_step out x
    have h3 : total (x :: r) = x.length + total r := by simp [total]
    rw [List.foldl_cons]
    omega

theorem total_sublist {a b : List (List Int)} (h : a.Sublist b) : total a ≤ total b := by
  induction h with
  | slnil => simp
  | cons x _ ih => simp [total] at ih ⊢; omega
  | cons_cons x _ ih => simp [total] at ih ⊢; omega

theorem total_subsumed (L : List (List Int)) : total (subsumed L) ≤ total L := by
  refine Nat.le_trans (total_sublist (sub_sublist _)) ?_
  have := total_foldl L []
  simpa [cleaned, total] using this

theorem total_set {L : List (List Int)} {i : Nat} (hi : i < L.length) (x : List Int) : total (L.set i x) + L[i].length = total L + x.length := by
  induction L generalizing i with
  | nil => simp at hi
  | cons y r ih =>
    cases i with
    | zero => simp [total]; omega
    | succ i =>
      have := ih (i := i) (by simpa using hi)
      simp [total] at this ⊢
      omega

theorem filter_lt {l : List Int} {p : Int → Bool} {x : Int} (hx : x ∈ l) (hp : p x = false) : (l.filter p).length < l.length := by
  refine Nat.lt_of_le_of_ne (List.length_filter_le _ _) fun e => ?_
  have := List.length_filter_eq_length_iff.1 e x hx
  rw [hp] at this
  cases this

theorem total_stronger {L L' : List (List Int)} (hs : stronger L = some L') : total L' < total L := by
  unfold stronger at hs
  rw [Option.map_eq_some_iff] at hs
  obtain ⟨i, hi, rfl⟩ := hs
  obtain ⟨h1, h2⟩ := first_spec hi
  obtain ⟨hx, _⟩ := weaker_spec h1 h2
  have ht := total_subsumed (L.set i ((L.getD i []).filter fun y => !decide (y = weaker L i)))
  have hs := total_set h1 ((L.getD i []).filter fun y => !decide (y = weaker L i))
  have hf := filter_lt (p := fun y => !decide (y = weaker L i)) hx (by simp)
  rw [getD_at h1] at hs ht
  unfold less
  rw [getD_at h1]
  omega

theorem steps_total {L L' : List (List Int)} (hs : Steps L L') : total L' ≤ total L := by
  induction hs with
  | refl => exact Nat.le_refl _
  | tail h1 h2 ih => exact Nat.le_trans (Nat.le_of_lt (total_stronger h2)) ih

theorem mem_total {L : List (List Int)} {l : List Int} (h : l ∈ L) : l.length ≤ total L := by
  induction L with
  | nil => simp at h
  | cons x r ih =>
    have e : total (x :: r) = x.length + total r := by simp [total]
    rcases List.mem_cons.1 h with rfl | h
    · omega
    · have := ih h; omega

theorem total_le {L : List (List Int)} {b : Nat} (h : ∀ l ∈ L, l.length ≤ b) : total L ≤ L.length * b := by
  induction L with
  | nil => simp [total]
  | cons x r ih =>
    have e : total (x :: r) = x.length + total r := by simp [total]
    have h1 := h x List.mem_cons_self
    have h2 := ih (fun l hl => h l (List.mem_cons_of_mem _ hl))
    rw [List.length_cons, Nat.add_mul]
    omega

/-- What holds all along. -/
theorem along {cls L : List (List Int)} (h1 : cls.length ≤ 1048576) (h2 : ∀ l ∈ cls, l.length ≤ 1024) (hw : ∀ l ∈ cls, Wf l) (hs : Steps (subsumed cls) L) :
    L.length ≤ 1048576 ∧ (∀ l ∈ L, l.length ≤ 1073741824) := by
  refine ⟨Nat.le_trans (len_steps hs) (Nat.le_trans (subsumed_len cls) h1), fun l hl => ?_⟩
  have ht := total_le (b := 1024) h2
  have := Nat.mul_le_mul_right 1024 h1
  exact Nat.le_trans (mem_total hl) (Nat.le_trans (steps_total hs) (Nat.le_trans (total_subsumed cls) (by omega)))

theorem wf_stronger {L L' : List (List Int)} (hw : ∀ l ∈ L, Wf l) (hs : stronger L = some L') : ∀ l ∈ L', Wf l := by
  unfold stronger at hs
  rw [Option.map_eq_some_iff] at hs
  obtain ⟨i, hi, rfl⟩ := hs
  exact wf_subsumed (wf_set hw)

theorem wf_steps {L L' : List (List Int)} (hw : ∀ l ∈ L, Wf l) (hs : Steps L L') : ∀ l ∈ L', Wf l := by
  induction hs with
  | refl => exact hw
  | tail h1 h2 ih => exact wf_stronger ih h2

/-! ### What is left. -/
theorem stuck {n : Nat} {L : List (List Int)} (h : Neat n L) (hs : stronger L = none) {i k : Nat} (hi : i < L.length) (hk : k < L.length) (hne : k ≠ i) {x : Int} (hx : x ∈ L[i]) :
    ¬ (wrap64 (-x) ∈ L[k] ∧ ∀ y ∈ L[k], y ≠ wrap64 (-x) → y ∈ L[i]) := by
  rintro ⟨h1, h2⟩
  have ht := (taken_iff hi).2 ⟨k, hk, hne, h1, h2⟩
  unfold stronger first at hs
  rw [Option.map_eq_none_iff, List.find?_eq_none] at hs
  have hw := hs i (List.mem_range.2 hi)
  have hw0 : weaker L i = 0 := by simpa using hw
  unfold weaker at hw0
  rw [getD_at hi] at hw0
  cases hf : L[i].find? (taken L i) with
  | none =>
    have := List.find?_eq_none.1 hf x hx
    exact this ht
  | some y =>
    rw [hf] at hw0
    simp at hw0
    subst hw0
    have hm := List.mem_of_find?_eq_some hf
    have := h.clean.norm _ (List.getElem_mem hi)
    rw [← this] at hm
    exact (RefC.mem_norm.1 hm).2 rfl

end Go.Proofs.Ythhkngpbaflfiaa.Pre
