/-
  The units as the reference keeps them, a list of literals, against the state of -1, 0, 1: plain lists, no program.
-/
import Derived.Test.YtpanpfbhdcanhaaNormS
import Derived.Test.YtpanpfbhdcanhaaRefLeft
import Derived.Test.YtpanpfbhdcanhaaUnits
namespace Go.Proofs.Ytpanpfbhdcanhaa.RefU
open RefC
set_option linter.unusedVariables false
set_option linter.unusedSimpArgs false

open UnitsP (lit)

theorem getD_set (σ : List Int) (i j : Nat) (v : Int) (hi : i < σ.length) : (σ.set i v).getD j 0 = if i = j then v else σ.getD j 0 := by
  rw [List.getD_eq_getElem?_getD, List.getElem?_set, List.getD_eq_getElem?_getD]
  by_cases h : i = j
  · subst h; simp [hi]
  · simp [h]

theorem value_put {σ : List Int} {x y : Int} (hx : lit σ.length x) (hy : lit σ.length y) : UnitsP.value (UnitsP.put σ x) y = if y = x then 1 else if y = -x then -1 else UnitsP.value σ y := by
  obtain ⟨x0, x1, x2⟩ := hx
  obtain ⟨y0, y1, y2⟩ := hy
  unfold UnitsP.value UnitsP.put
  by_cases hxn : x < 0
  · simp only [if_pos hxn]
    rw [getD_set _ _ _ _ (by omega), getD_set _ _ _ _ (by omega)]
    by_cases hyn : y < 0
    · simp only [if_pos hyn]
      by_cases h : y = x
      · subst h; simp
      · rw [if_neg (by omega), if_neg h, if_neg (by omega)]
    · simp only [if_neg hyn]
      by_cases h : y = -x
      · subst h; rw [if_pos rfl, if_neg (by omega), if_pos rfl]
      · rw [if_neg (by omega), if_neg (by omega), if_neg h]
  · simp only [if_neg hxn]
    rw [getD_set _ _ _ _ (by omega), getD_set _ _ _ _ (by omega)]
    by_cases hyn : y < 0
    · simp only [if_pos hyn]
      by_cases h : y = -x
      · subst h; rw [if_pos (by omega), if_neg (by omega), if_pos rfl]
      · rw [if_neg (by omega), if_neg (by omega), if_neg h]
    · simp only [if_neg hyn]
      by_cases h : y = x
      · subst h; simp
      · rw [if_neg (by omega), if_neg h, if_neg (by omega)]

theorem value_neg {σ : List Int} {x : Int} (h : x ≠ 0) : UnitsP.value σ (-x) = -UnitsP.value σ x := by
  unfold UnitsP.value
  by_cases hx : x < 0
  · rw [if_pos hx, if_neg (by omega)]; omega
  · rw [if_neg hx, if_pos (by omega)]; simp

/-- The list's literals are those that the state has. -/
structure Rel (σ set : List Int) : Prop where
  small : Units.Small σ
  zero : σ.getD 0 0 = 0
  lits : ∀ x ∈ set, lit σ.length x
  val : ∀ x, lit σ.length x → valueL set x = UnitsP.value σ x

theorem valueL_cases (set : List Int) (x : Int) : (valueL set x = 1 ∧ x ∈ set) ∨ (valueL set x = -1 ∧ x ∉ set ∧ -x ∈ set) ∨ (valueL set x = 0 ∧ x ∉ set ∧ -x ∉ set) := by
  unfold valueL
  by_cases h1 : x ∈ set
  · exact .inl ⟨if_pos h1, h1⟩
  · by_cases h2 : -x ∈ set
    · exact .inr (.inl ⟨by rw [if_neg h1, if_pos h2], h1, h2⟩)
    · exact .inr (.inr ⟨by rw [if_neg h1, if_neg h2], h1, h2⟩)

theorem put_zero {σ : List Int} {x : Int} (hx : lit σ.length x) (h : σ.getD 0 0 = 0) : (UnitsP.put σ x).getD 0 0 = 0 := by
  obtain ⟨x0, x1, x2⟩ := hx
  unfold UnitsP.put
  by_cases hn : x < 0
  · rw [if_pos hn, getD_set _ _ _ _ (by omega), if_neg (by omega)]; exact h
  · rw [if_neg hn, getD_set _ _ _ _ (by omega), if_neg (by omega)]; exact h

theorem rel_new {σ set : List Int} (h : Rel σ set) {x : Int} (hx : lit σ.length x) (h0 : valueL set x = 0) : Rel (UnitsP.put σ x) (set ++ [x]) := by
  rcases valueL_cases set x with ⟨e, _⟩ | ⟨e, _⟩ | ⟨_, n1, n2⟩
  · rw [e] at h0; cases h0
  · rw [e] at h0; cases h0
  · refine ⟨Units.small_put h.small x, put_zero hx h.zero, ?_, ?_⟩
    · rw [UnitsP.put_length]
      intro y hy
      rcases List.mem_append.1 hy with hy | hy
      · exact h.lits y hy
      · simp at hy; subst hy; exact hx
    · rw [UnitsP.put_length]
      intro y hy
      rw [value_put hx hy, ← h.val y hy]
      have hx0 := hx.1
      have hy0 := hy.1
      unfold valueL
      simp only [List.mem_append, List.mem_singleton]
      by_cases e1 : y = x
      · subst e1; simp
      · by_cases e2 : y = -x
        · subst e2
          rw [if_neg (by rintro (hm | hm); exact n2 hm; omega), if_pos (.inr (by omega)), if_neg (by omega), if_pos rfl]
        · rw [if_neg e1, if_neg e2]
          by_cases m1 : y ∈ set
          · rw [if_pos (.inl m1), if_pos m1]
          · by_cases m2 : -y ∈ set
            · rw [if_neg (by rintro (hm | hm); exact m1 hm; exact e1 hm), if_pos (.inl m2), if_neg m1, if_pos m2]
            · rw [if_neg (by rintro (hm | hm); exact m1 hm; exact e1 hm), if_neg (by rintro (hm | hm); exact m2 hm; omega), if_neg m1, if_neg m2]

theorem rel_old {σ set : List Int} (h : Rel σ set) {x : Int} (hx : lit σ.length x) (h1 : valueL set x = 1) : Rel (UnitsP.put σ x) set := by
  have hv : UnitsP.value σ x = 1 := by rw [← h.val x hx]; exact h1
  refine ⟨Units.small_put h.small x, put_zero hx h.zero, by rw [UnitsP.put_length]; exact h.lits, ?_⟩
  rw [UnitsP.put_length]
  intro y hy
  rw [value_put hx hy, h.val y hy]
  by_cases e1 : y = x
  · subst e1; rw [if_pos rfl, hv]
  · by_cases e2 : y = -x
    · subst e2; rw [if_neg e1, if_pos rfl, value_neg hx.1, hv]
    · rw [if_neg e1, if_neg e2]

theorem rel_start (V : Nat) : Rel (List.replicate (V + 1) 0) [] := by
  have hz : ∀ k, (List.replicate (V + 1) (0 : Int)).getD k 0 = 0 := by
    intro k
    rw [List.getD_eq_getElem?_getD, List.getElem?_replicate]
    split <;> simp
  refine ⟨fun k => by rw [hz]; omega, hz 0, by simp, fun x hx => ?_⟩
  unfold valueL UnitsP.value
  rw [hz, hz]
  simp

/-- The clause's one literal, reckoned both ways. -/
theorem askGo_left {σ set : List Int} (h : Rel σ set) : ∀ (l : List Int) (op found f : Int) (m : Bool), (∀ x ∈ l, lit σ.length x) →
    ((op = 0 ∧ f = 0 ∧ m = false) ∨ (op = 1 ∧ f = found ∧ found ≠ 0 ∧ m = false) ∨ (1 < op ∧ m = true)) →
    leftGo set l f m = match UnitsP.askGo σ l op found with | none => (0, false) | some x => (x, true) := by
  intro l
  induction l with
  | nil =>
    intro op found f m _ hi
    rcases hi with ⟨rfl, rfl, rfl⟩ | ⟨rfl, rfl, h0, rfl⟩ | ⟨h1, rfl⟩
    · simp [leftGo, UnitsP.askGo]
    · simp [leftGo, UnitsP.askGo, h0]
    · simp only [leftGo, UnitsP.askGo, if_true]
      rw [if_neg (by omega), if_pos h1]
  | cons x r ih =>
    intro op found f m hl hi
    have hx := hl x List.mem_cons_self
    have hr : ∀ y ∈ r, lit σ.length y := fun y hy => hl y (List.mem_cons_of_mem _ hy)
    have hv := h.val x hx
    have hx0 := hx.1
    simp only [leftGo, UnitsP.askGo]
    rcases valueL_cases set x with ⟨e, h1⟩ | ⟨e, h1, h2⟩ | ⟨e, h1, h2⟩
    · rw [if_pos h1, ← hv, e]; rfl
    · rw [if_neg h1, if_pos h2, ← hv, e]
      rw [if_neg (by omega), if_neg (by omega), if_neg (by omega)]
      exact ih op found f m hr hi
    · rw [if_neg h1, if_neg h2, ← hv, e]
      rw [if_neg (by omega)]
      rcases hi with ⟨rfl, rfl, rfl⟩ | ⟨rfl, rfl, h0, rfl⟩ | ⟨h3, rfl⟩
      · rw [if_pos ⟨rfl, rfl⟩]
        exact ih 1 x x _ hr (.inr (.inl ⟨rfl, rfl, hx0, by simp⟩))
      · rw [if_neg (by omega)]
        by_cases hxf : x = f
        · subst hxf
          rw [if_neg (by rintro ⟨_, h⟩; exact h rfl)]
          exact ih 1 x x _ hr (.inr (.inl ⟨rfl, rfl, hx0, by simp⟩))
        · rw [if_pos ⟨rfl, hxf⟩]
          exact ih (1 + 1) f x _ hr (.inr (.inr ⟨by omega, by simp [h0]; omega⟩))
      · rw [if_neg (by omega)]
        by_cases hxf : x = found
        · subst hxf
          rw [if_neg (by rintro ⟨_, h⟩; exact h rfl)]
          exact ih op x x _ hr (.inr (.inr ⟨h3, by simp⟩))
        · rw [if_pos ⟨rfl, hxf⟩]
          exact ih (op + 1) found x _ hr (.inr (.inr ⟨by omega, by simp⟩))

theorem ask_left {σ set : List Int} (h : Rel σ set) (l : List Int) (hl : ∀ x ∈ l, lit σ.length x) : left l set = match UnitsP.ask σ l with | none => (0, false) | some x => (x, true) :=
  askGo_left h l 0 0 0 false hl (.inl ⟨rfl, rfl, rfl⟩)

/-- What is told of the state, from a variable on. -/
theorem mem_told {σ : List Int} (hs : Units.Small σ) : ∀ (τ : List Int) (v : Nat), (∀ k, k < τ.length → τ.getD k 0 = σ.getD (v + k) 0) → ∀ y, y ∈ UnitsP.told τ v ↔ ∃ k, k < τ.length ∧ τ.getD k 0 ≠ 0 ∧ y = τ.getD k 0 * ((v + k : Nat) : Int) := by
  intro τ
  induction τ with
  | nil => intro v _ y; simp [UnitsP.told]
  | cons n r ih =>
    intro v hk y
    have h0 := hk 0 (by simp)
    have hr := ih (v + 1) (fun k hkr => by
      have := hk (k + 1) (by simpa using hkr)
      simp only [List.getD_cons_succ] at this
      rw [this]; congr 1; omega) y
    simp only [UnitsP.told, List.mem_append]
    rw [hr]
    constructor
    · rintro (h | ⟨k, h1, h2, h3⟩)
      · by_cases hn : n ≠ 0
        · rw [if_pos hn] at h
          simp at h
          exact ⟨0, by simp, by simpa using hn, by simpa using h⟩
        · rw [if_neg hn] at h
          cases h
      · refine ⟨k + 1, by simpa using h1, by simpa using h2, ?_⟩
        rw [h3, List.getD_cons_succ]
        congr 2; omega
    · rintro ⟨k, h1, h2, h3⟩
      cases k with
      | zero =>
        left
        simp at h2 h3
        rw [if_pos h2]
        simp [h3]
      | succ k =>
        right
        refine ⟨k, by simpa using h1, by simpa using h2, ?_⟩
        rw [h3, List.getD_cons_succ]
        congr 2; omega

theorem absI_small {x : Int} (h : -9223372036854775808 < x) : Clause.absI x = max x (-x) := if_neg (by omega)

theorem told_sorted : ∀ (τ : List Int) (v : Nat), (∀ k, -1 ≤ τ.getD k 0 ∧ τ.getD k 0 ≤ 1) → v + τ.length ≤ 1073741824 →
    (UnitsP.told τ v).Pairwise Less ∧ ∀ y ∈ UnitsP.told τ v, (v : Int) ≤ Clause.absI y := by
  intro τ
  induction τ with
  | nil => intro v _ _; exact ⟨List.Pairwise.nil, by simp [UnitsP.told]⟩
  | cons n r ih =>
    intro v hk hb
    simp only [List.length_cons] at hb
    have hr := ih (v + 1) (fun k => by have := hk (k + 1); simpa using this) (by omega)
    have h0 := hk 0
    simp only [List.getD_cons_zero] at h0
    simp only [UnitsP.told]
    by_cases hn : n ≠ 0
    · rw [if_pos hn]
      have hav : Clause.absI (n * (v : Int)) = v := by
        have hcase : n = 1 ∨ n = -1 := by omega
        rcases hcase with rfl | rfl
        · rw [absI_small (by omega)]; omega
        · rw [absI_small (by omega)]; omega
      refine ⟨?_, ?_⟩
      · rw [List.singleton_append, List.pairwise_cons]
        refine ⟨fun y hy => ?_, hr.1⟩
        rw [less_iff, hav]
        have := hr.2 y hy
        omega
      · intro y hy
        rw [List.singleton_append] at hy
        rcases List.mem_cons.1 hy with rfl | hy
        · rw [hav]; omega
        · have := hr.2 y hy; omega
    · rw [if_neg hn, List.nil_append]
      exact ⟨hr.1, fun y hy => by have := hr.2 y hy; omega⟩

/-- In order, the list is what is told of the state. -/
theorem norm_told {σ set : List Int} (h : Rel σ set) (hb : σ.length ≤ 1073741824) : norm set = UnitsP.told σ 0 := by
  refine sorted_ext _ _ (norm_sorted set) (told_sorted σ 0 h.small (by omega)).1 fun x => ?_
  rw [mem_norm, mem_told h.small σ 0 (fun k _ => by simp) x]
  constructor
  · rintro ⟨hx, hx0⟩
    have hlx := h.lits x hx
    have hv : UnitsP.value σ x = 1 := by
      rw [← h.val x hlx]
      exact if_pos hx
    obtain ⟨_, l1, l2⟩ := hlx
    unfold UnitsP.value at hv
    by_cases hn : x < 0
    · rw [if_pos hn] at hv
      refine ⟨(-x).toNat, by omega, by omega, ?_⟩
      have e : σ.getD (-x).toNat 0 = -1 := by omega
      rw [e]; omega
    · rw [if_neg hn] at hv
      refine ⟨x.toNat, by omega, by omega, ?_⟩
      rw [hv]; omega
  · rintro ⟨k, hk, h0, rfl⟩
    have hs := h.small k
    have hk0 : k ≠ 0 := by
      intro e
      subst e
      exact h0 h.zero
    have hcase : σ.getD k 0 = 1 ∨ σ.getD k 0 = -1 := by omega
    have key : ∀ y : Int, lit σ.length y → UnitsP.value σ y = 1 → y ∈ set := by
      intro y hy hv
      rw [← h.val y hy] at hv
      rcases valueL_cases set y with ⟨_, hm⟩ | ⟨e, _⟩ | ⟨e, _⟩
      · exact hm
      · rw [e] at hv; cases hv
      · rw [e] at hv; cases hv
    rcases hcase with e | e
    · rw [e]
      have hy : lit σ.length ((k : Nat) : Int) := ⟨by omega, by omega, by omega⟩
      have hm := key _ hy (by unfold UnitsP.value; rw [if_neg (by omega)]; simpa using e)
      simp only [Nat.zero_add, Int.one_mul]
      exact ⟨hm, by omega⟩
    · rw [e]
      have hy : lit σ.length (-((k : Nat) : Int)) := ⟨by omega, by omega, by omega⟩
      have hm := key _ hy (by unfold UnitsP.value; rw [if_pos (by omega)]; simp only [Int.neg_neg, Int.toNat_natCast]; rw [e]; rfl)
      have e2 : (-1 : Int) * ((0 + k : Nat) : Int) = -((k : Nat) : Int) := by omega
      rw [e2]
      exact ⟨hm, by omega⟩

end Go.Proofs.Ytpanpfbhdcanhaa.RefU
