/-
  A formula without a variable, as plain lists. No program.
-/
import Derived.Test.YthhkngpbaflfiaaPreQ
import Derived.Test.YthhkngpbaflfiaaClauseP
namespace Go.Proofs.Ythhkngpbaflfiaa.Elim
set_option linter.unusedVariables false
set_option linter.unusedSimpArgs false
open RefC (norm always)
open Clause (Wf both absI)
open Pre

def withs (l : List (List Int)) (v : Int) : List (List Int) := l.filter fun x => decide (v ∈ x)
def agains (l : List (List Int)) (v : Int) : List (List Int) := l.filter fun x => !decide (v ∈ x) && decide (-v ∈ x)
def rests (l : List (List Int)) (v : Int) : List (List Int) := l.filter fun x => !decide (v ∈ x) && !decide (-v ∈ x)
def row (x : List Int) (a : List (List Int)) (v : Int) : List (List Int) := a.map fun y => (Clause.resolve x y v).1
def resos (w a : List (List Int)) (v : Int) : List (List Int) := w.flatMap fun x => row x a v
def all (l : List (List Int)) (v : Int) : List (List Int) := rests l v ++ resos (withs l v) (agains l v) v
def elim (l : List (List Int)) (v : Int) : List (List Int) := cleaned (all l v)

theorem res_eq {l : List (List Int)} {v : Int} (hv : 1 ≤ v) {x y : List Int} (hx : x ∈ withs l v) (hy : y ∈ agains l v) :
    (Clause.resolve x y v).1 = norm (x.filter (fun z => !decide (z = v)) ++ y.filter (fun z => !decide (z = -v))) := by
  have h1 : v ∈ x := by simpa using (List.mem_filter.1 hx).2
  have h2 : -v ∈ y := by have := (List.mem_filter.1 hy).2; simp at this; exact this.2
  unfold Clause.resolve
  rw [if_neg (by rintro (h | h | h); omega; exact h h1; exact h h2)]

theorem mem_all {l : List (List Int)} {v : Int} {z : List Int} : z ∈ all l v ↔ z ∈ rests l v ∨ ∃ x ∈ withs l v, ∃ y ∈ agains l v, z = (Clause.resolve x y v).1 := by
  unfold all resos row
  rw [List.mem_append, List.mem_flatMap]
  refine or_congr Iff.rfl ?_
  constructor
  · rintro ⟨x, hx, h⟩
    obtain ⟨y, hy, rfl⟩ := List.mem_map.1 h
    exact ⟨x, hx, y, hy, rfl⟩
  · rintro ⟨x, hx, y, hy, rfl⟩
    exact ⟨x, hx, List.mem_map.2 ⟨y, hy, rfl⟩⟩

/-- No clause has both of a variable. -/
def Apt (l : List (List Int)) (v : Int) : Prop := ∀ x ∈ l, v ∈ x → -v ∉ x

theorem apt_cleaned {L : List (List Int)} (hw : ∀ l ∈ L, Wf l) {v : Int} (hv : 1 ≤ v) : Apt (cleaned L) v := by
  intro x hx h1 h2
  obtain ⟨z, hz, rfl, ha⟩ := mem_cleaned.1 hx
  rw [Clause.always_both (hw z hz)] at ha
  have : both z = true := Clause.both_iff.2 ⟨v, (RefC.mem_norm.1 h1).1, by omega, (RefC.mem_norm.1 h2).1⟩
  rw [ha] at this
  cases this

theorem no_var {l : List (List Int)} {v : Int} (hv : 1 ≤ v) (ha : Apt l v) : ∀ z ∈ all l v, v ∉ z ∧ -v ∉ z := by
  intro z hz
  rcases mem_all.1 hz with h | ⟨x, hx, y, hy, rfl⟩
  · have := (List.mem_filter.1 h).2
    simpa using this
  · rw [res_eq hv hx hy]
    have hxl := (List.mem_filter.1 hx).1
    have hvx : v ∈ x := by simpa using (List.mem_filter.1 hx).2
    have hy2 := (List.mem_filter.1 hy).2
    simp at hy2
    refine ⟨fun h => ?_, fun h => ?_⟩
    · have h' := (RefC.mem_norm.1 h).1
      rw [List.mem_append, List.mem_filter, List.mem_filter] at h'
      rcases h' with h' | h'
      · simp at h'
      · exact hy2.1 h'.1
    · have h' := (RefC.mem_norm.1 h).1
      rw [List.mem_append, List.mem_filter, List.mem_filter] at h'
      rcases h' with h' | h'
      · exact ha x hxl hvx h'.1
      · simp at h'

theorem elim_no {l : List (List Int)} {v : Int} (hv : 1 ≤ v) (ha : Apt l v) : ∀ z ∈ elim l v, v ∉ z ∧ -v ∉ z := by
  intro z hz
  obtain ⟨y, hy, rfl, _⟩ := mem_cleaned.1 hz
  have := no_var hv ha y hy
  exact ⟨fun h => this.1 (RefC.mem_norm.1 h).1, fun h => this.2 (RefC.mem_norm.1 h).1⟩

theorem mem_parts {l : List (List Int)} {v : Int} {x : List Int} (h : x ∈ withs l v ∨ x ∈ agains l v ∨ x ∈ rests l v) : x ∈ l := by
  rcases h with h | h | h <;> exact (List.mem_filter.1 h).1

/-- What literals are in what is left: none but l's. -/
theorem all_lits {l : List (List Int)} {v : Int} (hv : 1 ≤ v) {z : List Int} (hz : z ∈ all l v) {q : Int} (hq : q ∈ z) : ∃ x ∈ l, q ∈ x := by
  rcases mem_all.1 hz with h | ⟨x, hx, y, hy, rfl⟩
  · exact ⟨z, mem_parts (.inr (.inr h)), hq⟩
  · rw [res_eq hv hx hy] at hq
    have h' := (RefC.mem_norm.1 hq).1
    rw [List.mem_append, List.mem_filter, List.mem_filter] at h'
    rcases h' with h' | h'
    · exact ⟨x, mem_parts (.inl hx), h'.1⟩
    · exact ⟨y, mem_parts (.inr (.inl hy)), h'.1⟩

theorem all_inR {n : Nat} {l : List (List Int)} {v : Int} (hv : 1 ≤ v) (h : InR n l) : InR n (all l v) := by
  intro z hz q hq
  obtain ⟨x, hx, hqx⟩ := all_lits hv hz hq
  exact h x hx q hqx

theorem all_wf {l : List (List Int)} {v : Int} (hv : 1 ≤ v) (h : ∀ x ∈ l, Wf x) : ∀ z ∈ all l v, Wf z := by
  intro z hz q hq
  obtain ⟨x, hx, hqx⟩ := all_lits hv hz hq
  exact h x hx q hqx

theorem all_len {l : List (List Int)} {v : Int} (hv : 1 ≤ v) {m : Nat} (h : ∀ x ∈ l, x.length ≤ m) : ∀ z ∈ all l v, z.length ≤ 2 * m := by
  intro z hz
  rcases mem_all.1 hz with hr | ⟨x, hx, y, hy, rfl⟩
  · have := h z (mem_parts (.inr (.inr hr))); omega
  · rw [res_eq hv hx hy]
    have h1 := Clause.norm_len (x.filter (fun z => !decide (z = v)) ++ y.filter (fun z => !decide (z = -v)))
    rw [List.length_append] at h1
    have h2 := List.length_filter_le (fun z => !decide (z = v)) x
    have h3 := List.length_filter_le (fun z => !decide (z = -v)) y
    have h4 := h x (mem_parts (.inl hx))
    have h5 := h y (mem_parts (.inr (.inl hy)))
    omega

/-! ### Models. -/
theorem sound {s : List UInt8} {l : List (List Int)} {v : Int} (hv : 1 ≤ v) (h : allT s l = true) : allT s (all l v) = true := by
  rw [allT_iff] at h ⊢
  intro z hz
  rcases mem_all.1 hz with hr | ⟨x, hx, y, hy, rfl⟩
  · exact h z (mem_parts (.inr (.inr hr)))
  · rw [res_eq hv hx hy]
    exact Clause.resolve_sound hv (h x (mem_parts (.inl hx))) (h y (mem_parts (.inr (.inl hy))))

/-- A bit set. -/
def put (s : List UInt8) (v : Int) (b : Bool) : List UInt8 := s.set (v.toNat - 1) (if b then 49 else 48)

theorem is_put_self {s : List UInt8} {v : Int} (hv : 1 ≤ v) (hs : v ≤ s.length) (b : Bool) : CubeP.is (put s v b) (if b then v else -v) = true := by
  have hk : v.toNat - 1 < s.length := by omega
  unfold CubeP.is put
  have e : ∀ c : Bool, max (if c then v else -v) (-(if c then v else -v)) = v := by intro c; cases c <;> simp <;> omega
  rw [e]
  have hg : ∀ c : UInt8, (s.set (v.toNat - 1) c).getD (v.toNat - 1) 0 = c := by
    intro c
    rw [List.getD_eq_getElem?_getD, List.getElem?_set_self hk]; rfl
  rw [hg]
  rw [List.length_set]
  have e1 : decide (1 ≤ v) = true := decide_eq_true hv
  have e2 : decide (v ≤ (s.length : Int)) = true := decide_eq_true hs
  rw [e1, e2]
  cases b
  · have : decide (0 < (if false = true then v else -v)) = false := decide_eq_false (by simp; omega)
    rw [this]; decide
  · have : decide (0 < (if true = true then v else -v)) = true := decide_eq_true (by simp; omega)
    rw [this]; decide

theorem is_put_other {s : List UInt8} {v q : Int} (hv : 1 ≤ v) (h1 : q ≠ v) (h2 : q ≠ -v) (b : Bool) : CubeP.is (put s v b) q = CubeP.is s q := by
  unfold CubeP.is put
  rw [List.length_set]
  by_cases hq : 1 ≤ max q (-q)
  · have hne : v.toNat - 1 ≠ (max q (-q)).toNat - 1 := by omega
    have : (s.set (v.toNat - 1) (if b = true then 49 else 48)).getD ((max q (-q)).toNat - 1) 0 = s.getD ((max q (-q)).toNat - 1) 0 := by
      rw [List.getD_eq_getElem?_getD, List.getElem?_set_ne hne, ← List.getD_eq_getElem?_getD]
    rw [this]
  · rw [decide_eq_false hq]; simp

/-- What has a model without the variable has one with it, but for the variable's bit. -/
theorem complete {s : List UInt8} {l : List (List Int)} {v : Int} (hv : 1 ≤ v) (hs : v ≤ s.length) (ha : Apt l v) (h : allT s (all l v) = true) : ∃ b, allT (put s v b) l = true := by
  rw [allT_iff] at h
  have hrest : ∀ b, ∀ z ∈ rests l v, one (put s v b) z = true := by
    intro b z hz
    have hz' := h z (mem_all.2 (.inl hz))
    have hno := (List.mem_filter.1 hz).2
    simp at hno
    unfold one at hz' ⊢
    rw [List.any_eq_true] at hz' ⊢
    obtain ⟨q, hq, hi⟩ := hz'
    exact ⟨q, hq, by rw [is_put_other hv (by rintro rfl; exact hno.1 hq) (by rintro rfl; exact hno.2 hq)]; exact hi⟩
  have split : ∀ z ∈ l, z ∈ withs l v ∨ z ∈ agains l v ∨ z ∈ rests l v := by
    intro z hz
    unfold withs agains rests
    rw [List.mem_filter, List.mem_filter, List.mem_filter]
    by_cases h1 : v ∈ z
    · exact .inl ⟨hz, by simp [h1]⟩
    · by_cases h2 : -v ∈ z
      · exact .inr (.inl ⟨hz, by simp [h1, h2]⟩)
      · exact .inr (.inr ⟨hz, by simp [h1, h2]⟩)
  by_cases hex : ∃ x ∈ withs l v, (x.filter (fun z => !decide (z = v))).any (CubeP.is s) = false
  · obtain ⟨x, hx, hf⟩ := hex
    refine ⟨true, allT_iff.2 fun z hz => ?_⟩
    rcases split z hz with hz | hz | hz
    · have hvz : v ∈ z := by simpa using (List.mem_filter.1 hz).2
      unfold one
      rw [List.any_eq_true]
      exact ⟨v, hvz, by have := is_put_self hv hs true; simpa using this⟩
    · have hr := h _ (mem_all.2 (.inr ⟨x, hx, z, hz, rfl⟩))
      rw [res_eq hv hx hz] at hr
      unfold one at hr ⊢
      rw [Clause.any_norm, List.any_append, hf, Bool.false_or, List.any_eq_true] at hr
      obtain ⟨q, hq, hi⟩ := hr
      rw [List.mem_filter] at hq
      have hno := (List.mem_filter.1 hz).2
      simp at hno
      rw [List.any_eq_true]
      exact ⟨q, hq.1, by rw [is_put_other hv (by rintro rfl; exact hno.1 hq.1) (by simpa using hq.2)]; exact hi⟩
    · exact hrest true z hz
  · refine ⟨false, allT_iff.2 fun z hz => ?_⟩
    rcases split z hz with hz | hz | hz
    · have hvz : v ∈ z := by simpa using (List.mem_filter.1 hz).2
      have hzl := (List.mem_filter.1 hz).1
      have ht : (z.filter (fun q => !decide (q = v))).any (CubeP.is s) = true := by
        cases hq : (z.filter (fun q => !decide (q = v))).any (CubeP.is s)
        · exact absurd ⟨z, hz, hq⟩ hex
        · rfl
      rw [List.any_eq_true] at ht
      obtain ⟨q, hq, hi⟩ := ht
      rw [List.mem_filter] at hq
      unfold one
      rw [List.any_eq_true]
      exact ⟨q, hq.1, by rw [is_put_other hv (by simpa using hq.2) (by rintro rfl; exact ha z hzl hvz hq.1)]; exact hi⟩
    · have hno := (List.mem_filter.1 hz).2
      simp at hno
      unfold one
      rw [List.any_eq_true]
      exact ⟨-v, hno.2, by have := is_put_self hv hs false; simpa using this⟩
    · exact hrest false z hz

/-! ### How many clauses there are of few variables. -/
def subsOf : List Int → List (List Int)
  | [] => [[]]
  | x :: r => subsOf r ++ (subsOf r).map (x :: ·)

theorem subsOf_len (U : List Int) : (subsOf U).length = 2 ^ U.length := by
  induction U with
  | nil => rfl
  | cons x r ih =>
    rw [subsOf, List.length_append, List.length_map, ih, List.length_cons, Nat.pow_succ]
    omega

theorem filter_subsOf (U : List Int) (p : Int → Bool) : U.filter p ∈ subsOf U := by
  induction U with
  | nil => simp [subsOf]
  | cons x r ih =>
    rw [subsOf, List.mem_append, List.filter_cons]
    split
    · exact .inr (List.mem_map.2 ⟨_, ih, rfl⟩)
    · exact .inl ih

theorem nodup_le {α : Type} [DecidableEq α] : ∀ {a b : List α}, a.Nodup → (∀ x ∈ a, x ∈ b) → a.length ≤ b.length := by
  intro a
  induction a with
  | nil => intro b _ _; simp
  | cons x r ih =>
    intro b hn hs
    rw [List.nodup_cons] at hn
    have hx := hs x List.mem_cons_self
    have h := ih (b := b.erase x) hn.2 (fun y hy => (List.mem_erase_of_ne (by rintro rfl; exact hn.1 hy)).2 (hs y (List.mem_cons_of_mem _ hy)))
    rw [List.length_erase_of_mem hx] at h
    have := List.length_pos_of_mem hx
    simp only [List.length_cons]
    omega

def lits16 : List Int := [1, 2, 3, 4, 5, 6, 7, 8, -1, -2, -3, -4, -5, -6, -7, -8]

theorem few_len {L : List (List Int)} (hc : Pre.Clean L) (hr : InR 8 L) : L.length ≤ 65536 := by
  have h := nodup_le (b := (subsOf lits16).map norm) hc.nodup (fun x hx => by
    rw [List.mem_map]
    refine ⟨lits16.filter fun q => decide (q ∈ x), filter_subsOf _ _, ?_⟩
    refine norm_eq (Clause.norm_norm _) (hc.norm x hx) fun q => ?_
    rw [RefC.mem_norm, List.mem_filter]
    constructor
    · rintro ⟨⟨_, h⟩, _⟩
      simpa using h
    · intro hq
      have hb := hr x hx q hq
      unfold absI at hb
      refine ⟨⟨?_, by simpa using hq⟩, by rintro rfl; simp at hb⟩
      have : 1 ≤ q ∧ q ≤ 8 ∨ -8 ≤ q ∧ q ≤ -1 := by split at hb <;> omega
      have hq' : q = 1 ∨ q = 2 ∨ q = 3 ∨ q = 4 ∨ q = 5 ∨ q = 6 ∨ q = 7 ∨ q = 8 ∨ q = -1 ∨ q = -2 ∨ q = -3 ∨ q = -4 ∨ q = -5 ∨ q = -6 ∨ q = -7 ∨ q = -8 := by omega
      unfold lits16
      simpa using hq')
  rw [List.length_map, subsOf_len] at h
  exact h

end Go.Proofs.Ythhkngpbaflfiaa.Elim
