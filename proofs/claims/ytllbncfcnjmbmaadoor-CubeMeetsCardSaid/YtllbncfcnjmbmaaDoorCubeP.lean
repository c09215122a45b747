/-
  Cubes and states as plain lists: what a text of trits says; whether a literal is so in a state. No program.
-/
import Derived.Test.YtllbncfcnjmbmaaDoorBase
namespace Go.Proofs.YtllbncfcnjmbmaaDoor.CubeP

/-- What one trit says at a place. -/
def trit (c : UInt8) (i : Nat) : List Int := if c = 49 then [(i : Int) + 1] else if c = 48 then [-(i : Int) - 1] else []

def ofT : List UInt8 → Nat → List Int
  | [], _ => []
  | c :: r, i => trit c i ++ ofT r (i + 1)

theorem ofT_snoc (l : List UInt8) (c : UInt8) (i : Nat) : ofT (l ++ [c]) i = ofT l i ++ trit c (i + l.length) := by
  induction l generalizing i with
  | nil => simp [ofT]
  | cons d r ih =>
    simp only [List.cons_append, ofT, ih, List.append_assoc, List.length_cons]
    rw [show i + 1 + r.length = i + (r.length + 1) by omega]

theorem ofT_len (l : List UInt8) (i : Nat) : (ofT l i).length ≤ l.length := by
  induction l generalizing i with
  | nil => simp [ofT]
  | cons d r ih =>
    have := ih (i + 1)
    simp only [ofT, List.length_append, List.length_cons]
    have : (trit d i).length ≤ 1 := by unfold trit; split <;> (try split) <;> simp
    omega

/-- Is a literal so? -/
def is (s : List UInt8) (l : Int) : Bool :=
  decide (1 ≤ max l (-l)) && decide (max l (-l) ≤ s.length) && ((s.getD ((max l (-l)).toNat - 1) 0 == 49) == decide (0 < l))

/-- Is a state in a cube? -/
def inC (l : List Int) (s : List UInt8) : Bool := !(l.any fun x => !is s x)

/-! ### A state's own cube. -/
def bit (c : UInt8) : Bool := c == 48 || c == 49

theorem bit_or {c : UInt8} (h : bit c = true) : c = 49 ∨ (c ≠ 49 ∧ c = 48) := by
  unfold bit at h
  simp only [Bool.or_eq_true, beq_iff_eq] at h
  rcases h with h | h
  · exact .inr ⟨by rw [h]; decide, h⟩
  · exact .inl h

theorem trit_one {c : UInt8} (h : bit c = true) (i : Nat) : trit c i = [if c = 49 then (i : Int) + 1 else -((i : Int) + 1)] := by
  unfold trit
  rcases bit_or h with h | ⟨h1, h⟩
  · rw [if_pos h, if_pos h]
  · rw [if_neg h1, if_pos h, if_neg h1]; congr 1; omega

theorem ofT_length (l : List UInt8) (i : Nat) (h : l.all bit = true) : (ofT l i).length = l.length := by
  induction l generalizing i with
  | nil => rfl
  | cons c r ih =>
    simp only [List.all_cons, Bool.and_eq_true] at h
    simp only [ofT, List.length_append, List.length_cons, trit_one h.1, ih (i + 1) h.2, List.length_nil]
    omega

theorem ofT_at (l : List UInt8) (i k : Nat) (h : l.all bit = true) (hk : k < l.length) : (ofT l i)[k]? = some (if l[k] = 49 then (i : Int) + k + 1 else -((i : Int) + k + 1)) := by
  induction l generalizing i k with
  | nil => simp at hk
  | cons c r ih =>
    simp only [List.all_cons, Bool.and_eq_true] at h
    simp only [ofT, trit_one h.1, List.singleton_append]
    cases k with
    | zero => simp
    | succ k =>
      rw [List.getElem?_cons_succ, ih (i + 1) k h.2 (by simpa using hk)]
      simp only [List.getElem_cons_succ]
      congr 1
      split <;> push_cast <;> omega

theorem is_lit (l : List UInt8) (k : Nat) (hk : k < l.length) (b : Bool) : is l (if b then (k : Int) + 1 else -((k : Int) + 1)) = ((l[k] == 49) == b) := by
  unfold is
  have e : max (if b then (k : Int) + 1 else -((k : Int) + 1)) (-(if b then (k : Int) + 1 else -((k : Int) + 1))) = (k : Int) + 1 := by split <;> omega
  have e2 : ((k : Int) + 1).toNat - 1 = k := by omega
  have e3 : decide (0 < if b then (k : Int) + 1 else -((k : Int) + 1)) = b := by cases b <;> simp <;> omega
  rw [e, e2, e3, decide_eq_true (by omega), decide_eq_true (p := (k : Int) + 1 ≤ (l.length : Int)) (by omega), List.getD_eq_getElem?_getD, List.getElem?_eq_getElem hk]
  simp

theorem is_own (l : List UInt8) (k : Nat) (h : l.all bit = true) (hk : k < l.length) (x : Int) (hx : (ofT l 0)[k]? = some x) : is l x = true ∧ is l (-x) = false := by
  rw [ofT_at l 0 k h hk] at hx
  simp only [Option.some.injEq] at hx
  have h1 := is_lit l k hk (l[k] == 49)
  have h2 := is_lit l k hk (!(l[k] == 49))
  by_cases h49 : l[k] = 49
  · rw [if_pos h49] at hx
    simp only [h49, beq_self_eq_true, if_true, Bool.not_true, Bool.false_eq_true, if_false] at h1 h2
    have ex : x = (k : Int) + 1 := by omega
    subst ex
    exact ⟨h1, h2⟩
  · rw [if_neg h49] at hx
    have hb : (l[k] == 49) = false := by simpa using h49
    simp only [hb, Bool.false_eq_true, if_false, Bool.not_false, if_true] at h1 h2
    have ex : x = -((k : Int) + 1) := by omega
    subst ex
    refine ⟨by simpa using h1, ?_⟩
    rw [Int.neg_neg]
    simpa using h2

theorem in_of (l : List UInt8) (xs : List Int) (h : ∀ x ∈ xs, is l x = true) : inC xs l = true := by
  unfold inC
  rw [Bool.not_eq_true', List.any_eq_false]
  intro x hx
  rw [h x hx]; decide

theorem in_self (l : List UInt8) (h : l.all bit = true) : ∀ x ∈ ofT l 0, is l x = true := by
  intro x hx
  obtain ⟨k, hk, rfl⟩ := List.mem_iff_getElem.1 hx
  have hk' : k < l.length := by rw [← ofT_length l 0 h]; exact hk
  exact (is_own l k h hk' _ (List.getElem?_eq_getElem hk)).1

theorem in_other (l : List UInt8) (h : l.all bit = true) (k : Nat) (hk : k < (ofT l 0).length) : inC ((ofT l 0).set k (-(ofT l 0)[k])) l = false := by
  unfold inC
  rw [Bool.not_eq_false', List.any_eq_true]
  have hk' : k < l.length := by rw [← ofT_length l 0 h]; exact hk
  refine ⟨-(ofT l 0)[k], List.mem_iff_getElem.2 ⟨k, by simpa using hk, by simp⟩, ?_⟩
  rw [(is_own l k h hk' _ (List.getElem?_eq_getElem hk)).2]
  rfl

theorem ofT_bd (l : List UInt8) (i : Nat) : ∀ x ∈ ofT l i, -((i : Int) + l.length) ≤ x ∧ x ≤ (i : Int) + l.length := by
  induction l generalizing i with
  | nil => simp [ofT]
  | cons c r ih =>
    intro x hx
    simp only [ofT, List.mem_append] at hx
    simp only [List.length_cons]
    rcases hx with hx | hx
    · unfold trit at hx
      split at hx
      · simp at hx; omega
      · split at hx
        · simp at hx; omega
        · simp at hx
    · have := ih (i + 1) x hx
      omega

end Go.Proofs.YtllbncfcnjmbmaaDoor.CubeP
