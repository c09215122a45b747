/-
  A number's bits are the string of that place among all: plain lists, no program.
-/
import Derived.Test.YthhkngpbaflfiaaBits
import Derived.Test.YthhkngpbaflfiaaModelsP
namespace Go.Proofs.Ythhkngpbaflfiaa.BruteP
open ModelsP Back
set_option linter.unusedVariables false
set_option linter.unusedSimpArgs false

def digits : Nat → Nat → List UInt8
  | 0, _ => []
  | k + 1, n => digits k (n / 2) ++ [UInt8.ofNat (48 + n % 2)]

theorem digits_len (k n : Nat) : (digits k n).length = k := by
  induction k generalizing n with
  | zero => rfl
  | succ k ih => simp [digits, ih]

theorem digits_cons (k n : Nat) : digits (k + 1) n = UInt8.ofNat (48 + n / 2 ^ k % 2) :: digits k n := by
  induction k generalizing n with
  | zero => simp [digits]
  | succ k ih =>
    rw [digits, ih (n / 2)]
    rw [digits, Nat.div_div_eq_div_mul, Nat.pow_succ, Nat.mul_comm 2 (2 ^ k)]
    rfl

theorem st_down (V N : Nat) : ∀ k, k ≤ V → st V N (down V k) = (List.replicate (V - k) 0 ++ digits k N, N / 2 ^ k) := by
  intro k
  induction k with
  | zero => intro _; simp [st, down, digits]
  | succ k ih =>
    intro hk
    rw [down_succ, st_snoc, ih (by omega)]
    show (((List.replicate (V - k) 0 ++ digits k N).set (V - 1 - k) (UInt8.ofNat (48 + N / 2 ^ k % 2)), N / 2 ^ k / 2) : List UInt8 × Nat) = _
    have hr : List.replicate (V - k) (0 : UInt8) = List.replicate (V - (k + 1)) 0 ++ [0] := by
      rw [show V - k = V - (k + 1) + 1 by omega, List.replicate_succ']
    have hi : V - 1 - k = (List.replicate (V - (k + 1)) (0 : UInt8)).length := by simp; omega
    refine Prod.ext ?_ ?_
    · simp only
      rw [hr, List.append_assoc, List.set_append_right _ _ (by rw [hi]; exact Nat.le_refl _), hi, Nat.sub_self, digits_cons]
      simp
    · simp only
      rw [Nat.div_div_eq_div_mul, Nat.pow_succ]

theorem st_all (V N : Nat) : (st V N (down V V)).1 = digits V N := by
  rw [st_down V N V (Nat.le_refl _)]
  simp

theorem two_get (l : List ByteArray) : ∀ (n : Nat) (s : ByteArray), l[n / 2]? = some s → (l.flatMap two)[n]? = some (if n % 2 = 0 then s ++ b0 else s ++ b1) := by
  induction l with
  | nil => intro n s h; simp at h
  | cons x r ih =>
    intro n s h
    rw [List.flatMap_cons]
    match n with
    | 0 => simp at h; subst h; simp [two]
    | 1 => simp at h; subst h; simp [two]
    | n + 2 =>
      have h2 : (n + 2) / 2 = n / 2 + 1 := by omega
      rw [h2, List.getElem?_cons_succ] at h
      have := ih n s h
      have h3 : (n + 2) % 2 = n % 2 := by omega
      rw [h3, ← this, List.getElem?_append_right (by simp [two])]
      simp [two]

theorem allS_get : ∀ (V N : Nat), N < 2 ^ V → (allS V)[N]? = some ⟨(digits V N).toArray⟩ := by
  intro V
  induction V with
  | zero =>
    intro N h
    have h0 : N = 0 := by rw [Nat.pow_zero] at h; omega
    rw [h0]
    rfl
  | succ V ih =>
    intro N h
    have h' := ih (N / 2) (by rw [Nat.pow_succ] at h; omega)
    rw [allS, two_get _ N _ h']
    have hm : N % 2 = 0 ∨ N % 2 = 1 := by omega
    rcases hm with hm | hm
    · rw [if_pos hm]
      simp only [digits, hm]
      congr 1
    · rw [if_neg (by omega)]
      simp only [digits, hm]
      congr 1

/-- What Brute finds. -/
def found (vars : Int) (cls : List (List Int)) : Option ByteArray := (allS vars.toNat).find? (True.tru vars cls)

theorem models_nil (vars : Int) (cls : List (List Int)) : (models vars cls []).head? = found vars cls := by
  unfold models found
  rw [List.head?_filter]
  congr 1
  funext s
  simp [holds]

theorem found_true {vars : Int} {cls : List (List Int)} {s : ByteArray} (h : found vars cls = some s) : True.tru vars cls s = true := List.find?_some h

theorem found_here {vars : Int} {cls : List (List Int)} {k : Nat} {s : ByteArray} (hs : (allS vars.toNat)[k]? = some s) (hno : ∀ t ∈ (allS vars.toNat).take k, True.tru vars cls t = false) (hy : True.tru vars cls s = true) : found vars cls = some s := by
  unfold found
  obtain ⟨hk, he⟩ := List.getElem?_eq_some_iff.1 hs
  have e : allS vars.toNat = (allS vars.toNat).take k ++ s :: (allS vars.toNat).drop (k + 1) := by
    rw [← he, ← List.drop_eq_getElem_cons hk, List.take_append_drop]
  rw [e, List.find?_append]
  have h1 : ((allS vars.toNat).take k).find? (True.tru vars cls) = none := List.find?_eq_none.2 (fun t ht => by rw [hno t ht]; decide)
  rw [h1]
  simp [List.find?_cons, hy]

theorem found_none {vars : Int} {cls : List (List Int)} (hno : ∀ t ∈ allS vars.toNat, True.tru vars cls t = false) : found vars cls = none :=
  List.find?_eq_none.2 (fun t ht => by rw [hno t ht]; decide)

end Go.Proofs.Ythhkngpbaflfiaa.BruteP
