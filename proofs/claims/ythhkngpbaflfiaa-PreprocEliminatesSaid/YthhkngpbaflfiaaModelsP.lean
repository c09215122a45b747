/-
  All strings of bits of a length, as the reference lays them; those that are models. Plain lists, no program.
-/
import Derived.Test.YthhkngpbaflfiaaTrue
namespace Go.Proofs.Ythhkngpbaflfiaa.ModelsP
open Base
set_option linter.unusedVariables false
set_option linter.unusedSimpArgs false

def b0 : ByteArray := ⟨#[48]⟩
def b1 : ByteArray := ⟨#[49]⟩

def two (s : ByteArray) : List ByteArray := [s ++ b0, s ++ b1]

def allS : Nat → List ByteArray
  | 0 => [⟨#[]⟩]
  | n + 1 => (allS n).flatMap two

theorem two_len (l : List ByteArray) : (l.flatMap two).length = 2 * l.length := by
  induction l with
  | nil => rfl
  | cons x r ih => simp only [List.flatMap_cons, List.length_append, List.length_cons, ih]; simp [two]; omega

theorem allS_len (n : Nat) : (allS n).length = 2 ^ n := by
  induction n with
  | zero => rfl
  | succ n ih => rw [allS, two_len, ih, Nat.pow_succ]; omega

def holds (vars : Int) (cls : List (List Int)) (l : List Int) (s : ByteArray) : Bool := True.tru vars cls s && l.all (CubeP.is s.data.toList)

def models (vars : Int) (cls : List (List Int)) (l : List Int) : List ByteArray := (allS vars.toNat).filter (holds vars cls l)

def strs (ss : List ByteArray) : List Value := ss.map Value.string

theorem strs_len (ss : List ByteArray) : (strs ss).length = ss.length := by simp [strs]

theorem strs_app (a b : List ByteArray) : strs (a ++ b) = strs a ++ strs b := by simp [strs]

theorem strs_one (xs : List ByteArray) : ∀ u ∈ strs xs, u.oneCell' = true := by
  intro u hu
  obtain ⟨_, _, rfl⟩ := List.mem_map.1 hu
  rfl

/-- An element of a slice of strings. -/
theorem str_at {w : World} {a : Option Addr} {n c : Nat} {xs : List ByteArray} (h : Sl w a n c (strs xs)) {k : Nat} (hk : k < n) :
    ∃ b o, ∃ hx : k < xs.length, a = some ⟨b, o, none⟩ ∧ b < w.heap.size ∧ w.cell? ⟨b, o + k, none⟩ = some (.string xs[k]) := by
  obtain ⟨b, o, x, ha, hs, hx, hc⟩ := h.at hk
  unfold strs at hx
  rw [List.getElem?_map, Option.map_eq_some_iff] at hx
  obtain ⟨y, hy, rfl⟩ := hx
  obtain ⟨hk', rfl⟩ := List.getElem?_eq_some_iff.1 hy
  exact ⟨b, o, hk', ha, hs, hc⟩

theorem take_two (l : List ByteArray) (k : Nat) (hk : k < l.length) : (l.take (k + 1)).flatMap two = (l.take k).flatMap two ++ two l[k] := by
  rw [List.take_succ_eq_append_getElem hk, List.flatMap_append]
  simp

theorem take_filter (l : List ByteArray) (p : ByteArray → Bool) (k : Nat) (hk : k < l.length) : (l.take (k + 1)).filter p = (l.take k).filter p ++ (if p l[k] then [l[k]] else []) := by
  rw [List.take_succ_eq_append_getElem hk, List.filter_append]
  congr 1
  simp [List.filter_cons]

theorem allS_size : ∀ (n : Nat), ∀ s ∈ allS n, s.size = n
  | 0 => by intro s hs; simp [allS] at hs; subst hs; rfl
  | n + 1 => by
    intro s hs
    simp only [allS, List.mem_flatMap, two] at hs
    obtain ⟨t, ht, h⟩ := hs
    have := allS_size n t ht
    simp at h
    rcases h with rfl | rfl
    · rw [ByteArray.size_append, this]; rfl
    · rw [ByteArray.size_append, this]; rfl

end Go.Proofs.Ythhkngpbaflfiaa.ModelsP
