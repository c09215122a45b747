/-
  A clause in order, as plain lists: as the reference reckons it. No program.
-/
import Derived.Test.YtmiklgekcmeedaaDoorRefHasP
namespace Go.Proofs.YtmiklgekcmeedaaDoor.RefC
set_option linter.unusedVariables false
set_option linter.unusedSimpArgs false
open Go.RowKit

def ins (x : Int) (out : List Int) : List Int := out.takeWhile (fun y => lessB y x) ++ x :: out.dropWhile (fun y => lessB y x)

def put1 (out : List Int) (x : Int) : List Int := if x = 0 ∨ x ∈ out then out else ins x out

def norm (l : List Int) : List Int := l.foldl put1 []

def alw (out : List Int) (k : Nat) : Bool := (List.range k).any fun i => out.getD i 0 == wrap64 (-(out.getD (i + 1) 0))

def always (out : List Int) : Bool := alw out (out.length - 1)

theorem tw {α : Type} {p : α → Bool} {l : List α} {j : Nat} (hj : j ≤ l.length) (hall : ∀ y ∈ l.take j, p y = true) (hstop : j = l.length ∨ ∃ h : j < l.length, p l[j] = false) : l.takeWhile p = l.take j ∧ l.dropWhile p = l.drop j := by
  induction l generalizing j with
  | nil => simp
  | cons x r ih =>
    cases j with
    | zero =>
      rcases hstop with h | ⟨_, h⟩
      · simp at h
      · simp at h
        simp [List.takeWhile_cons, List.dropWhile_cons, h]
    | succ j =>
      have hx : p x = true := hall x (by simp)
      have h := ih (j := j) (by simpa using hj) (fun y hy => hall y (by simp [hy])) (by
        rcases hstop with h | ⟨h, h'⟩
        · left; simpa using h
        · right; exact ⟨by simpa using h, by simpa using h'⟩)
      simp [List.takeWhile_cons, List.dropWhile_cons, hx, h.1, h.2]

theorem ins_len (x : Int) (out : List Int) : (ins x out).length = out.length + 1 := by
  unfold ins
  have h : out.length = (out.takeWhile (fun y => lessB y x)).length + (out.dropWhile (fun y => lessB y x)).length := by
    rw [← List.length_append, List.takeWhile_append_dropWhile]
  simp only [List.length_append, List.length_cons]
  omega

theorem mem_ins {x y : Int} {out : List Int} : y ∈ ins x out ↔ y = x ∨ y ∈ out := by
  unfold ins
  have h : y ∈ out ↔ y ∈ out.takeWhile (fun y => lessB y x) ∨ y ∈ out.dropWhile (fun y => lessB y x) := by
    rw [← List.mem_append, List.takeWhile_append_dropWhile]
  rw [h, List.mem_append, List.mem_cons]
  constructor
  · rintro (h | h | h)
    · exact .inr (.inl h)
    · exact .inl h
    · exact .inr (.inr h)
  · rintro (h | h | h)
    · exact .inr (.inl h)
    · exact .inl h
    · exact .inr (.inr h)

theorem norm_more (l : List Int) (k : Nat) (hk : k < l.length) : norm (l.take (k + 1)) = put1 (norm (l.take k)) l[k] := by
  rw [List.take_succ_eq_append_getElem hk]
  unfold norm
  rw [List.foldl_append]
  rfl

theorem norm_len (l : List Int) (k : Nat) : (norm (l.take k)).length ≤ k := by
  induction k with
  | zero => simp [norm]
  | succ k ih =>
    by_cases hk : k < l.length
    · rw [norm_more l k hk]
      unfold put1
      split
      · omega
      · rw [ins_len]; omega
    · rw [List.take_of_length_le (by omega)]
      rw [List.take_of_length_le (by omega)] at ih
      omega

theorem norm_mem (l : List Int) (k : Nat) : ∀ y ∈ norm (l.take k), y ∈ l := by
  induction k with
  | zero => simp [norm]
  | succ k ih =>
    by_cases hk : k < l.length
    · rw [norm_more l k hk]
      unfold put1
      split
      · exact ih
      · intro y hy
        rcases mem_ins.1 hy with rfl | h
        · exact List.getElem_mem hk
        · exact ih y h
    · rw [List.take_of_length_le (by omega)]
      rw [List.take_of_length_le (by omega)] at ih
      exact ih

theorem norm_all (l : List Int) : norm (l.take l.length) = norm l := by rw [List.take_length]

theorem alw_more (out : List Int) (k : Nat) : alw out (k + 1) = (alw out k || (out.getD k 0 == wrap64 (-(out.getD (k + 1) 0)))) := by
  unfold alw
  rw [List.range_succ, List.any_append]
  simp

end Go.Proofs.YtmiklgekcmeedaaDoor.RefC
