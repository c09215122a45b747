/-
  Plain: the decimal text of a number. No program.
-/
import Derived.Test.YtmiklgekcmeedaaDoorLaws
namespace Go.Proofs.YtmiklgekcmeedaaDoor.Dig
set_option linter.unusedVariables false
set_option linter.unusedSimpArgs false

def one (n : Nat) : UInt8 := UInt8.ofNat (48 + n)
def dg (n : Nat) : List UInt8 := if n < 10 then [one n] else dg (n / 10) ++ [one (n % 10)]
termination_by n
decreasing_by omega

theorem dg_small {n : Nat} (h : n < 10) : dg n = [one n] := by rw [dg, if_pos h]
theorem dg_big {n : Nat} (h : ¬ n < 10) : dg n = dg (n / 10) ++ [one (n % 10)] := by rw [dg, if_neg h]

theorem one_nat {n : Nat} (h : n < 10) : (one n).toNat = 48 + n := by
  unfold one
  simp
  omega

theorem dg_len (k : Nat) : ∀ n, n < 10 ^ (k + 1) → (dg n).length ≤ k + 1 := by
  induction k with
  | zero =>
    intro n h
    rw [dg_small (by omega)]
    simp
  | succ k ih =>
    intro n h
    by_cases h1 : n < 10
    · rw [dg_small h1]; simp
    · rw [dg_big h1, List.length_append]
      have := ih (n / 10) (by rw [Nat.pow_succ] at h; omega)
      simp
      exact this

theorem dg_ne (n : Nat) : dg n ≠ [] := by
  by_cases h1 : n < 10
  · rw [dg_small h1]; simp
  · rw [dg_big h1]; simp

/-- The decimal text of an integer. -/
def pr (x : Int) : List UInt8 := if x < 0 then 45 :: dg x.natAbs else dg x.natAbs

theorem pr_len {x : Int} (h : -9223372036854775808 ≤ x ∧ x ≤ 9223372036854775807) : (pr x).length ≤ 21 := by
  have h2 := dg_len 19 x.natAbs (by omega)
  unfold pr
  split
  · simp; omega
  · omega

/-- A text. -/
def str (l : List UInt8) : ByteArray := ⟨l.toArray⟩
theorem str_app (a b : List UInt8) : str a ++ str b = str (a ++ b) := by
  unfold str
  apply ByteArray.ext
  simp
theorem str_data (l : List UInt8) : (str l).data.toList = l := by simp [str]
theorem str_size (l : List UInt8) : (str l).size = l.length := by simp [str, ByteArray.size]
theorem str_inj {a b : List UInt8} (h : str a = str b) : a = b := by
  have := congrArg (fun s => s.data.toList) h
  simpa [str] using this
end Go.Proofs.YtmiklgekcmeedaaDoor.Dig
