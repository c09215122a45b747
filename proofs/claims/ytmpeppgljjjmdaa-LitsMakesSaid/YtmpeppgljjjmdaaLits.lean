/-
  The four functions of package lits that the laws on literals reach: what each returns, for every integer.
-/
import Derived.Test.YtmpeppgljjjmdaaRows
import Derived.WalkKit
import Derived.WalkSpells
import Derived.WalkLawsBesides
namespace Go.Proofs.Ytmpeppgljjjmdaa.Lits
open Go.RowKit

theorem and1 (n : Int) : bits .and .i64 n 1 = n % 2 := by
  have h1 : (BitVec.ofInt 64 1).toNat = 2 ^ 1 - 1 := by decide
  have key : (BitVec.ofInt 64 n &&& BitVec.ofInt 64 1).toNat = (n % ((2 ^ 64 : Nat) : Int)).toNat % 2 ^ 1 := by
    rw [BitVec.toNat_and, BitVec.toNat_ofInt, h1, Nat.and_two_pow_sub_one_eq_mod]
  show IntKind.i64.wrap ((BitVec.ofInt 64 n &&& BitVec.ofInt 64 1).toNat : Nat) = n % 2
  rw [key, IntKind.wrap_i64]
  omega

theorem nat_xor1 (n : Nat) : n ^^^ 1 = if n % 2 = 1 then n - 1 else n + 1 := by
  have h : n = 2 * (n / 2) + n % 2 := by omega
  apply Nat.eq_of_testBit_eq
  intro i
  rw [Nat.testBit_xor]
  cases i with
  | zero =>
    split
    · simp only [Nat.testBit_zero]; rw [show decide (n % 2 = 1) = true from by simpa using ‹n % 2 = 1›]; simp; omega
    · simp only [Nat.testBit_zero]; rw [show decide (n % 2 = 1) = false from by simpa using ‹¬ n % 2 = 1›]; simp; omega
  | succ i =>
    rw [Nat.testBit_succ, Nat.testBit_succ, Nat.testBit_succ]
    have e1 : (1 : Nat) / 2 = 0 := by decide
    rw [e1, Nat.zero_testBit, Bool.xor_false]
    split
    · rw [show (n - 1) / 2 = n / 2 from by omega]
    · rw [show (n + 1) / 2 = n / 2 from by omega]

/-- The opposite, said plainly. -/
def flip (n : Int) : Int := if n % 2 = 1 then n - 1 else n + 1

theorem xor1 (n : Int) (h0 : 0 ≤ n) (h1 : n ≤ 9223372036854775807) : bits .xor .i64 n 1 = flip n := by
  obtain ⟨k, rfl⟩ := Int.eq_ofNat_of_zero_le h0
  have hk : (BitVec.ofInt 64 (k : Int)).toNat = k := by
    rw [BitVec.ofInt_natCast, BitVec.toNat_ofNat]; exact Nat.mod_eq_of_lt (by omega)
  have hb : (BitVec.ofInt 64 1).toNat = 1 := by decide
  show IntKind.i64.wrap ((BitVec.ofInt 64 (k : Int) ^^^ BitVec.ofInt 64 1).toNat : Int) = _
  rw [BitVec.toNat_xor, hk, hb, nat_xor1, IntKind.wrap_i64]
  unfold flip
  split <;> split <;> omega

theorem wf_bd {a : Int} (h : (Lit.int .i64 a).wf = true) : -9223372036854775808 ≤ a ∧ a ≤ 9223372036854775807 := by
  simp [Lit.wf, IntKind.min, IntKind.max, IntKind.bits, IntKind.signed] at h
  omega

def var (a : Int) : Int := if a < 0 then 0 else a / 2
def neg (a : Int) : Bool := if a < 0 then false else a % 2 == 1
def not (a : Int) : Int := if a < 0 then 1 else flip a
def make (v : Int) (b : Bool) : Int := if v < 0 ∨ 1099511627776 < v then (if b then 1 else 0) else if b then 2 * v + 1 else 2 * v

theorem ret_int {a b : Int} (h : a = b) : Ending.returned (.int .i64 a) = .returned (.int .i64 b) := by rw [h]
theorem ret_bool {a b : Bool} (h : a = b) : Ending.returned (.bool a) = .returned (.bool b) := by rw [h]

set_option maxHeartbeats 400000 in
theorem var_any (a : Int) (w : World) :
    Calls Try.prog 6 #[.int .i64 a] w fun e w' => e = .returned (.int .i64 (var a)) ∧ w = w' := by
  go_enter Try.func6, Try.ntmps6
  go_wp2
  all_goals
    go_ret
    exact ⟨ret_int (by unfold var; split <;> omega), rfl⟩

set_option maxHeartbeats 400000 in
theorem neg_any (a : Int) (w : World) :
    Calls Try.prog 7 #[.int .i64 a] w fun e w' => e = .returned (.bool (neg a)) ∧ w = w' := by
  go_enter Try.func7, Try.ntmps7
  go_wp2
  · go_ret
    exact ⟨ret_bool (by rw [and1]; unfold neg; rw [if_pos (by assumption)]; rfl), rfl⟩
  · go_ret
    exact ⟨ret_bool (by rw [and1]; unfold neg; rw [if_neg (by omega)]), rfl⟩

set_option maxHeartbeats 400000 in
theorem not_any (a : Int) (w : World) (ha : a ≤ 9223372036854775807) :
    Calls Try.prog 8 #[.int .i64 a] w fun e w' => e = .returned (.int .i64 (not a)) ∧ w = w' := by
  go_enter Try.func8, Try.ntmps8
  go_wp2
  · go_ret
    exact ⟨ret_int (by rw [xor1 0 (by omega) (by omega)]; unfold not; rw [if_pos (by assumption)]; rfl), rfl⟩
  · go_ret
    exact ⟨ret_int (by rw [xor1 a (by omega) ha]; unfold not; rw [if_neg (by omega)]), rfl⟩

set_option maxHeartbeats 400000 in
theorem make_any (v : Int) (b : Bool) (w : World) :
    Calls Try.prog 9 #[.int .i64 v, .bool b] w fun e w' => e = .returned (.int .i64 (make v b)) ∧ w = w' := by
  by_cases h0 : v < 0
  · cases b
    all_goals
      go_enter Try.func9, Try.ntmps9
      go_wp2
      go_ret
      exact ⟨ret_int (by unfold make; rw [if_pos (by omega)]; rfl), rfl⟩
  · by_cases h1 : 1099511627776 < v
    · cases b
      all_goals
        go_enter Try.func9, Try.ntmps9
        go_wp2
        go_ret
        exact ⟨ret_int (by unfold make; rw [if_pos (by omega)]; rfl), rfl⟩
    · cases b
      all_goals
        go_enter Try.func9, Try.ntmps9
        go_wp2
        go_ret
        exact ⟨ret_int (by unfold make; rw [if_neg (by omega)]; rfl), rfl⟩

end Go.Proofs.Ytmpeppgljjjmdaa.Lits
