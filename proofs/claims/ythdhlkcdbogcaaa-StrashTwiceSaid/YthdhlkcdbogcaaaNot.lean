/-
  lits.Not; strash.Plain.
-/
import Derived.Test.YthdhlkcdbogcaaaStrashP
namespace Go.Proofs.Ythdhlkcdbogcaaa
open Go.RowKit Base
set_option linter.unusedVariables false
set_option linter.unusedSimpArgs false
namespace StrashP
open Circuit GetI

theorem nat_xor1 (n : Nat) : n ^^^ 1 = if n % 2 = 1 then n - 1 else n + 1 := by
  have h : n = 2 * (n / 2) + n % 2 := by omega
  apply Nat.eq_of_testBit_eq
  intro i
  rw [Nat.testBit_xor]
  cases i with
  | zero =>
    split
    · simp only [Nat.testBit_zero]; rw [show decide (n % 2 = 1) = true from by simpa using ‹n % 2 = 1›]; simp; omega
    · simp only [Nat.testBit_zero]; rw [show decide (n % 2 = 1) = false from by simpa using ‹¬ n % 2 = 1›]; simp; omega
  | succ i =>
    rw [Nat.testBit_succ, Nat.testBit_succ, Nat.testBit_succ]
    have e1 : (1 : Nat) / 2 = 0 := by decide
    rw [e1, Nat.zero_testBit, Bool.xor_false]
    split
    · rw [show (n - 1) / 2 = n / 2 from by omega]
    · rw [show (n + 1) / 2 = n / 2 from by omega]

/-- The opposite, said plainly. -/
def flip (n : Int) : Int := if n % 2 = 1 then n - 1 else n + 1

theorem xor1 (n : Int) (h0 : 0 ≤ n) (h1 : n ≤ 9223372036854775807) : bits .xor .i64 n 1 = flip n := by
  obtain ⟨k, rfl⟩ := Int.eq_ofNat_of_zero_le h0
  have hk : (BitVec.ofInt 64 (k : Int)).toNat = k := by
    rw [BitVec.ofInt_natCast, BitVec.toNat_ofNat]; exact Nat.mod_eq_of_lt (by omega)
  have hb : (BitVec.ofInt 64 1).toNat = 1 := by decide
  show IntKind.i64.wrap ((BitVec.ofInt 64 (k : Int) ^^^ BitVec.ofInt 64 1).toNat : Int) = _
  rw [BitVec.toNat_xor, hk, hb, nat_xor1, IntKind.wrap_i64]
  unfold flip
  split <;> split <;> omega


set_option maxHeartbeats 400000 in
theorem not_any (a : Int) (ha : a ≤ 9223372036854775807) (w : World) :
    Calls Try.prog 30 #[.int .i64 a] w fun e w' => e = .returned (.int .i64 (notL a)) ∧ w = w' := by
  go_enter Try.func30, Try.ntmps30
  go_wp2
  · go_ret
    exact ⟨ret_int (by rw [xor1 0 (by omega) (by omega)]; unfold notL; rw [if_pos (by assumption)]; rfl), rfl⟩
  · go_ret
    have hn : ¬ a < 0 := by omega
    exact ⟨ret_int (by rw [xor1 a (by omega) ha]; unfold notL; rw [if_neg hn]; rfl), rfl⟩

def plainV (a b : Int) : Value := .tuple #[.int .i64 ((plainL a b).getD 0), .bool (plainL a b).isSome]
theorem beq_t {a b : Int} (h : a = b) : (a == b) = true := by simp [h]
theorem beq_f {a b : Int} (h : ¬ a = b) : (a == b) = false := by simp [h]

set_option maxHeartbeats 2000000 in
theorem plain_nn (a b : Int) (ha0 : 0 ≤ a) (ha : a ≤ 9223372036854775807) (hb0 : 0 ≤ b) (hb : b ≤ 9223372036854775807) (w : World) :
    Calls Try.prog 14 #[.int .i64 a, .int .i64 b] w fun e w' => e = .returned (plainV a b) ∧ w = w' := by
  have HP := Lib.hid (plain_of ha0 hb0)
  have HN := Lib.hid (not_any b hb w)
  unfold plainV
  have ha1 : ¬ a < 0 := by omega
  have hb1 : ¬ b < 0 := by omega
  generalize notL b = c at *
  by_cases e1 : a = 0
  · have HR : Hid (plainL a b = some 0) := by show _ = _; rw [HP.out, if_pos (Or.inl e1)]
    have v1 := beq_t e1
    clear e1 HP
    generalize plainL a b = R at *
    go_enter Try.func14, Try.ntmps14
    go_wp2_with fail
    all_goals
      go_ret2
      exact ⟨by rw [HR.out]; rfl, rfl⟩
  · have v1 := beq_f e1
    by_cases e2 : b = 0
    · have HR : Hid (plainL a b = some 0) := by show _ = _; rw [HP.out, if_pos (Or.inr (Or.inl e2))]
      have v2 := beq_t e2
      clear e1 e2 HP
      generalize plainL a b = R at *
      go_enter Try.func14, Try.ntmps14
      go_wp2_with fail
      all_goals
        go_ret2
        exact ⟨by rw [HR.out]; rfl, rfl⟩
    · have v2 := beq_f e2
      by_cases e3 : a = c
      · have HR : Hid (plainL a b = some 0) := by show _ = _; rw [HP.out, if_pos (Or.inr (Or.inr e3))]
        have v3 := beq_t e3
        clear e1 e2 e3 HP
        generalize plainL a b = R at *
        go_enter Try.func14, Try.ntmps14
        go_wp2_with fail
        with_reducible refine HN.out.mono ?_
        rintro e w1 ⟨rfl, rfl⟩
        go_wp2_with fail
        go_ret2
        exact ⟨by rw [HR.out]; rfl, rfl⟩
      · have v3 := beq_f e3
        have h123 : ¬ (a = 0 ∨ b = 0 ∨ a = c) := by rintro (h | h | h); exact e1 h; exact e2 h; exact e3 h
        by_cases e4 : a = 1 ∨ a = b
        · have HR : Hid (plainL a b = some b) := by show _ = _; rw [HP.out, if_neg h123, if_pos e4]
          by_cases e5 : a = 1
          · have v4 := beq_t e5
            clear e1 e2 e3 e4 e5 h123 HP
            generalize plainL a b = R at *
            go_enter Try.func14, Try.ntmps14
            go_wp2_with fail
            with_reducible refine HN.out.mono ?_
            rintro e w1 ⟨rfl, rfl⟩
            go_wp2_with fail
            go_ret2
            exact ⟨by rw [HR.out]; rfl, rfl⟩
          · have v4 := beq_f e5
            have v5 := beq_t (e4.resolve_left e5)
            clear e1 e2 e3 e4 e5 h123 HP
            generalize plainL a b = R at *
            go_enter Try.func14, Try.ntmps14
            go_wp2_with fail
            with_reducible refine HN.out.mono ?_
            rintro e w1 ⟨rfl, rfl⟩
            go_wp2_with fail
            go_ret2
            exact ⟨by rw [HR.out]; rfl, rfl⟩
        · have v4 := beq_f (fun h => e4 (Or.inl h))
          have v5 := beq_f (fun h => e4 (Or.inr h))
          by_cases e6 : b = 1
          · have HR : Hid (plainL a b = some a) := by show _ = _; rw [HP.out, if_neg h123, if_neg e4, if_pos e6]
            have v6 := beq_t e6
            clear e1 e2 e3 e4 e6 h123 HP
            generalize plainL a b = R at *
            go_enter Try.func14, Try.ntmps14
            go_wp2_with fail
            with_reducible refine HN.out.mono ?_
            rintro e w1 ⟨rfl, rfl⟩
            go_wp2_with fail
            go_ret2
            exact ⟨by rw [HR.out]; rfl, rfl⟩
          · have HR : Hid (plainL a b = none) := by show _ = _; rw [HP.out, if_neg h123, if_neg e4, if_neg e6]
            have v6 := beq_f e6
            clear e1 e2 e3 e4 e6 h123 HP
            generalize plainL a b = R at *
            go_enter Try.func14, Try.ntmps14
            go_wp2_with fail
            with_reducible refine HN.out.mono ?_
            rintro e w1 ⟨rfl, rfl⟩
            go_wp2_with fail
            go_ret2
            exact ⟨by rw [HR.out]; rfl, rfl⟩
end StrashP
end Go.Proofs.Ythdhlkcdbogcaaa
