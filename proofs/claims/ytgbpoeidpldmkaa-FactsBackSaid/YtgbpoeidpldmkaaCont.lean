/-
  slices.Index and slices.Contains of []int.
-/
import Derived.Test.YtgbpoeidpldmkaaLaws
namespace Go.Proofs.Ytgbpoeidpldmkaa
open Go.RowKit Base
set_option linter.unusedVariables false
set_option linter.unusedSimpArgs false
namespace Cont

theorem idx_take {xs : List Int} {x : Int} {k : Nat} (hk : k < xs.length) (h : decide (x ∈ xs.take k) = false) (hp : xs[k] ≠ x) : decide (x ∈ xs.take (k + 1)) = false := by
  rw [List.take_succ_eq_append_getElem hk]
  simp only [decide_eq_false_iff_not, List.mem_append, List.mem_singleton, not_or] at h ⊢
  exact ⟨h, fun e => hp e.symm⟩

set_option maxHeartbeats 1000000 in
theorem index_any (w : World) (a : Option Addr) (n c : Nat) (xs : List Int) (hsl : Sl w a n c (ints xs)) (x : Int) :
    Calls Try.prog 35 #[.slice a n c, .int .i64 x] w fun e w' => (∃ i : Int, e = .returned (.int .i64 i) ∧ (0 ≤ i ↔ x ∈ xs)) ∧ w = w' := by
  have HL : Hid (xs.length = n) := by have := hsl.len; rwa [ints_len] at this
  have hcap := hsl.cap
  have hbig := hsl.big
  have HSL := Lib.hid hsl
  clear hsl
  go_enter Try.func35, Try.ntmps35
  go_wp2
  go_loop [4, 8] (fun _ i => ∃ k : Nat, k ≤ n ∧ i = .int .i64 k ∧ Hid (decide (x ∈ xs.take k) = false)) (fun _ i => n - (intOf i).toNat)
  case atStart => exact ⟨0, Nat.zero_le _, rfl, by show _ = _; simp⟩
  case round =>
    obtain ⟨k, hk, rfl, hI⟩ := hrel
    by_cases hlt : k < n
    · obtain ⟨b, o, hx, rfl, hbs, hc⟩ := HSL.out.int hlt
      generalize hp : xs[k] = p at *
      have HP := Lib.hid hp
      clear hp
      by_cases hq : x = p
      · have v0 : (x == p) = true := by simp [hq]
        have HF : Hid (decide (x ∈ xs) = true) := by
          show _ = _
          rw [hq, ← HP.out]
          simp
        clear hq
        go_wp2
        go_ret
        exact ⟨⟨_, rfl, ⟨fun _ => of_decide_eq_true HF.out, fun _ => by omega⟩⟩, rfl⟩
      · have v0 : (x == p) = false := by simp [hq]
        have HF : Hid (decide (x ∈ xs.take (k + 1)) = false) := idx_take hx hI.out (by rw [HP.out]; exact fun e => hq e.symm)
        clear hq
        go_wp2
        go_round
        case rel => exact ⟨k + 1, by omega, by go_num, HF⟩
        case measure => simp [intOf]; omega
    · have HF : Hid (decide (x ∈ xs) = false) := by
        show _ = _
        have h := hI.out
        rwa [List.take_of_length_le (by have := HL.out; omega)] at h
      go_wp2
      go_ret
      exact ⟨⟨_, rfl, ⟨fun h => by omega, fun h => absurd h (of_decide_eq_false HF.out)⟩⟩, rfl⟩

set_option maxHeartbeats 1000000 in
theorem contains_any (w : World) (a : Option Addr) (n c : Nat) (xs : List Int) (hsl : Sl w a n c (ints xs)) (x : Int) :
    Calls Try.prog 26 #[.slice a n c, .int .i64 x] w fun e w' => e = .returned (.bool (decide (x ∈ xs))) ∧ w = w' := by
  have H := Lib.hid (index_any w a n c xs hsl x)
  clear hsl
  go_enter Try.func26, Try.ntmps26
  go_wp2_with fail
  refine H.out.mono ?_
  rintro e w1 ⟨⟨i, rfl, hi⟩, rfl⟩
  have HI := Lib.hid hi
  clear hi
  go_wp2_with fail
  go_ret
  exact ⟨ret_bool (decide_eq_decide.2 HI.out), rfl⟩

end Cont
end Go.Proofs.Ytgbpoeidpldmkaa
