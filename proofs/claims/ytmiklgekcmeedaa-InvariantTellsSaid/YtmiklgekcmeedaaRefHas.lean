/-
  interlockref01.Has, interlockref10.less.
-/
import Derived.Test.YtmiklgekcmeedaaLaws
import Derived.Test.YtmiklgekcmeedaaRefAbs
import Derived.Test.YtmiklgekcmeedaaRefHasP
namespace Go.Proofs.Ytmiklgekcmeedaa
open Go.RowKit Base
set_option linter.unusedVariables false
set_option linter.unusedSimpArgs false
namespace RefC

set_option maxHeartbeats 1000000 in
theorem has_any (w : World) (a : Option Addr) (n c : Nat) (xs : List Int) (hsl : Sl w a n c (ints xs)) (x : Int) :
    Calls Try.prog 27 #[.slice a n c, .int .i64 x] w fun e w' => e = .returned (.bool (decide (x ∈ xs))) ∧ w = w' := by
  have HL : Hid (xs.length = n) := by have := hsl.len; rwa [ints_len] at this
  have hcap := hsl.cap
  have hbig := hsl.big
  have HSL := Lib.hid hsl
  clear hsl
  go_enter Try.func27, Try.ntmps27
  go_wp2
  go_loop [5] (fun i => ∃ k : Nat, k ≤ n ∧ i = .int .i64 k ∧ Hid (decide (x ∈ xs.take k) = false)) (fun i => n - (intOf i).toNat)
  case atStart => exact ⟨0, Nat.zero_le _, rfl, by show _ = _; simp⟩
  case round =>
    obtain ⟨k, hk, rfl, hI⟩ := hrel
    by_cases hlt : k < n
    · obtain ⟨b, o, hx, rfl, hbs, hc⟩ := HSL.out.int hlt
      generalize hp : xs[k] = p at *
      have HP := Lib.hid hp
      clear hp
      by_cases hq : p = x
      · have v0 : (p == x) = true := by simp [hq]
        have HF : Hid (decide (x ∈ xs) = true) := by
          show _ = _
          rw [← hq, ← HP.out]
          simp
        clear hq
        go_wp2
        go_ret
        exact ⟨ret_bool HF.out.symm, rfl⟩
      · have v0 : (p == x) = false := by simp [hq]
        have HF : Hid (decide (x ∈ xs.take (k + 1)) = false) := mem_take_more hx hI.out (by rw [HP.out]; exact hq)
        clear hq
        go_wp2
        go_round
        case rel => exact ⟨k + 1, by omega, by go_num, HF⟩
        case measure => simp [intOf]; omega
    · have HF : Hid (decide (x ∈ xs) = false) := by
        show _ = _
        have h := hI.out
        rwa [List.take_of_length_le (by have := HL.out; omega)] at h
      go_wp2
      go_ret
      exact ⟨ret_bool HF.out.symm, rfl⟩

set_option maxHeartbeats 1000000 in
theorem less_any (w : World) (a b : Int) (ha : I64 a) (hb : I64 b) :
    Calls Try.prog 28 #[.int .i64 a, .int .i64 b] w fun e w' => e = .returned (.bool (lessB a b)) ∧ w = w' := by
  have HA := Lib.hid (Clause.refAbs_any a ha.1 ha.2 w)
  have HB := Lib.hid (Clause.refAbs_any b hb.1 hb.2 w)
  have HR : Hid (lessB a b = (decide (Clause.absI a < Clause.absI b) || (decide (Clause.absI a = Clause.absI b) && decide (a < b)))) := rfl
  clear ha hb
  generalize Clause.absI a = A at *
  generalize Clause.absI b = B at *
  by_cases h1 : A < B
  · go_enter Try.func28, Try.ntmps28
    go_wp2_with fail
    refine HA.out.mono ?_; rintro e w1 ⟨rfl, rfl⟩
    go_wp2_with fail
    refine HB.out.mono ?_; rintro e w1 ⟨rfl, rfl⟩
    go_wp2_with fail
    go_ret
    exact ⟨ret_bool (by rw [HR.out, decide_eq_true h1]; rfl), rfl⟩
  · have hd : decide (A < B) = false := decide_eq_false h1
    by_cases h2 : A = B
    · have hd2 : (A == B) = true := by simp [h2]
      have H2 := Lib.hid h2
      clear h1 h2
      go_enter Try.func28, Try.ntmps28
      go_wp2_with fail
      refine HA.out.mono ?_; rintro e w1 ⟨rfl, rfl⟩
      go_wp2_with fail
      refine HB.out.mono ?_; rintro e w1 ⟨rfl, rfl⟩
      go_wp2_with fail
      refine HA.out.mono ?_; rintro e w1 ⟨rfl, rfl⟩
      go_wp2_with fail
      refine HB.out.mono ?_; rintro e w1 ⟨rfl, rfl⟩
      go_wp2_with fail
      go_ret
      refine ⟨ret_bool ?_, rfl⟩
      rw [HR.out, hd, decide_eq_true H2.out]; rfl
    · have hd2 : (A == B) = false := by simp [h2]
      have H2 := Lib.hid h2
      clear h1 h2
      go_enter Try.func28, Try.ntmps28
      go_wp2_with fail
      refine HA.out.mono ?_; rintro e w1 ⟨rfl, rfl⟩
      go_wp2_with fail
      refine HB.out.mono ?_; rintro e w1 ⟨rfl, rfl⟩
      go_wp2_with fail
      refine HA.out.mono ?_; rintro e w1 ⟨rfl, rfl⟩
      go_wp2_with fail
      refine HB.out.mono ?_; rintro e w1 ⟨rfl, rfl⟩
      go_wp2_with fail
      go_ret
      refine ⟨ret_bool ?_, rfl⟩
      rw [HR.out, hd, decide_eq_false H2.out]; rfl

end RefC
end Go.Proofs.Ytmiklgekcmeedaa
