/-
  interlocklaw38.takes: does a clause take a literal of another one away?
-/
import Derived.Test.YthhkngpbaflfiaaRefSubs
namespace Go.Proofs.Ythhkngpbaflfiaa
open Go.RowKit Base
set_option linter.unusedVariables false
set_option linter.unusedSimpArgs false
namespace Pre

def tak (a b : List Int) (x : Int) : Bool := decide (wrap64 (-x) ∈ a) && a.all fun y => decide (y = wrap64 (-x)) || decide (y ∈ b)

theorem tak_iff {a b : List Int} {x : Int} : tak a b x = true ↔ (wrap64 (-x) ∈ a ∧ ∀ y ∈ a, y ≠ wrap64 (-x) → y ∈ b) := by
  unfold tak
  simp only [Bool.and_eq_true, decide_eq_true_eq, List.all_eq_true, Bool.or_eq_true]
  constructor
  · rintro ⟨h1, h2⟩
    exact ⟨h1, fun y hy hne => by rcases h2 y hy with h | h; exact absurd h hne; exact h⟩
  · rintro ⟨h1, h2⟩
    refine ⟨h1, fun y hy => ?_⟩
    by_cases h : y = wrap64 (-x)
    · exact .inl h
    · exact .inr (h2 y hy h)

set_option maxHeartbeats 2000000 in
theorem takes_any (w : World) (a : Option Addr) (n c : Nat) (xs : List Int) (hsl : Sl w a n c (ints xs)) (a2 : Option Addr) (n2 c2 : Nat) (ys : List Int) (hsl2 : Sl w a2 n2 c2 (ints ys)) (x : Int) :
    Calls Try.prog 19 #[.slice a n c, .slice a2 n2 c2, .int .i64 x] w fun e w' => e = .returned (.bool (tak xs ys x)) ∧ w = w' := by
  have HL : Hid (xs.length = n) := by have := hsl.len; rwa [ints_len] at this
  have hcap := hsl.cap
  have hbig := hsl.big
  have HSL := Lib.hid hsl
  have HX := Lib.hid (RefC.has_any w a n c xs hsl (wrap64 (-x)))
  have HH := Lib.hid (fun y => RefC.has_any w a2 n2 c2 ys hsl2 y)
  have HT : Hid (tak xs ys x = (decide (wrap64 (-x) ∈ xs) && xs.all fun y => decide (y = wrap64 (-x)) || decide (y ∈ ys))) := rfl
  clear hsl hsl2
  generalize hz : wrap64 (-x) = z at *
  have hz2 : IntKind.i64.wrap (-x) = z := by rw [← hz]; unfold wrap64; exact IntKind.wrap_i64 _
  cases hin : decide (z ∈ xs)
  · rw [hin] at HX HT
    clear hin
    go_enter Try.func19, Try.ntmps19
    go_wp2_with fail
    refine HX.out.mono ?_; rintro e w1 ⟨rfl, rfl⟩
    go_wp2_with fail
    go_ret
    exact ⟨ret_bool (by rw [HT.out]; rfl), rfl⟩
  · rw [hin, Bool.true_and] at HT
    rw [hin] at HX
    clear hin
    go_enter Try.func19, Try.ntmps19
    go_wp2_with fail
    refine HX.out.mono ?_; rintro e w1 ⟨rfl, rfl⟩
    go_wp2_with fail
    go_loop [7] (fun i => ∃ k : Nat, k ≤ n ∧ i = .int .i64 k ∧ Hid ((xs.take k).all (fun y => decide (y = z) || decide (y ∈ ys)) = true)) (fun i => n - (intOf i).toNat)
    case atStart => exact ⟨0, Nat.zero_le _, rfl, rfl⟩
    case round =>
      obtain ⟨k, hk, rfl, hI⟩ := hrel
      by_cases hlt : k < n
      · obtain ⟨b, o, hx, rfl, hbs, hc⟩ := HSL.out.int hlt
        have H := Lib.hid (HH.out xs[k])
        have HM := Lib.hid (fun h => RefC.all_more (p := fun y => decide (y = z) || decide (y ∈ ys)) hx hI.out h)
        have HS := Lib.hid (fun h => RefC.all_miss (p := fun y => decide (y = z) || decide (y ∈ ys)) hx h)
        generalize xs[k] = p at *
        by_cases hpz : p = z
        · have v0 : (p != z) = false := by rw [hpz]; simp
          have HB := Lib.hid (HM.out (by simp [hpz]))
          clear hpz
          go_wp2_with fail
          go_round
          case rel => exact ⟨k + 1, by omega, by go_num, HB.out⟩
          case measure => simp [intOf]; omega
        · have v0 : (p != z) = true := by simp [hpz]
          have hd : decide (p = z) = false := decide_eq_false hpz
          cases hq : decide (p ∈ ys)
          · rw [hq] at H
            have HB : Hid (tak xs ys x = false) := by show _ = _; rw [HT.out]; exact HS.out (by rw [hd, hq]; rfl)
            clear hq hpz hd
            go_wp2_with fail
            refine H.out.mono ?_; rintro e w1 ⟨rfl, rfl⟩
            go_wp2_with fail
            go_ret
            exact ⟨ret_bool HB.out.symm, rfl⟩
          · rw [hq] at H
            have HB := Lib.hid (HM.out (by rw [hd, hq]; rfl))
            clear hq hpz hd
            go_wp2_with fail
            refine H.out.mono ?_; rintro e w1 ⟨rfl, rfl⟩
            go_wp2_with fail
            go_round
            case rel => exact ⟨k + 1, by omega, by go_num, HB.out⟩
            case measure => simp [intOf]; omega
      · have HB : Hid (tak xs ys x = true) := by
          show _ = _
          have h := hI.out
          rw [List.take_of_length_le (by rw [HL.out]; omega)] at h
          rw [HT.out, h]
        go_wp2_with fail
        go_ret
        exact ⟨ret_bool HB.out.symm, rfl⟩
end Pre
end Go.Proofs.Ythhkngpbaflfiaa
