/-
  The reference's Subsumes.
-/
import Derived.Test.YthhkngpbaflfiaaRefHas
import Derived.Test.YthhkngpbaflfiaaSubP
namespace Go.Proofs.Ythhkngpbaflfiaa
open Go.RowKit Base
set_option linter.unusedVariables false
set_option linter.unusedSimpArgs false
namespace RefC

theorem all_more {α : Type} {xs : List α} {p : α → Bool} {k : Nat} (hk : k < xs.length) (h : (xs.take k).all p = true) (hp : p xs[k] = true) : (xs.take (k + 1)).all p = true := by
  rw [List.take_succ_eq_append_getElem hk, List.all_append, h]; simp [hp]

theorem all_miss {α : Type} {xs : List α} {p : α → Bool} {k : Nat} (hk : k < xs.length) (hp : p xs[k] = false) : xs.all p = false :=
  List.all_eq_false.2 ⟨_, List.getElem_mem hk, by rw [hp]; decide⟩

set_option maxHeartbeats 1000000 in
theorem subs_any (w : World) (a : Option Addr) (n c : Nat) (xs : List Int) (hsl : Sl w a n c (ints xs)) (a2 : Option Addr) (n2 c2 : Nat) (ys : List Int) (hsl2 : Sl w a2 n2 c2 (ints ys)) :
    Calls Try.prog 14 #[.slice a n c, .slice a2 n2 c2] w fun e w' => e = .returned (.bool (Clause.subs xs ys)) ∧ w = w' := by
  have HL : Hid (xs.length = n) := by have := hsl.len; rwa [ints_len] at this
  have hcap := hsl.cap
  have hbig := hsl.big
  have HSL := Lib.hid hsl
  have HH := Lib.hid (fun x => has_any w a2 n2 c2 ys hsl2 x)
  clear hsl hsl2
  go_enter Try.func14, Try.ntmps14
  go_wp2_with fail
  go_loop [5] (fun i => ∃ k : Nat, k ≤ n ∧ i = .int .i64 k ∧ Hid ((xs.take k).all (fun x => decide (x ∈ ys)) = true)) (fun i => n - (intOf i).toNat)
  case atStart => exact ⟨0, Nat.zero_le _, rfl, rfl⟩
  case round =>
    obtain ⟨k, hk, rfl, hI⟩ := hrel
    by_cases hlt : k < n
    · obtain ⟨b, o, hx, rfl, hbs, hc⟩ := HSL.out.int hlt
      have H := Lib.hid (HH.out xs[k])
      have HM := Lib.hid (fun h => all_more (p := fun x => decide (x ∈ ys)) hx hI.out h)
      have HS := Lib.hid (fun h => all_miss (p := fun x => decide (x ∈ ys)) hx h)
      generalize xs[k] = p at *
      cases hq : decide (p ∈ ys)
      · rw [hq] at H
        have HB : Hid (Clause.subs xs ys = false) := HS.out hq
        clear hq
        go_wp2_with fail
        refine H.out.mono ?_; rintro e w1 ⟨rfl, rfl⟩
        go_wp2_with fail
        go_ret
        exact ⟨ret_bool HB.out.symm, rfl⟩
      · rw [hq] at H
        have HB := Lib.hid (HM.out hq)
        clear hq
        go_wp2_with fail
        refine H.out.mono ?_; rintro e w1 ⟨rfl, rfl⟩
        go_wp2_with fail
        go_round
        case rel => exact ⟨k + 1, by omega, by go_num, HB.out⟩
        case measure => simp [intOf]; omega
    · have HB : Hid (Clause.subs xs ys = true) := by
        show _ = _
        have h := hI.out
        rwa [List.take_of_length_le (by rw [HL.out]; omega)] at h
      go_wp2_with fail
      go_ret
      exact ⟨ret_bool HB.out.symm, rfl⟩
end RefC
end Go.Proofs.Ythhkngpbaflfiaa
