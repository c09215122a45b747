/-
  Is a literal true in a text of bits, is a clause: the reference's.
-/
import Derived.Test.YthhkngpbaflfiaaRefAbs
import Derived.Test.YthhkngpbaflfiaaIsP
namespace Go.Proofs.Ythhkngpbaflfiaa
open Go.RowKit Base
set_option linter.unusedVariables false
namespace True

theorem any_take_more {α : Type} {xs : List α} {p : α → Bool} {k : Nat} (hk : k < xs.length) (h : (xs.take k).any p = false) (hp : p xs[k] = false) : (xs.take (k + 1)).any p = false := by
  rw [List.take_succ_eq_append_getElem hk, List.any_append, h]; simp [hp]

theorem any_hit {α : Type} {xs : List α} {p : α → Bool} {k : Nat} (hk : k < xs.length) (hp : p xs[k] = true) : xs.any p = true :=
  List.any_eq_true.2 ⟨_, List.getElem_mem hk, hp⟩

set_option maxHeartbeats 1000000 in
theorem refIs_any (s : ByteArray) (hs : s.size ≤ 9223372036854775807) (l : Int) (h0 : -9223372036854775808 ≤ l) (h1 : l ≤ 9223372036854775807) (w : World) :
    Calls Try.prog 34 #[.string s, .int .i64 l] w fun e w' => e = .returned (.bool (CubeP.is s.data.toList l)) ∧ w = w' := by
  have HA := Lib.hid (Clause.refAbs_any l h0 h1 w)
  by_cases hr : 1 ≤ Clause.absI l ∧ Clause.absI l ≤ s.size
  · obtain ⟨k, hk⟩ : ∃ k : Nat, Clause.absI l = (k : Int) + 1 := ⟨(Clause.absI l - 1).toNat, by omega⟩
    have hks : k < s.size := by omega
    have hab : Clause.absI l = max l (-l) := by unfold Clause.absI at hr ⊢; split at hr <;> rename_i h; omega; rw [if_neg h]
    rw [hk] at HA
    by_cases hp : 0 < l
    · obtain rfl : l = (k : Int) + 1 := by omega
      have HI := Lib.hid (IsP.is_pos s k hks)
      clear h0 h1 hp hr hk hab
      go_enter Try.func34, Try.ntmps34
      go_wp2_with fail
      refine HA.out.mono ?_; rintro e w1 ⟨rfl, rfl⟩
      go_wp2_with fail
      refine HA.out.mono ?_; rintro e w1 ⟨rfl, rfl⟩
      go_wp2_with fail
      refine HA.out.mono ?_; rintro e w1 ⟨rfl, rfl⟩
      go_wp2_with fail
      go_ret
      exact ⟨ret_bool HI.out.symm, rfl⟩
    · obtain rfl : l = -((k : Int) + 1) := by omega
      have HI := Lib.hid (IsP.is_neg s k hks)
      clear h0 h1 hp hr hk hab
      go_enter Try.func34, Try.ntmps34
      go_wp2_with fail
      refine HA.out.mono ?_; rintro e w1 ⟨rfl, rfl⟩
      go_wp2_with fail
      refine HA.out.mono ?_; rintro e w1 ⟨rfl, rfl⟩
      go_wp2_with fail
      refine HA.out.mono ?_; rintro e w1 ⟨rfl, rfl⟩
      go_wp2_with fail
      go_ret
      exact ⟨ret_bool (by rw [HI.out, decide_eq_false (by omega)]; cases ((s[k].toNat : Int) == 49) <;> rfl), rfl⟩
  · have hout : max l (-l) < 1 ∨ (s.size : Int) < max l (-l) := by unfold Clause.absI at hr; split at hr <;> omega
    have HI := Lib.hid (IsP.is_out s l hout)
    generalize Clause.absI l = q at *
    by_cases hq : 1 ≤ q
    · have hq2 : (s.size : Int) < q := by omega
      clear hr hout h0 h1
      go_enter Try.func34, Try.ntmps34
      go_wp2_with fail
      refine HA.out.mono ?_; rintro e w1 ⟨rfl, rfl⟩
      go_wp2_with fail
      refine HA.out.mono ?_; rintro e w1 ⟨rfl, rfl⟩
      go_wp2_with fail
      go_ret
      exact ⟨ret_bool HI.out.symm, rfl⟩
    · clear hr hout h0 h1
      go_enter Try.func34, Try.ntmps34
      go_wp2_with fail
      refine HA.out.mono ?_; rintro e w1 ⟨rfl, rfl⟩
      go_wp2_with fail
      go_ret
      exact ⟨ret_bool HI.out.symm, rfl⟩

/-- Is a literal of a clause true? -/
def one (s : ByteArray) (l : List Int) : Bool := l.any (CubeP.is s.data.toList)

set_option maxHeartbeats 1000000 in
theorem refOne_any (w : World) (s : ByteArray) (hs : s.size ≤ 9223372036854775807) (a : Option Addr) (n c : Nat) (xs : List Int) (hsl : Sl w a n c (ints xs)) (hx : Clause.Wf xs) :
    Calls Try.prog 40 #[.string s, .slice a n c] w fun e w' => e = .returned (.bool (one s xs)) ∧ w = w' := by
  have HL : Hid (xs.length = n) := by have := hsl.len; rwa [ints_len] at this
  have hcap := hsl.cap
  have hbig := hsl.big
  have HR := Lib.hid (fun (x : Int) (hm : x ∈ xs) => refIs_any s hs x (hx x hm).1 (hx x hm).2 w)
  clear hx hs
  go_enter Try.func40, Try.ntmps40
  go_wp2_with fail
  go_loop [5] (fun i => ∃ k : Nat, k ≤ n ∧ i = .int .i64 k ∧ Hid ((xs.take k).any (CubeP.is s.data.toList) = false)) (fun i => n - (intOf i).toNat)
  case atStart => exact ⟨0, Nat.zero_le _, rfl, rfl⟩
  case round =>
    obtain ⟨k, hk, rfl, hI⟩ := hrel
    by_cases hlt : k < n
    · obtain ⟨b, o, hxk, rfl, hbs, hc⟩ := hsl.int hlt
      have H := Lib.hid (HR.out _ (List.getElem_mem hxk))
      cases hq : CubeP.is s.data.toList xs[k]
      · rw [hq] at H
        have HQ := Lib.hid hq
        clear hq
        go_wp2_with fail
        refine H.out.mono ?_; rintro e w1 ⟨rfl, rfl⟩
        go_wp2_with fail
        go_round
        case rel => exact ⟨k + 1, by omega, by go_num, any_take_more hxk hI.out HQ.out⟩
        case measure => simp [intOf]; omega
      · rw [hq] at H
        have HB : Hid (one s xs = true) := any_hit hxk hq
        clear hq
        go_wp2_with fail
        refine H.out.mono ?_; rintro e w1 ⟨rfl, rfl⟩
        go_wp2_with fail
        go_ret
        exact ⟨ret_bool HB.out.symm, rfl⟩
    · have HB : Hid (one s xs = false) := by
        show _ = _
        have h := hI.out
        rw [List.take_of_length_le (by rw [HL.out]; omega)] at h
        exact h
      go_wp2_with fail
      go_ret
      exact ⟨ret_bool HB.out.symm, rfl⟩

end True
end Go.Proofs.Ythhkngpbaflfiaa
