/-
  interlockref07.Bits: is a text so many bits?
-/
import Derived.Test.YtllbncfcnjmbmaaDoorLaws
namespace Go.Proofs.YtllbncfcnjmbmaaDoor
open Go.RowKit Base
set_option linter.unusedVariables false
namespace RefBits

def bit (c : UInt8) : Bool := c == 48 || c == 49
def bits (s : List UInt8) (n : Int) : Bool := s.all bit && decide ((s.length : Int) = n)

theorem all_take_more {s : ByteArray} {k : Nat} (hk : k < s.size) (h : (s.data.toList.take k).all bit = true) (hb : bit s[k] = true) : (s.data.toList.take (k + 1)).all bit = true := by
  have e : s.data.toList.take (k + 1) = s.data.toList.take k ++ [s[k]] := by
    rw [List.take_succ_eq_append_getElem (by simpa using hk)]; rfl
  rw [e, List.all_append, h]
  simp [hb]

theorem all_no {s : ByteArray} {k : Nat} (hk : k < s.size) (hb : bit s[k] = false) : s.data.toList.all bit = false := by
  rw [List.all_eq_false]
  refine ⟨s[k], ?_, by simp [hb]⟩
  have : s[k] = s.data.toList[k]'(by simpa using hk) := rfl
  rw [this]
  exact List.getElem_mem _

set_option maxHeartbeats 1000000 in
theorem bits_any (w : World) (s : ByteArray) (hs : s.size ≤ 9223372036854775807) (n : Int) :
    Calls Tryd.prog 25 #[.string s, .int .i64 n] w fun e w' => e = .returned (.bool (bits s.data.toList n)) ∧ w = w' := by
  go_enter Tryd.func25, Tryd.ntmps25
  go_wp2
  go_loop [5] (fun i => ∃ k : Nat, k ≤ s.size ∧ i = .int .i64 k ∧ Hid ((s.data.toList.take k).all bit = true)) (fun i => s.size - (intOf i).toNat)
  case atStart => exact ⟨0, Nat.zero_le _, rfl, rfl⟩
  case round =>
    obtain ⟨k, hk, rfl, hI⟩ := hrel
    by_cases hlt : k < s.size
    · generalize hq : s[k] = q at *
      have HQ := Lib.hid hq
      have hix : s[k] = q := hq
      by_cases h0 : q = 48
      · have v0 : ((q.toNat : Int) != 48) = false := by rw [h0]; rfl
        have H0 := Lib.hid h0
        clear h0 hq
        go_wp2
        go_round
        case rel => exact ⟨k + 1, by omega, by go_num, all_take_more hlt hI.out (by rw [HQ.out, H0.out]; rfl)⟩
        case measure => simp [intOf]; omega
      · have v0 : ((q.toNat : Int) != 48) = true := by have := byte_ne q 48 h0; simp only [bne]; rw [show (48 : Int) = ((48 : UInt8).toNat : Int) from rfl, this]; rfl
        by_cases h1 : q = 49
        · have v1 : ((q.toNat : Int) != 49) = false := by rw [h1]; rfl
          have H0 := Lib.hid h1
          clear h0 h1 hq
          go_wp2
          go_round
          case rel => exact ⟨k + 1, by omega, by go_num, all_take_more hlt hI.out (by rw [HQ.out, H0.out]; rfl)⟩
          case measure => simp [intOf]; omega
        · have v1 : ((q.toNat : Int) != 49) = true := by have := byte_ne q 49 h1; simp only [bne]; rw [show (49 : Int) = ((49 : UInt8).toNat : Int) from rfl, this]; rfl
          have HB := Lib.hid (show bit q = false by unfold bit; simp [h0, h1])
          clear h0 h1 hq
          go_wp2
          go_ret
          exact ⟨ret_bool (by unfold bits; rw [all_no hlt (by rw [HQ.out]; exact HB.out)]; rfl), rfl⟩
    · go_wp2
      go_ret
      have e : s.data.toList.take k = s.data.toList := List.take_of_length_le (by simp; omega)
      refine ⟨ret_bool ?_, rfl⟩
      unfold bits
      rw [← e, hI.out, e]
      have : (s.data.toList.length : Int) = s.size := by simp
      rw [this]
      rfl
end RefBits
end Go.Proofs.YtllbncfcnjmbmaaDoor
