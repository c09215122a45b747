/-
  Whether a text is a model: the reference's Is, One, True; package formula's model and True.
-/
import Derived.Test.YthhkngpbaflfiaaFormulaCheck
import Derived.Test.YthhkngpbaflfiaaIsP
import Derived.Test.YthhkngpbaflfiaaRefOne
import Derived.Test.YthhkngpbaflfiaaSlfB
namespace Go.Proofs.Ythhkngpbaflfiaa
open Go.RowKit Base
set_option linter.unusedVariables false
namespace True

set_option maxHeartbeats 1000000 in
theorem is_any (s : ByteArray) (hs : s.size ≤ 9223372036854775807) (l : Int) (h0 : -9223372036854775808 ≤ l) (h1 : l ≤ 9223372036854775807) (w : World) :
    Calls Try.prog 78 #[.string s, .int .i64 l] w fun e w' => e = .returned (.bool (CubeP.is s.data.toList l)) ∧ w = w' := by
  by_cases hp : 0 < l
  · by_cases hl : l ≤ s.size
    · obtain ⟨k, rfl⟩ : ∃ k : Nat, l = (k : Int) + 1 := ⟨(l - 1).toNat, by omega⟩
      have hk : k < s.size := by omega
      have HI := Lib.hid (IsP.is_pos s k hk)
      clear h0 h1 hp hl
      go_enter Try.func78, Try.ntmps78
      go_wp2
      go_ret
      exact ⟨ret_bool HI.out.symm, rfl⟩
    · have HI := Lib.hid (IsP.is_out s l (by omega))
      go_enter Try.func78, Try.ntmps78
      go_wp2
      go_ret
      exact ⟨ret_bool HI.out.symm, rfl⟩
  · by_cases hm : l = -9223372036854775808
    · subst hm
      have HI := Lib.hid (IsP.is_out s (-9223372036854775808) (by omega))
      go_enter Try.func78, Try.ntmps78
      go_wp2
      all_goals first | (go_ret; exact ⟨ret_bool HI.out.symm, rfl⟩) | (exfalso; have hwr : wrap64 9223372036854775808 = -9223372036854775808 := by unfold wrap64; omega
                                                                       omega)
    · by_cases hz : l = 0
      · subst hz
        have HI := Lib.hid (IsP.is_out s 0 (by omega))
        go_enter Try.func78, Try.ntmps78
        go_wp2
        go_ret
        exact ⟨ret_bool HI.out.symm, rfl⟩
      · obtain ⟨k, rfl⟩ : ∃ k : Nat, l = -((k : Int) + 1) := ⟨(-l - 1).toNat, by omega⟩
        have hkb : k ≤ 9223372036854775806 := by omega
        clear h0 h1 hp hm hz
        by_cases hk : k < s.size
        · clear hkb
          have HI := Lib.hid (IsP.is_neg s k hk)
          go_enter Try.func78, Try.ntmps78
          go_wp2
          go_ret
          exact ⟨ret_bool (by rw [HI.out, decide_eq_false (by omega)]; cases ((s[k].toNat : Int) == 49) <;> rfl), rfl⟩
        · have HI := Lib.hid (IsP.is_out s (-((k : Int) + 1)) (by omega))
          go_enter Try.func78, Try.ntmps78
          go_wp2
          go_ret
          exact ⟨ret_bool HI.out.symm, rfl⟩



/-- Is a text a model? -/
def tru (vars : Int) (cls : List (List Int)) (s : ByteArray) : Bool := s.data.toList.all CubeP.bit && decide ((s.size : Int) = vars) && cls.all (one s)

theorem all_take_more {α : Type} {xs : List α} {p : α → Bool} {k : Nat} (hk : k < xs.length) (h : (xs.take k).all p = true) (hp : p xs[k] = true) : (xs.take (k + 1)).all p = true := by
  rw [List.take_succ_eq_append_getElem hk, List.all_append, h]; simp [hp]

theorem all_miss {α : Type} {xs : List α} {p : α → Bool} {k : Nat} (hk : k < xs.length) (hp : p xs[k] = false) : xs.all p = false :=
  List.all_eq_false.2 ⟨_, List.getElem_mem hk, by rw [hp]; decide⟩

theorem byte_at (s : ByteArray) (k : Nat) (h : k < s.size) : s.data.toList[k]'(by simpa using h) = s[k] := rfl

theorem byte_neB (b c : UInt8) (h : b ≠ c) : ((b.toNat : Int) != (c.toNat : Int)) = true := by
  rw [bne, byte_ne b c h]; rfl

set_option maxHeartbeats 2000000 in
theorem refTrue_any (w : World) (vars : Int) (a : Option Addr) (n c : Nat) (vs : List Value) (cls : List (List Int)) (hsl : Sl2 w a n c vs cls) (hw : Formula.Wf2 cls) (s : ByteArray) (hs : s.size ≤ 9223372036854775807) :
    Calls Try.prog 25 #[.agg #[.int .i64 vars, .slice a n c], .string s] w fun e w' => e = .returned (.bool (tru vars cls s)) ∧ Below w.heap.size w w' := by
  have hal : Below w.heap.size w (w.alloc (.cells #[.int .i64 vars, .slice a n c] 24)) := (Below.refl _ _).alloc (Nat.le_refl _) _
  have HSL := Lib.hid (hsl.next hal)
  have hc0 : (w.alloc (.cells #[.int .i64 vars, .slice a n c] 24)).cell? ⟨w.heap.size, 0, none⟩ = some (.int .i64 vars) := by simp
  have hc1 : (w.alloc (.cells #[.int .i64 vars, .slice a n c] 24)).cell? ⟨w.heap.size, 1, none⟩ = some (.slice a n c) := by simp
  have HC0 := Lib.hid hc0
  have HC1 := Lib.hid hc1
  have HAL := Lib.hid hal
  have HL := Lib.hid hsl.len
  have HWF := Lib.hid hw
  have hcap := hsl.sl.cap
  have hbig := hsl.sl.big
  clear hc0 hc1 hal hsl hw
  go_enter Try.func25, Try.ntmps25
  go_wp2_with fail
  generalize w.alloc (.cells #[.int .i64 vars, .slice a n c] 24) = W at *
  go_loop [5] (fun i => ∃ k : Nat, k ≤ s.size ∧ i = .int .i64 k ∧ Hid ((s.data.toList.take k).all CubeP.bit = true)) (fun i => s.size - (intOf i).toNat)
  case atStart => exact ⟨0, Nat.zero_le _, rfl, rfl⟩
  case round =>
    obtain ⟨k, hk, rfl, hI⟩ := hrel
    by_cases hlt : k < s.size
    · have hkl : k < s.data.toList.length := by simpa using hlt
      generalize hq : s[k] = q at *
      have HQ := Lib.hid hq
      have hix : s[k] = q := hq
      by_cases h0 : q = 48
      · have v0 : ((q.toNat : Int) != 48) = false := by rw [h0]; rfl
        have HB : Hid (CubeP.bit s.data.toList[k] = true) := by show CubeP.bit s[k] = true; rw [HQ.out, h0]; rfl
        clear h0 hq
        go_wp2
        go_round
        case rel => exact ⟨k + 1, by omega, by go_num, all_take_more hkl hI.out HB.out⟩
        case measure => simp [intOf]; omega
      · have v0 : ((q.toNat : Int) != 48) = true := byte_neB q 48 h0
        by_cases h1 : q = 49
        · have v1 : ((q.toNat : Int) != 49) = false := by rw [h1]; rfl
          have HB : Hid (CubeP.bit s.data.toList[k] = true) := by show CubeP.bit s[k] = true; rw [HQ.out, h1]; rfl
          clear h0 h1 hq
          go_wp2
          go_round
          case rel => exact ⟨k + 1, by omega, by go_num, all_take_more hkl hI.out HB.out⟩
          case measure => simp [intOf]; omega
        · have v1 : ((q.toNat : Int) != 49) = true := byte_neB q 49 h1
          have HB : Hid (tru vars cls s = false) := by
            show _ = _
            unfold tru
            rw [all_miss hkl (show CubeP.bit s[k] = false by rw [HQ.out]; unfold CubeP.bit; simp [h0, h1])]; rfl
          clear h0 h1 hq
          go_wp2
          go_ret
          exact ⟨ret_bool HB.out.symm, HAL.out⟩
    · have HBIT : Hid (s.data.toList.all CubeP.bit = true) := by
        show _ = _
        have h := hI.out
        rwa [List.take_of_length_le (by simp; omega)] at h
      clear hI
      go_wp2_with fail
      clear hk hlt
      go_loop [6] (fun i => ∃ k : Nat, k ≤ n ∧ i = .int .i64 k ∧ Hid ((cls.take k).all (one s) = true)) (fun i => n - (intOf i).toNat)
      case atStart => exact ⟨0, Nat.zero_le _, rfl, rfl⟩
      case round =>
        obtain ⟨k, hk, rfl, hI⟩ := hrel
        have c0 := HC0.out
        have c1 := HC1.out
        by_cases hlt : k < n
        · obtain ⟨b, o, a', c', hxk, rfl, hbs, hc, hsr, _⟩ := HSL.out.at hlt
          have H := Lib.hid (refOne_any W s hs a' cls[k].length c' cls[k] hsr (HWF.out _ (List.getElem_mem hxk)))
          cases hq : one s cls[k]
          · rw [hq] at H
            have HB : Hid (tru vars cls s = false) := by
              show _ = _
              unfold tru
              rw [all_miss hxk hq]; simp
            clear hq hsr
            generalize cls[k].length = m at *
            go_wp2_with fail
            refine H.out.mono ?_; rintro e w1 ⟨rfl, rfl⟩
            go_wp2_with fail
            go_ret
            exact ⟨ret_bool HB.out.symm, HAL.out⟩
          · rw [hq] at H
            have HB := Lib.hid (all_take_more hxk hI.out hq)
            clear hq hsr
            generalize cls[k].length = m at *
            go_wp2_with fail
            refine H.out.mono ?_; rintro e w1 ⟨rfl, rfl⟩
            go_wp2_with fail
            go_round
            case rel => exact ⟨k + 1, by omega, by go_num, HB.out⟩
            case measure => simp [intOf]; omega
        · have HB : Hid (tru vars cls s = ((s.size : Int) == vars)) := by
            show _ = _
            have h := hI.out
            rw [List.take_of_length_le (by rw [HL.out]; omega)] at h
            unfold tru
            rw [HBIT.out, h]
            rw [Bool.eq_iff_iff]; simp
          go_wp2_with fail
          go_ret
          exact ⟨ret_bool HB.out.symm, HAL.out⟩
end True
end Go.Proofs.Ythhkngpbaflfiaa
