/-
  formula.Brute: the least model of few variables.
-/
import Derived.Test.YtpanpfbhdcanhaaBruteP
import Derived.Test.YtpanpfbhdcanhaaFormulaTrue
import Derived.Test.YtpanpfbhdcanhaaModels
namespace Go.Proofs.Ytpanpfbhdcanhaa
open Go.RowKit Base ModelsP BruteP
set_option linter.unusedVariables false
set_option linter.unusedSimpArgs false
namespace Brute

theorem bits_any (N V : Nat) (hN : N ≤ 1073741824) (hV : V ≤ 1073741824) (w : World) :
    Calls Try.prog 28 #[.int .i64 N, .int .i64 V] w fun e w' => e = .returned (.string ⟨(digits V N).toArray⟩) ∧ Below w.heap.size w w' := by
  have h := (callsIn_wide (n := 3)).1 (Back.bits_in Fence.wide 3 trivial trivial trivial rfl (by omega) N V hN hV w)
  rw [st_all] at h
  exact h

/-- What Brute comes to. -/
def spec (vars : Int) (cls : List (List Int)) : ByteArray × Bool × Int :=
  if Formula.check vars cls = 0 then
    if 14 < vars then (⟨#[]⟩, false, 5)
    else match found vars cls with
      | some s => (s, true, 0)
      | none => (⟨#[]⟩, false, 0)
  else (⟨#[]⟩, false, 9)

def Out (w : World) (s : ByteArray × Bool × Int) (e : Ending) (w' : World) : Prop := e = .returned (.tuple #[.string s.1, .bool s.2.1, .int .i64 s.2.2]) ∧ Below w.heap.size w w'

set_option maxRecDepth 4000 in
set_option maxHeartbeats 4000000 in
theorem any (w : World) (vars : Int) (a : Option Addr) (n c : Nat) (vs : List Value) (cls : List (List Int)) (hsl : Sl2 w a n c vs cls) (hw : Formula.Wf2 cls) :
    Calls Try.prog 12 #[.agg #[.int .i64 vars, .slice a n c]] w (Out w (spec vars cls)) := by
  have hal : Below w.heap.size w (w.alloc (.cells #[.int .i64 vars, .slice a n c] 24)) := (Below.refl _ _).alloc (Nat.le_refl _) _
  have hbox : Models.Box (w.alloc (.cells #[.int .i64 vars, .slice a n c] 24)) w.heap.size vars a n c := ⟨by simp, by simp, by simp⟩
  have HBOX := Lib.hid hbox
  have HSL := Lib.hid (hsl.next hal)
  have HAL := Lib.hid hal
  have HWF := Lib.hid hw
  clear hal hbox hsl hw
  go_enter Try.func12, Try.ntmps12
  go_wp2_with fail
  generalize w.alloc (.cells #[.int .i64 vars, .slice a n c] 24) = W at *
  have c0 := HBOX.out.c0
  have k1 := HBOX.out.c1
  refine (Formula.check_any W vars a n c vs cls HSL.out HWF.out).mono ?_
  rintro e w1 ⟨rfl, hb1⟩
  have hx1 := HBOX.out.next hb1
  have HEND1 : Hid (Below w.heap.size w w1) := HAL.out.trans (hb1.mono HAL.out.size)
  clear c0 k1
  have c0 := hx1.c0
  have k1 := hx1.c1
  by_cases hc : Formula.check vars cls = 0
  · have t1 : (Formula.check vars cls != 0) = false := by rw [bne, beq_iff_eq.2 hc]; rfl
    have hv : 0 ≤ vars ∧ vars ≤ 262144 := by
      have h := hc
      unfold Formula.check at h
      split at h
      · omega
      · rename_i hb
        unfold Formula.bad at hb
        simp only [Bool.not_eq_true, Bool.or_eq_false_iff, decide_eq_false_iff_not] at hb
        omega
    have HSP : Hid (spec vars cls = ((if 14 < vars then (⟨#[]⟩, false, 5) else match found vars cls with | some s => (s, true, 0) | none => (⟨#[]⟩, false, 0)) : ByteArray × Bool × Int)) := if_pos hc
    have HC := Lib.hid hc
    clear hc
    generalize hq : Formula.check vars cls = q at *
    have HQ := Lib.hid hq
    clear hq
    obtain ⟨V, rfl⟩ : ∃ V : Nat, vars = V := ⟨vars.toNat, by omega⟩
    by_cases h14 : (14 : Int) < V
    · have HS2 := Lib.hid (HSP.out.trans (if_pos h14))
      go_wp2_with fail
      exact bodyPost_ret (v := .tuple #[.string ⟨#[]⟩, .bool false, .int .i64 5]) (by simp [results, Try.results12, go_sem]) rfl ⟨by rw [HS2.out], HEND1.out⟩
    · have hV14 : V ≤ 14 := by omega
      have HS2 := Lib.hid (HSP.out.trans (if_neg h14))
      have HPOW : Hid ((2 : Nat) ^ V ≤ 16384) := by show _ ≤ _; exact Nat.le_trans (Nat.pow_le_pow_right (by decide) hV14) (by decide)
      clear hv HSP
      go_wp2_with fail
      obtain ⟨P, hP⟩ : ∃ P : Nat, P = 2 ^ V := ⟨_, rfl⟩
      have hPb : P ≤ 16384 := by rw [hP]; exact HPOW.out
      have hwr : wrap64 ((2 : Int) ^ V) = (P : Int) := by
        have e : ((2 : Int) ^ V) = ((2 ^ V : Nat) : Int) := by simp
        rw [e, ← hP]
        unfold wrap64
        omega
      rw [hwr]
      have HP := Lib.hid hP
      have HX1 := Lib.hid hx1
      clear hwr hP c0 k1 hx1
      go_loopw [19] (fun i wr => ∃ k : Nat, k ≤ P ∧ i = .int .i64 k ∧ Hid (∀ t ∈ (allS V).take k, True.tru V cls t = false) ∧ Below w1.heap.size w1 wr) (fun i _ => P - (intOf i).toNat)
      case atStart => exact ⟨0, Nat.zero_le _, rfl, by intro t ht; simp at ht, Below.refl _ _⟩
      case round =>
        obtain ⟨k, hk, rfl, hI, hbr⟩ := hrel
        have hx := HX1.out.next hbr
        have c0 := hx.c0
        by_cases hlt : k < P
        · have hget := allS_get V k (by rw [← HP.out]; exact hlt)
          have HGET := Lib.hid hget
          have HBI := Lib.hid (bits_any k V (by omega) (by omega) wr)
          have hsz : (⟨(digits V k).toArray⟩ : ByteArray).size ≤ 14 := by
            have : (⟨(digits V k).toArray⟩ : ByteArray).size = (digits V k).length := by simp [ByteArray.size]
            rw [this, digits_len]; omega
          clear hget
          generalize (⟨(digits V k).toArray⟩ : ByteArray) = y at *
          go_wp2_with fail
          refine HBI.out.mono ?_; rintro e w2 ⟨rfl, hb2⟩
          have hx2 := hx.next hb2
          clear c0
          have c0 := hx2.c0
          have k1 := hx2.c1
          have hbW2 : Below W.heap.size W w2 := (hb1.trans (hbr.mono hb1.size)).trans (hb2.mono (Nat.le_trans hb1.size hbr.size))
          have HTR := Lib.hid (True.true_any w2 V a n c vs cls (HSL.out.next hbW2) HWF.out y (by omega))
          have hb12 : Below w1.heap.size w1 w2 := hbr.trans (hb2.mono hbr.size)
          cases hT : True.tru V cls y
          · rw [hT] at HTR
            have HI2 : Hid (∀ t ∈ (allS V).take (k + 1), True.tru V cls t = false) := by
              intro t ht
              rw [List.take_add_one, List.mem_append] at ht
              rcases ht with h | h
              · exact hI.out t h
              · rw [HGET.out] at h
                simp at h
                rw [h]; exact hT
            clear hT
            go_wp2_with fail
            refine HTR.out.mono ?_; rintro e w3 ⟨rfl, hb3⟩
            go_wp2_with fail
            go_roundw
            case rel => exact ⟨k + 1, by omega, by go_num, HI2, hb12.trans (hb3.mono hb12.size)⟩
            case measure => simp [intOf]; omega
          · rw [hT] at HTR
            have HF : Hid (spec V cls = (y, true, 0)) := by
              show _ = _
              rw [HS2.out, found_here (s := y) (k := k) (by rw [Int.toNat_natCast]; exact HGET.out) (by rw [Int.toNat_natCast]; exact hI.out) hT]
            clear hT
            go_wp2_with fail
            refine HTR.out.mono ?_; rintro e w3 ⟨rfl, hb3⟩
            go_wp2_with fail
            exact bodyPost_ret (v := .tuple #[.string y, .bool true, .int .i64 0]) (by simp [results, Try.results12, go_sem]) rfl ⟨by rw [HF.out], HEND1.out.trans ((hb12.trans (hb3.mono hb12.size)).mono HEND1.out.size)⟩
        · have HF : Hid (spec V cls = (⟨#[]⟩, false, 0)) := by
            show _ = _
            have h := hI.out
            rw [List.take_of_length_le (by rw [allS_len, ← HP.out]; omega)] at h
            rw [HS2.out, found_none (by rw [Int.toNat_natCast]; exact h)]
          go_wp2_with fail
          exact bodyPost_ret (v := .tuple #[.string ⟨#[]⟩, .bool false, .int .i64 0]) (by simp [results, Try.results12, go_sem]) rfl ⟨by rw [HF.out], HEND1.out.trans (hbr.mono HEND1.out.size)⟩
  · have HQ : Hid (Formula.check vars cls = 9) := by
      show _ = _
      have h := hc
      unfold Formula.check at h ⊢
      split at h
      · rename_i hb; rw [if_pos hb]
      · exact absurd rfl h
    have HS : Hid (spec vars cls = (⟨#[]⟩, false, 9)) := if_neg hc
    rw [HQ.out]
    clear hc
    go_wp2_with fail
    exact bodyPost_ret (v := .tuple #[.string ⟨#[]⟩, .bool false, .int .i64 9]) (by simp [results, Try.results12, go_sem]) rfl ⟨by rw [HS.out], HEND1.out⟩
end Brute
end Go.Proofs.Ytpanpfbhdcanhaa
