/-
  interlocklaw11.FormulaMore: the walk.
-/
import Derived.Test.YtpanpfbhdcanhaaAlive
import Derived.Test.YtpanpfbhdcanhaaAdd
import Derived.Test.YtpanpfbhdcanhaaFormulaTrue
namespace Go.Proofs.Ytpanpfbhdcanhaa
open Go.RowKit Base
set_option linter.unusedVariables false
set_option linter.unusedSimpArgs false
namespace More

theorem tru_append (vars : Int) (cls more : List (List Int)) (s : ByteArray) : True.tru vars (cls ++ more) s = (True.tru vars cls s && more.all (True.one s)) := by
  unfold True.tru
  simp only [List.all_append, Bool.and_assoc]

theorem and_take {α : Type} {xs : List α} {p : α → Bool} {t : Bool} {k : Nat} (hk : k < xs.length) : (t && (xs.take (k + 1)).all p) = ((t && (xs.take k).all p) && p xs[k]) := by
  rw [List.take_succ_eq_append_getElem hk, List.all_append, Bool.and_assoc]; simp

set_option maxHeartbeats 2000000 in
theorem more_any (w : World) (vars : Int) (a : Option Addr) (n c : Nat) (vs : List Value) (cls : List (List Int)) (hsl : Sl2 w a n c vs cls) (hw : Formula.Wf2 cls)
    (a1 : Option Addr) (n1 c1 : Nat) (vs1 : List Value) (more : List (List Int)) (hsl1 : Sl2 w a1 n1 c1 vs1 more) (hw1 : Formula.Wf2 more) (s : ByteArray) (hs : s.size ≤ 9223372036854775807)
    (hn : n + n1 ≤ 1073741824) (hlen : ∀ l ∈ cls ++ more, l.length ≤ 1073741824) :
    Calls Try.prog 6 #[.agg #[.int .i64 vars, .slice a n c], .slice a1 n1 c1, .string s] w fun e w' => e = .returned (.bool true) ∧ Below w.heap.size w w' := by
  have hal : Below w.heap.size w (w.alloc (.cells #[.int .i64 vars, .slice a n c] 24)) := (Below.refl _ _).alloc (Nat.le_refl _) _
  have hc0 : (w.alloc (.cells #[.int .i64 vars, .slice a n c] 24)).cell? ⟨w.heap.size, 0, none⟩ = some (.int .i64 vars) := by simp
  have hc1 : (w.alloc (.cells #[.int .i64 vars, .slice a n c] 24)).cell? ⟨w.heap.size, 1, none⟩ = some (.slice a n c) := by simp
  have HSL := Lib.hid (hsl.next hal)
  have HSL1 := Lib.hid (hsl1.next hal)
  have HC0 := Lib.hid hc0
  have HC1 := Lib.hid hc1
  have HAL := Lib.hid hal
  have HW := Lib.hid hw
  have HW1 := Lib.hid hw1
  have HLEN := Lib.hid hlen
  have HL1 := Lib.hid hsl1.len
  have hsz0 : (w.alloc (.cells #[.int .i64 vars, .slice a n c] 24)).heap.size = w.heap.size + 1 := by simp
  have HSZ0 := Lib.hid hsz0
  have hbig1 := hsl1.sl.big
  have hcap1 := hsl1.sl.cap
  clear hc0 hc1 hal hsl hsl1 hw hw1 hlen hsz0
  go_enter Try.func6, Try.ntmps6
  go_wp2_with fail
  generalize w.alloc (.cells #[.int .i64 vars, .slice a n c] 24) = W at *
  refine (Alive.alive_any W).mono ?_
  rintro e w1 ⟨rfl, hb1⟩
  have c0 : w1.cell? ⟨w.heap.size, 0, none⟩ = some (.int .i64 vars) := (hb1.cell (p := ⟨w.heap.size, 0, none⟩) (by rw [HSZ0.out]; exact Nat.lt_succ_self _)).trans HC0.out
  have k1 : w1.cell? ⟨w.heap.size, 1, none⟩ = some (.slice a n c) := (hb1.cell (p := ⟨w.heap.size, 1, none⟩) (by rw [HSZ0.out]; exact Nat.lt_succ_self _)).trans HC1.out
  go_wp2_with fail
  refine (Add.add_any w1 vars a n c vs cls (HSL.out.next hb1) HW.out a1 n1 c1 vs1 more (HSL1.out.next hb1) HW1.out hn HLEN.out).mono ?_
  rintro e w2 ⟨hor, hb2⟩
  by_cases hq : Formula.check vars (cls ++ more) = 0
  · rw [if_pos hq] at hor
    obtain ⟨a2, c2, vals, rfl, hs2⟩ := hor
    have c0' : w2.cell? ⟨w.heap.size, 0, none⟩ = some (.int .i64 vars) := (hb2.cell (p := ⟨w.heap.size, 0, none⟩) (by have := hb1.size; have := HSZ0.out; show w.heap.size < w1.heap.size; omega)).trans c0
    have c1' : w2.cell? ⟨w.heap.size, 1, none⟩ = some (.slice a n c) := (hb2.cell (p := ⟨w.heap.size, 1, none⟩) (by have := hb1.size; have := HSZ0.out; show w.heap.size < w1.heap.size; omega)).trans k1
    clear c0 k1
    have hsz2 : w.heap.size < w2.heap.size := by have := hb1.size; have := hb2.size; have := HSZ0.out; omega
    clear hq
    have hbw2 : Below W.heap.size W w2 := hb1.trans (hb2.mono hb1.size)
    have HTA := Lib.hid (tru_append vars cls more s)
    generalize hall : cls ++ more = all at *
    have hwa : Formula.Wf2 all := by
      rw [← hall]
      intro l hl
      rcases List.mem_append.1 hl with h | h
      · exact HW.out l h
      · exact HW1.out l h
    have HWA := Lib.hid hwa
    clear hwa hall
    generalize hm : all.length = m at *
    have HM := Lib.hid hm
    clear hm
    have hal : Below w2.heap.size w2 (w2.alloc (.cells #[.int .i64 vars, .slice a2 m c2] 24)) := (Below.refl _ _).alloc (Nat.le_refl _) _
    have d0 : (w2.alloc (.cells #[.int .i64 vars, .slice a2 m c2] 24)).cell? ⟨w2.heap.size, 0, none⟩ = some (.int .i64 vars) := by simp
    have d1 : (w2.alloc (.cells #[.int .i64 vars, .slice a2 m c2] 24)).cell? ⟨w2.heap.size, 1, none⟩ = some (.slice a2 m c2) := by simp
    have hs2' := hs2.next hal
    have hz3 : (w2.alloc (.cells #[.int .i64 vars, .slice a2 m c2] 24)).heap.size = w2.heap.size + 1 := by simp
    have D0 := Lib.hid d0
    have D1 := Lib.hid d1
    have HZ3 := Lib.hid hz3
    have HS2 := Lib.hid hs2'
    have HAL2 := Lib.hid hal
    clear d0 d1 hs2 hal hs2' hz3
    go_wp2_with fail
    generalize w2.alloc (.cells #[.int .i64 vars, .slice a2 m c2] 24) = w3 at *
    refine (Alive.num_any _ _).mono ?_
    rintro e w3' ⟨rfl, rfl⟩
    have c0 : w3.cell? ⟨w.heap.size, 0, none⟩ = some (.int .i64 vars) := (HAL2.out.cell (p := ⟨w.heap.size, 0, none⟩) hsz2).trans c0'
    have k1 : w3.cell? ⟨w.heap.size, 1, none⟩ = some (.slice a n c) := (HAL2.out.cell (p := ⟨w.heap.size, 1, none⟩) hsz2).trans c1'
    clear c0' c1'
    have hbw3 : Below W.heap.size W w3 := hbw2.trans (HAL2.out.mono hbw2.size)
    have H1 := Lib.hid (True.true_any w3 vars a n c vs cls (HSL.out.next hbw3) HW.out s hs)
    generalize hT : True.tru vars cls s = T at *
    have HT := Lib.hid hT
    clear hT
    go_wp2_with fail
    refine H1.out.mono ?_
    rintro e w4 ⟨rfl, hb4⟩
    clear c0 k1
    go_wp2_with fail
    go_loopw [9, 10] (fun v i wr => ∃ k : Nat, k ≤ n1 ∧ i = .int .i64 k ∧ (∃ b, v = .bool b ∧ Hid (b = (T && (more.take k).all (True.one s)))) ∧ Below w3.heap.size w3 wr) (fun _ i _ => n1 - (intOf i).toNat)
    case atStart => exact ⟨0, Nat.zero_le _, rfl, ⟨T, rfl, by show T = _; simp⟩, hb4⟩
    case round =>
      obtain ⟨k, hk, rfl, ⟨b, rfl, hI⟩, hbr⟩ := hrel
      have hbWr : Below W.heap.size W wr := hbw3.trans (hbr.mono hbw3.size)
      by_cases hlt : k < n1
      · obtain ⟨g, o, a', c', hxk, rfl, hbs, hc, hsr, _⟩ := (HSL1.out.next hbWr).at hlt
        have HA := Lib.hid (and_take (t := T) (p := True.one s) hxk)
        cases b
        · have HF : Hid (false = (T && (more.take (k + 1)).all (True.one s))) := by
            show _ = _
            rw [HA.out, ← hI.out]; rfl
          clear hsr HA
          generalize more[k].length = m' at *
          go_wp2_with fail
          go_roundw
          case rel => exact ⟨k + 1, by omega, by go_num, ⟨_, rfl, HF⟩, hbr⟩
          case measure => simp [intOf]; omega
        · have H := fun U (hU : Below wr.heap.size wr U) => True.refOne_any U s hs a' more[k].length c' more[k] (hsr.next hU) (HW1.out _ (List.getElem_mem hxk))
          have HO := Lib.hid H
          have HF : Hid (True.one s more[k] = (T && (more.take (k + 1)).all (True.one s))) := by
            show _ = _
            rw [HA.out, ← hI.out]; rfl
          clear hsr HA H
          generalize hq : True.one s more[k] = q at *
          generalize more[k].length = m' at *
          clear hq
          go_wp2_with fail
          refine (HO.out _ (by exact Below.refl _ _)).mono ?_
          rintro e w6 ⟨rfl, rfl⟩
          go_wp2_with fail
          go_roundw
          case rel => exact ⟨k + 1, by omega, by go_num, ⟨_, rfl, HF⟩, hbr⟩
          case measure => simp [intOf]; omega
      · have HF : Hid (b = True.tru vars all s) := by
          show _ = _
          have h := hI.out
          rw [List.take_of_length_le (by have := HL1.out; omega)] at h
          rw [h, HTA.out]
        have d0 : wr.cell? ⟨w2.heap.size, 0, none⟩ = some (.int .i64 vars) := (hbr.cell (p := ⟨w2.heap.size, 0, none⟩) (by rw [HZ3.out]; exact Nat.lt_succ_self _)).trans D0.out
        have d1 : wr.cell? ⟨w2.heap.size, 1, none⟩ = some (.slice a2 m c2) := (hbr.cell (p := ⟨w2.heap.size, 1, none⟩) (by rw [HZ3.out]; exact Nat.lt_succ_self _)).trans D1.out
        have HG := Lib.hid (True.true_any wr vars a2 m c2 vals all (HS2.out.next hbr) HWA.out s hs)
        rw [← HF.out] at HG
        go_wp2_with fail
        refine HG.out.mono ?_
        rintro e w6 ⟨rfl, hb6⟩
        go_wp2_with fail
        go_ret
        refine ⟨?_, ?_⟩
        · cases b <;> rfl
        · exact HAL.out.trans ((hbWr.trans (hb6.mono hbWr.size)).mono HAL.out.size)
  · rw [if_neg hq] at hor
    subst hor
    clear hq
    have hal : Below w2.heap.size w2 (w2.alloc (.cells #[.int .i64 0, .slice none 0 0] 24)) := (Below.refl _ _).alloc (Nat.le_refl _) _
    have d1 : (w2.alloc (.cells #[.int .i64 0, .slice none 0 0] 24)).cell? ⟨w2.heap.size, 1, none⟩ = some (.slice none 0 0) := by simp
    go_wp2_with fail
    generalize w2.alloc (.cells #[.int .i64 0, .slice none 0 0] 24) = w3 at *
    refine (Alive.num_any _ _).mono ?_
    rintro e w3' ⟨rfl, rfl⟩
    go_wp2_with fail
    go_ret
    refine ⟨by rfl, ?_⟩
    have hbw2 : Below W.heap.size W w2 := hb1.trans (hb2.mono hb1.size)
    exact HAL.out.trans ((hbw2.trans (hal.mono hbw2.size)).mono HAL.out.size)
end More
end Go.Proofs.Ytpanpfbhdcanhaa
