/-
  preproc.cleaned: clauses in order, each once.
-/
import Derived.Test.YthhkngpbaflfiaaCNorm
import Derived.Test.YthhkngpbaflfiaaEqI
import Derived.Test.YthhkngpbaflfiaaSlfR
import Derived.Test.YthhkngpbaflfiaaMix
import Derived.Test.YthhkngpbaflfiaaPreP
import Derived.Test.YthhkngpbaflfiaaFormulaCheck
namespace Go.Proofs.Ythhkngpbaflfiaa
open Go.RowKit Base
set_option linter.unusedVariables false
set_option linter.unusedSimpArgs false
namespace Pre
open RefC (norm always)

theorem info24 : (Try.prog.info? 29).map (fun i => (i.zero, i.size, i.bytes)) = some (some (.slice none 0 0), 1, 24) := by kernel_rfl

def RowsOut (w : World) (xss : List (List Int)) (e : Ending) (w' : World) : Prop :=
  ∃ a' c' vals, e = .returned (.slice a' xss.length c') ∧ Own2 w' w.heap.size 29 3 (.slice a' xss.length c') xss.length vals xss ∧ Below w.heap.size w w'

theorem eg_same : SlfR.Enters 44 := enters_of Try.func44 (by kernel_rfl) rfl

set_option maxHeartbeats 400000 in
theorem same1_any (w : World) (a : Option Addr) (n c : Nat) (xs : List Int) (hsl : Sl w a n c (ints xs)) (a2 : Option Addr) (n2 c2 : Nat) (ys : List Int) (hsl2 : Sl w a2 n2 c2 (ints ys)) (B : Nat) (hc : w.cell? ⟨B, 0, none⟩ = some (.slice a n c)) :
    Calls Try.prog 44 #[.slice a2 n2 c2, .pointer (some ⟨B, 0, none⟩)] w fun e w' => e = .returned (.bool (decide (xs = ys))) ∧ Below w.heap.size w w' := by
  have H := Lib.hid (EqI.equal_any w a a2 n n2 c c2 xs ys hsl hsl2)
  clear hsl hsl2
  go_enter Try.func44, Try.ntmps44
  go_wp2_with fail
  refine H.out.mono ?_
  rintro e w1 ⟨rfl, q, rfl⟩
  go_wp2_with fail
  go_ret
  exact ⟨ret_bool rfl, below_drewN (Below.refl _ _) q⟩

theorem any_dec (L : List (List Int)) (x : List Int) : (L.map fun y => decide (x = y)).any id = decide (x ∈ L) := by
  rw [List.any_map, Bool.eq_iff_iff]
  simp

set_option maxHeartbeats 4000000 in
theorem cleaned_any (w : World) (a : Option Addr) (n c : Nat) (vs : List Value) (cls : List (List Int)) (hsl : Sl2 w a n c vs cls) (hw : Formula.Wf2 cls) (hn : n * 24 ≤ 140737488355328) (hlen : ∀ l ∈ cls, l.length * 8 ≤ 140737488355328) :
    Calls Try.prog 27 #[.slice a n c] w (RowsOut w (cleaned cls)) := by
  have hL := hsl.len
  have hcap := hsl.sl.cap
  have hbig := hsl.sl.big
  have HS := Lib.hid hsl
  have HW := Lib.hid hw
  have HN := Lib.hid hn
  have HLEN := Lib.hid hlen
  have HLL := Lib.hid hL
  obtain ⟨N, hN⟩ : ∃ N, N = w.heap.size := ⟨_, rfl⟩
  have HNN := Lib.hid hN
  clear hsl hw hn hlen hL hN
  go_enter Try.func27, Try.ntmps27
  go_wp2_with fail
  go_loopw [3, 10] (fun v i wr => ∃ k m : Nat, k ≤ n ∧ i = .int .i64 k ∧ (∃ a' c' vals, v = .slice a' m c' ∧ Hid (Own2 wr N 29 3 (.slice a' m c') m vals (cleaned (cls.take k)))) ∧ Hid (Below N w wr)) (fun _ i _ => n - (intOf i).toNat)
  case atStart => exact ⟨0, 0, Nat.zero_le _, rfl, ⟨none, 0, [], rfl, Own2.nil _ _ _ _⟩, Below.refl _ _⟩
  case round =>
    obtain ⟨k, m, hk, rfl, ⟨a', c', vals, rfl, hmix⟩, hbr⟩ := hrel
    have hbw : Below w.heap.size w wr := by rw [← HNN.out]; exact hbr.out
    by_cases hlt : k < n
    · obtain ⟨g, o, a3, c3, hx, rfl, hgs, hc, hs3, hvk⟩ := HS.out.at hlt
      have k0 := (hbw.cell (p := ⟨g, o + k, none⟩) hgs).trans hc
      have NM := Lib.hid (Clause.norm_any wr a3 _ c3 cls[k] (hs3.next hbw) (HW.out _ (List.getElem_mem hx)) (HLEN.out _ (List.getElem_mem hx)))
      have HM := Lib.hid (cleaned_more cls k hx)
      have HBW := Lib.hid hbw
      clear hc hs3 hvk hbw
      generalize cls[k] = x at *
      generalize x.length = xl at *
      go_wp2_with fail
      refine NM.out.mono ?_
      rintro e w1 ⟨a4, c4, rfl, hown4, hb4⟩
      have hb4' : Below N w w1 := hbr.out.trans (hb4.mono (by rw [HNN.out]; exact HBW.out.size))
      have hrow : w1.ownsRow N 3 1 (.slice a4 (norm x).length c4) (norm x).length (ints (norm x)) := own_mono hown4 (by rw [HNN.out]; exact HBW.out.size)
      have hmix1 := hmix.out.next hb4
      cases hal : always (norm x)
      · have hal2 : Below w1.heap.size w1 (w1.alloc (.cells #[.slice a4 (norm x).length c4] 29)) := (Below.refl _ _).alloc (Nat.le_refl _) _
        have hcell : (w1.alloc (.cells #[.slice a4 (norm x).length c4] 29)).cell? ⟨w1.heap.size, 0, none⟩ = some (.slice a4 (norm x).length c4) := by simp
        have hmix2 := hmix1.next hal2
        have hrow2 := own_next hrow hal2
        have hsl5 := Base.own_ints hrow2
        have CF := SlfR.containsFunc _ a' m c' vals 44 #[] #[.pointer (some ⟨w1.heap.size, 0, none⟩)] ((cleaned (cls.take k)).map fun y => decide (norm x = y)) hmix2.sl2'.sl (by rw [List.length_map]; exact hmix2.len) eg_same (by
          intro W hW j v b hv hb
          rw [List.getElem?_map, Option.map_eq_some_iff] at hb
          obtain ⟨ys, hys, rfl⟩ := hb
          obtain ⟨a6, c6, rfl, hs6⟩ := hmix2.sl2'.row j v ys hv hys
          exact same1_any W a4 _ c4 (norm x) (hsl5.next hW) a6 _ c6 ys (hs6.next hW) w1.heap.size ((hW.cell (p := ⟨w1.heap.size, 0, none⟩) (by simp)).trans hcell))
        rw [any_dec] at CF
        have HCF := Lib.hid CF
        have HB4 := Lib.hid hb4'
        have HMX := Lib.hid hmix2
        have HRW := Lib.hid hrow2
        have HCL := Lib.hid hcell
        have HZ1 : Hid (N ≤ w1.heap.size) := Nat.le_trans (Nat.le_of_eq HNN.out) hb4'.size
        have HAL := Lib.hid hal
        have HML : Hid (m ≤ k) := by
          have h1 := hmix.out.len
          have h2 := len_cleaned (cls.take k)
          rw [List.length_take] at h2
          show m ≤ k
          omega
        clear CF hb4 hb4' hmix1 hmix2 hrow hrow2 hcell hal2 hown4 hsl5 hmix hbr
        by_cases hin : norm x ∈ cleaned (cls.take k)
        · rw [decide_eq_true hin] at HCF
          have HST : Hid (cleaned (cls.take (k + 1)) = cleaned (cls.take k)) := by
            show _ = _
            rw [HM.out]; unfold step; rw [if_pos (.inr hin)]
          clear hin
          generalize norm x = L at *
          generalize L.length = ll at *
          go_wp2_with fail
          refine HCF.out.mono ?_
          rintro e w2 ⟨rfl, hb2⟩
          have HMX2 := Lib.hid (HMX.out.next hb2)
          have HB2 := Lib.hid ((HB4.out.alloc (by have := HZ1.out; exact this) (.cells #[.slice a4 ll c4] 29)).trans (hb2.mono (by simp; have := HZ1.out; omega)))
          clear hb2
          go_wp2_with fail
          go_roundw
          case rel => exact ⟨k + 1, m, by omega, by go_num, ⟨a', c', vals, rfl, by show Own2 _ _ _ _ _ _ _ _; rw [HST.out]; exact HMX2.out⟩, HB2.out⟩
          case measure => simp [intOf]; omega
        · rw [decide_eq_false hin] at HCF
          have HST : Hid (cleaned (cls.take (k + 1)) = cleaned (cls.take k) ++ [norm x]) := by
            show _ = _
            rw [HM.out]; unfold step; rw [if_neg]
            rintro (h | h)
            · rw [HAL.out] at h; cases h
            · exact hin h
          clear hin
          generalize norm x = L at *
          generalize hll : L.length = ll at *
          have HLLn := Lib.hid hll
          clear hll
          go_wp2_with fail
          refine HCF.out.mono ?_
          rintro e w2 ⟨rfl, hb2⟩
          have HMX2 := Lib.hid (HMX.out.next hb2)
          have HRW2 := Lib.hid (own_next HRW.out hb2)
          have hc2 := (hb2.cell (p := ⟨w1.heap.size, 0, none⟩) (by simp)).trans HCL.out
          have HB2 := Lib.hid ((HB4.out.alloc (by have := HZ1.out; exact this) (.cells #[.slice a4 ll c4] 29)).trans (hb2.mono (by simp; have := HZ1.out; omega)))
          have HZ2 : Hid (N ≤ w2.heap.size) := Nat.le_trans (Nat.le_of_eq HNN.out) HB2.out.size
          clear hb2
          go_wp2_with ((with_reducible refine wpL_pushO (B := N) (W := w) _ _ _ L _ HLLn.out _ m vals (cleaned (cls.take k)) info24 Try.underlying22 ?_ ?_ ?_ ?_ HMX2.out HRW2.out ?_ ?_ ?_ HB2.out ?_); decide; rfl; rfl; rfl; exact HZ2.out; (have := HN.out; have := HML.out; omega); (have := HN.out; have := HML.out; omega); (intro a6 c6 w3 hmix3 hb3 hs3))
          go_roundw
          case rel => exact ⟨k + 1, m + 1, by omega, by go_num, ⟨a6, c6, _, by go_num, by show Own2 _ _ _ _ _ _ _ _; rw [HST.out]; exact hmix3⟩, hb3⟩
          case measure => simp [intOf]; omega
      · have HST : Hid (cleaned (cls.take (k + 1)) = cleaned (cls.take k)) := by
          show _ = _
          rw [HM.out]; unfold step; rw [if_pos (.inl hal)]
        have HMX2 := Lib.hid (hmix1.next ((Below.refl _ _).alloc (Nat.le_refl _) (.cells #[.slice a4 (norm x).length c4] 29)))
        have HB2 := Lib.hid (hb4'.alloc (Nat.le_trans (Nat.le_of_eq HNN.out) hb4'.size) (.cells #[.slice a4 (norm x).length c4] 29))
        clear hb4 hb4' hmix1 hrow hown4 hmix hbr
        generalize norm x = L at *
        generalize L.length = ll at *
        go_wp2_with fail
        go_roundw
        case rel => exact ⟨k + 1, m, by omega, by go_num, ⟨a', c', vals, rfl, by show Own2 _ _ _ _ _ _ _ _; rw [HST.out]; exact HMX2.out⟩, HB2.out⟩
        case measure => simp [intOf]; omega
    · have e : cls.take k = cls := List.take_of_length_le (by rw [HLL.out]; omega)
      rw [e] at hmix
      have hm : (cleaned cls).length = m := hmix.out.len
      have HF := Lib.hid hmix.out
      have HB := Lib.hid hbr.out
      have HMM := Lib.hid hm
      clear hmix hbr hm e
      go_wp2_with fail
      go_ret
      refine ⟨a', c', vals, ?_, ?_, ?_⟩
      · rw [HMM.out]; rfl
      · rw [HMM.out, ← HNN.out]; exact HF.out
      · rw [← HNN.out]; exact HB.out

end Pre
end Go.Proofs.Ythhkngpbaflfiaa
