/-
  interlocklaw38.cleaned: clauses in order, each once, by the law.
-/
import Derived.Test.YthhkngpbaflfiaaPreP
import Derived.Test.YthhkngpbaflfiaaNorm
import Derived.Test.YthhkngpbaflfiaaRefSame
import Derived.Test.YthhkngpbaflfiaaMix
namespace Go.Proofs.Ythhkngpbaflfiaa
open Go.RowKit Base
set_option linter.unusedVariables false
set_option linter.unusedSimpArgs false
namespace Pre
open RefC (norm always)

theorem infoC : (Try.prog.info? 29).map (fun i => (i.zero, i.size, i.bytes)) = some (some (.slice none 0 0), 1, 24) := by kernel_rfl

/-- Is it among the first k? -/
def tw (x : List Int) (O : List (List Int)) (k : Nat) : Bool := (O.take k).any fun y => decide (y = x)

theorem tw_more {O : List (List Int)} {x : List Int} {k : Nat} (hk : k < O.length) : tw x O (k + 1) = (tw x O k || decide (O[k] = x)) := by
  unfold tw
  rw [List.take_succ_eq_append_getElem hk, List.any_append]
  simp

theorem tw_all {O : List (List Int)} {x : List Int} {k : Nat} (hk : O.length ≤ k) : tw x O k = decide (x ∈ O) := by
  unfold tw
  rw [List.take_of_length_le hk, Bool.eq_iff_iff]
  simp

set_option maxRecDepth 4000 in
set_option maxHeartbeats 8000000 in
theorem lawCleaned_any (w : World) (a : Option Addr) (n c : Nat) (vs : List Value) (cls : List (List Int)) (hsl : Sl2 w a n c vs cls) (hw : ∀ l ∈ cls, Clause.Wf l) (hn : n * 24 ≤ 140737488355328) (hrow : ∀ l ∈ cls, l.length ≤ 1073741824) :
    Calls Try.prog 13 #[.slice a n c] w fun e w' => ∃ a' c' vals, e = .returned (.slice a' (cleaned cls).length c') ∧ Own2 w' w.heap.size 29 3 (.slice a' (cleaned cls).length c') (cleaned cls).length vals (cleaned cls) ∧ Below w.heap.size w w' := by
  have hcap := hsl.sl.cap
  have hbig := hsl.sl.big
  have HS := Lib.hid hsl
  have HL := Lib.hid hsl.len
  have HW := Lib.hid hw
  have HN := Lib.hid hn
  have HR := Lib.hid hrow
  clear hsl hw hn hrow
  go_enter Try.func13, Try.ntmps13
  go_wp2_with fail
  go_loopw [3, 4] (fun v s wr => ∃ i m : Nat, i ≤ n ∧ m ≤ i ∧ s = .int .i64 i ∧ ∃ a' c' vals, v = .slice a' m c' ∧ Hid (Own2 wr w.heap.size 29 3 (.slice a' m c') m vals (cleaned (cls.take i))) ∧ Hid (Below w.heap.size w wr)) (fun _ s _ => n - (intOf s).toNat)
  case atStart => exact ⟨0, 0, Nat.zero_le _, Nat.le_refl _, rfl, none, 0, [], rfl, Own2.nil _ _ _ _, Below.refl _ _⟩
  case round =>
    obtain ⟨i, m, hi, hmi, rfl, a', c', vals, rfl, hown, hbr⟩ := hrel
    by_cases hlt : i < n
    · obtain ⟨b, o, a2, c2, hx, rfl, hbs, hc, hs2, _⟩ := (HS.out).at hlt
      have hcr := (hbr.out.cell (p := ⟨b, o + i, none⟩) hbs).trans hc
      have NM := Lib.hid (RefC.norm_any wr a2 _ c2 cls[i] (hs2.next hbr.out) (HW.out _ (List.getElem_mem hx)) (HR.out _ (List.getElem_mem hx)))
      have HST := Lib.hid (cleaned_more cls i hx)
      unfold step at HST
      clear hc hs2
      generalize norm cls[i] = x at *
      generalize hal : always x = alw at *
      have HAL := Lib.hid hal
      clear hal
      generalize hO : cleaned (cls.take i) = O at *
      have HOL : Hid (O.length = m) := hown.out.len
      clear hO
      go_wp2_with fail
      refine NM.out.mono ?_
      rintro e w3 ⟨a3, c3, rfl, hox, hb3⟩
      rw [HAL.out] at *
      have HO3 := Lib.hid (hown.out.next hb3)
      have HX3 : Hid (w3.ownsRow w.heap.size 3 1 (.slice a3 x.length c3) x.length (ints x)) := own_mono hox hbr.out.size
      have HB3 := Lib.hid (hbr.out.trans (hb3.mono hbr.out.size))
      have hcapO := (HO3.out).sl2'.sl.cap
      have hbigO := (HO3.out).sl2'.sl.big
      clear hox hb3 hown hbr NM
      generalize wr = wq at *
      go_wp2_with fail
      go_loopw [7, 8] (fun t s wr => ∃ k : Nat, k ≤ m ∧ s = .int .i64 k ∧ t = .bool (tw x O k) ∧ Hid (Below w3.heap.size w3 wr)) (fun _ s _ => m - (intOf s).toNat)
      case atStart => exact ⟨0, Nat.zero_le _, rfl, rfl, Below.refl _ _⟩
      case round =>
        obtain ⟨k, hk, rfl, rfl, hbk⟩ := hrel
        by_cases hkm : k < m
        · obtain ⟨b5, o5, a5, c5, hxk, e5, hbs5, hc5, hs5, _⟩ := (HO3.out).sl2'.at hkm
          subst e5
          have hcr5 := (hbk.out.cell (p := ⟨b5, o5 + k, none⟩) hbs5).trans hc5
          have SI := Lib.hid (Plain.sameInts_q wr a5 a3 _ _ c5 c3 O[k] x (hs5.next hbk.out) ((Base.own_ints HX3.out).next hbk.out))
          have HMT := Lib.hid (tw_more (x := x) hxk)
          clear hc5 hs5
          generalize hdt : tw x O k = d at *
          generalize hde : decide (O[k] = x) = f at *
          clear hdt hde
          cases d
          · go_wp2_with fail
            refine SI.out.mono ?_
            rintro e w6 ⟨rfl, q, rfl⟩
            have HB6 := Lib.hid (below_drewN hbk.out q)
            clear hbk
            go_wp2_with fail
            go_roundw
            case rel => exact ⟨k + 1, by omega, by go_num, by rw [HMT.out]; rfl, HB6.out⟩
            case measure => simp [intOf]; omega
          · go_wp2_with fail
            go_roundw
            case rel => exact ⟨k + 1, by omega, by go_num, by rw [HMT.out]; rfl, hbk.out⟩
            case measure => simp [intOf]; omega
        · have hkm2 : k = m := by omega
          rw [tw_all (k := k) (by rw [HOL.out]; omega)]
          have HOr := Lib.hid (HO3.out.next hbk.out)
          have HXr := Lib.hid (own_next HX3.out hbk.out)
          have HBr := Lib.hid (HB3.out.trans (hbk.out.mono HB3.out.size))
          clear hkm2
          by_cases hin : x ∈ O
          · rw [decide_eq_true hin]
            have HE : Hid (cleaned (cls.take (i + 1)) = O) := by show _ = _; rw [HST.out, if_pos (.inr hin)]
            clear hin
            cases alw
            all_goals
              go_wp2_with fail
              go_roundw
              case rel => exact ⟨i + 1, m, by omega, by omega, by go_num, a', c', vals, rfl, by show Own2 _ _ _ _ _ _ _ _; rw [HE.out]; exact HOr.out, HBr.out⟩
              case measure => simp [intOf]; omega
          · rw [decide_eq_false hin]
            cases alw
            · have HE : Hid (cleaned (cls.take (i + 1)) = O ++ [x]) := by show _ = _; rw [HST.out, if_neg (by rintro (h | h); exact absurd h (by simp); exact hin h)]
              clear hin
              have HM3 : Hid ((m + 1) * 24 ≤ 140737488355328) := by have := HN.out; show _ ≤ _; omega
              have hsz : w.heap.size ≤ wr.heap.size := HBr.out.size
              go_wp2_with ((with_reducible refine wpL_pushO (B := w.heap.size) (W := w) wr a3 c3 x x.length rfl _ m vals O infoC Try.underlying22 ?_ ?_ ?_ ?_ HOr.out HXr.out ?_ ?_ ?_ HBr.out ?_); decide; rfl; rfl; rfl; exact hsz; exact HM3.out; (have := HM3.out; omega); (intro a6 c6 w6 hmix6 hb6 hs6))
              go_roundw
              case rel => exact ⟨i + 1, m + 1, by omega, by omega, by go_num, a6, c6, _, rfl, by show Own2 _ _ _ _ _ _ _ _; rw [HE.out]; exact hmix6, hb6⟩
              case measure => simp [intOf]; omega
            · have HE : Hid (cleaned (cls.take (i + 1)) = O) := by show _ = _; rw [HST.out, if_pos (.inl rfl)]
              clear hin
              go_wp2_with fail
              go_roundw
              case rel => exact ⟨i + 1, m, by omega, by omega, by go_num, a', c', vals, rfl, by show Own2 _ _ _ _ _ _ _ _; rw [HE.out]; exact HOr.out, HBr.out⟩
              case measure => simp [intOf]; omega
    · have HTK : Hid (cls.take i = cls) := List.take_of_length_le (by rw [HL.out]; omega)
      have hO := hown.out
      rw [HTK.out] at hO
      have HO := Lib.hid hO
      have hml := hO.len
      clear hO
      go_wp2_with fail
      go_ret
      have h := HO.out
      rw [← hml] at h
      exact ⟨a', c', vals, by rw [hml]; rfl, h, hbr.out⟩

end Pre
end Go.Proofs.Ythhkngpbaflfiaa
