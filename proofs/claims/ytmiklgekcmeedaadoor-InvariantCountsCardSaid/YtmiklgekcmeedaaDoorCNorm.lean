/-
  clause.Norm: a clause in order; is it always true? (it is the reference's: XNormP)
-/
import Derived.Test.YtmiklgekcmeedaaDoorSortO
import Derived.Test.YtmiklgekcmeedaaDoorDelI
import Derived.Test.YtmiklgekcmeedaaDoorCompI
import Derived.Test.YtmiklgekcmeedaaDoorCloneI
import Derived.BigQuiet
namespace Go.Proofs.YtmiklgekcmeedaaDoor
open Go.RowKit Base
set_option linter.unusedVariables false
set_option linter.unusedSimpArgs false
namespace Clause
open RefC (norm always alw alw_more)

def NormOut (w : World) (L : List Int) (e : Ending) (w' : World) : Prop :=
  ∃ a' c', e = .returned (.tuple #[.slice a' L.length c', .bool (always L)]) ∧ w'.ownsRow w.heap.size 3 1 (.slice a' L.length c') L.length (ints L) ∧ Below w.heap.size w w'

theorem eg_zero : SlfI.Enters 32 := enters_of Tryd.func32 (by kernel_rfl) rfl

set_option maxHeartbeats 400000 in
theorem zero_any (x : Int) (w : World) :
    Calls Tryd.prog 32 #[.int .i64 x] w fun e w' => e = .returned (.bool (decide (x = 0))) ∧ w = w' := by
  have HD : Hid (decide (x = 0) = (x == 0)) := by show _ = _; rw [Bool.eq_iff_iff]; simp
  go_enter Tryd.func32, Tryd.ntmps32
  go_wp2
  go_ret
  exact ⟨ret_bool HD.out.symm, rfl⟩

theorem wf_sub {xs ys : List Int} (h : Wf xs) (hs : ∀ y ∈ ys, y ∈ xs) : Wf ys := fun y hy => h y (hs y hy)

set_option maxHeartbeats 2000000 in
theorem norm_any (w : World) (a : Option Addr) (n c : Nat) (l : List Int) (hsl : Sl w a n c (ints l)) (hw : Wf l) (hn : n * 8 ≤ 140737488355328) :
    Calls Tryd.prog 20 #[.slice a n c] w (NormOut w (norm l)) := by
  have HL : Hid (l.length = n) := by have := hsl.len; rwa [ints_len] at this
  have HC := Lib.hid (CloneI.clone w a n c (ints l) hsl (by intro u hu; obtain ⟨x, _, rfl⟩ := List.mem_map.1 hu; rfl) hn)
  have HW := Lib.hid hw
  have HN := Lib.hid hn
  clear hsl hw hn
  go_enter Tryd.func20, Tryd.ntmps20
  go_wp2_with fail
  refine HC.out.mono ?_
  rintro e w1 ⟨a1, c1, rfl, hown1, hb1⟩
  have D := DelI.del_own w1 w.heap.size a1 n c1 l hown1 hb1.size 32 #[] (fun x => decide (x = 0)) eg_zero (fun W _ x => zero_any x W)
  have HD := Lib.hid D
  have HB1 := Lib.hid hb1
  clear D hown1 hb1
  go_wp2_with fail
  refine HD.out.mono ?_
  rintro e w2 ⟨n2, rfl, hown2, hb2⟩
  generalize hL2 : l.filter (fun x => !decide (x = 0)) = L2 at *
  have hn2 : L2.length = n2 := by have := hown2.1; rw [ints_len] at this; omega
  have hnn : n2 ≤ n := by rw [← hn2, ← hL2, ← HL.out]; exact List.length_filter_le _ _
  have S := SortO.sort_own w2 w.heap.size a1 n2 c1 L2 (wf_sub HW.out (fun y hy => by rw [← hL2] at hy; exact (List.mem_filter.1 hy).1)) hown2 (Nat.le_trans HB1.out.size hb2.size) (by have := HN.out; omega)
  have HS := Lib.hid S
  have HB2 := Lib.hid (HB1.out.trans hb2)
  have HL2 := Lib.hid hL2
  have HN2 := Lib.hid hn2
  clear S hown2 hb2 hL2 hn2 hnn
  go_wp2_with fail
  refine HS.out.mono ?_
  rintro e w3 ⟨rfl, ys, hp, hs, hown3, hb3⟩
  have C := CompI.compact_own w3 w.heap.size a1 n2 c1 ys hown3 (Nat.le_trans HB2.out.size hb3.size)
  have hcn := RefC.compact_norm l ys (by rw [HL2.out]; exact hp) hs
  rw [hcn] at C
  have HCP := Lib.hid C
  have HB3 := Lib.hid (HB2.out.trans hb3)
  clear C hown3 hb3 hcn hs hp
  go_wp2_with fail
  refine HCP.out.mono ?_
  rintro e w4 ⟨m, rfl, hown4, hb4⟩
  generalize hLn : norm l = L at *
  have hm : L.length = m := by have := hown4.1; rw [ints_len] at this; omega
  obtain ⟨a', c', hv, hsl⟩ := own_sl hown4
  simp only [Value.slice.injEq] at hv
  obtain ⟨rfl, _, rfl⟩ := hv
  have hcap := hsl.cap
  have hbig := hsl.big
  have HSL := Lib.hid hsl
  have HO := Lib.hid hown4
  have HB4 := Lib.hid (HB3.out.trans hb4)
  have HM := Lib.hid hm
  have HLn := Lib.hid hLn
  clear hsl hown4 hb4 hm hLn
  go_wp2_with fail
  go_loopw [16] (fun i wr => ∃ k : Nat, k ≤ m ∧ i = .int .i64 k ∧ Below w4.heap.size w4 wr ∧ Hid (alw L (k - 1) = false)) (fun i _ => m - (intOf i).toNat)
  case atStart => exact ⟨0, Nat.zero_le _, rfl, Below.refl _ _, rfl⟩
  case round =>
    obtain ⟨k, hk, rfl, hbq, hI⟩ := hrel
    by_cases hlt : k < m
    · by_cases h0 : k = 0
      · obtain ⟨g, q, hy, rfl, hgs, hcy⟩ := HSL.out.int (k := k) hlt
        have k0 := (hbq.cell (p := ⟨g, q + k, none⟩) hgs).trans hcy
        have hk0 : ¬ ((0 : Int) < k) := by omega
        have H0 := Lib.hid h0
        clear hcy h0
        generalize L[k] = y at *
        go_wp2_with fail
        go_roundw
        case rel => exact ⟨k + 1, by omega, by go_num, hbq, by rw [H0.out]; rfl⟩
        case measure => simp [intOf]; omega
      · obtain ⟨j, rfl⟩ : ∃ j, k = j + 1 := ⟨k - 1, by omega⟩
        obtain ⟨g, q, hy, rfl, hgs, hcy⟩ := HSL.out.int (k := j) (by omega)
        obtain ⟨g', q', hy', e', hgs', hcy'⟩ := HSL.out.int (k := j + 1) (by omega)
        simp only [Option.some.injEq, Addr.mk.injEq] at e'
        obtain ⟨rfl, rfl, _⟩ := e'
        have k0 := (hbq.cell (p := ⟨g, q + j, none⟩) hgs).trans hcy
        have k1 := (hbq.cell (p := ⟨g, q + (j + 1), none⟩) hgs).trans hcy'
        have HA : Hid (alw L (j + 1) = (L[j] == wrap64 (-L[j + 1]))) := by
          show _ = _
          have := hI.out
          rw [Nat.add_sub_cancel] at this
          rw [alw_more, this, List.getD_eq_getElem?_getD, List.getD_eq_getElem?_getD, List.getElem?_eq_getElem hy, List.getElem?_eq_getElem hy']
          rfl
        clear hcy hcy' h0
        generalize L[j] = y at *
        generalize L[j + 1] = z at *
        by_cases hyz : y = wrap64 (-z)
        · have v0 : (y == wrap64 (-z)) = true := by simp [← hyz]
          have HA2 : Hid (true = always L) := by
            show _ = _
            have h := HA.out
            rw [v0] at h
            unfold always alw
            unfold alw at h
            symm
            rw [List.any_eq_true] at h ⊢
            obtain ⟨i, hi, h⟩ := h
            refine ⟨i, List.mem_range.2 ?_, h⟩
            have := List.mem_range.1 hi
            rw [HM.out]
            omega
          have HO3 := Lib.hid (own_next HO.out hbq)
          clear hyz
          go_wp2_with fail
          refine bodyPost_ret (v := .tuple #[.slice (some ⟨g, q, none⟩) m c1, .bool true]) (by simp [results, Tryd.results20, go_sem]) rfl ?_
          refine ⟨some ⟨g, q, none⟩, c1, ?_, ?_, HB4.out.trans (hbq.mono HB4.out.size)⟩
          · rw [← HA2.out, HM.out]
          · rw [HM.out]; exact HO3.out
        · have v0 : (y == wrap64 (-z)) = false := by simp [hyz]
          have HA2 : Hid (alw L (j + 1) = false) := by show _ = _; rw [HA.out, v0]
          clear hyz
          go_wp2_with fail
          go_roundw
          case rel => exact ⟨j + 2, by omega, by go_num, hbq, HA2⟩
          case measure => simp [intOf]; omega
    · have HA : Hid (false = always L) := by
        show _ = _
        have h := hI.out
        unfold always
        rw [HM.out]
        have : k = m := by omega
        rw [← this]
        exact h.symm
      have HO3 := Lib.hid (own_next HO.out hbq)
      go_wp2_with fail
      refine bodyPost_ret (v := .tuple #[.slice a1 m c1, .bool false]) (by simp [results, Tryd.results20, go_sem]) rfl ?_
      refine ⟨a1, c1, ?_, ?_, HB4.out.trans (hbq.mono HB4.out.size)⟩
      · rw [← HA.out, HM.out]
      · rw [HM.out]; exact HO3.out
end Clause
end Go.Proofs.YtmiklgekcmeedaaDoor
