/-
  invariant.numbers.
-/
import Derived.Test.YtmiklgekcmeedaaDoorDigW
import Derived.Test.YtmiklgekcmeedaaDoorParP
import Derived.Test.YtmiklgekcmeedaaDoorInvAlive
import Derived.Test.YtmiklgekcmeedaaDoorMix
namespace Go.Proofs.YtmiklgekcmeedaaDoor
open Go.RowKit Base
set_option linter.unusedVariables false
set_option linter.unusedSimpArgs false
namespace Inv
open Dig Spl

theorem info_iN : (Tryd.prog.info? 3).map (fun i => (i.zero, i.size, i.bytes)) = some (some (.int .i64 0), 1, 8) := by kernel_rfl
theorem text_cell {w : World} {g n c : Nat} {T : List (List UInt8)} (h : Sl w (some ⟨g, 0, none⟩) n c ((T.map str).map Value.string)) {k : Nat} (hk : k < T.length) : g < w.heap.size ∧ w.cell? ⟨g, k, none⟩ = some (.string (str T[k])) := by
  obtain ⟨b, o, ha, hb, hc⟩ := h.cell k (.string (str T[k])) (by rw [List.getElem?_map, List.getElem?_map, List.getElem?_eq_getElem hk]; rfl)
  simp only [Option.some.injEq, Addr.mk.injEq, and_true] at ha
  obtain ⟨rfl, rfl⟩ := ha
  rw [Nat.zero_add] at hc
  exact ⟨hb, hc⟩
def NumOut (t : List UInt8) (w : World) (e : Ending) (w' : World) : Prop :=
  ((∃ x a c, allP (spl 32 t) = some x ∧ e = .returned (.tuple #[.slice a x.length c, .bool true]) ∧ w'.ownsRow w.heap.size 3 1 (.slice a x.length c) x.length (ints x)) ∨
    (allP (spl 32 t) = none ∧ e = .returned (.tuple #[.slice none 0 0, .bool false]))) ∧ Below w.heap.size w w'

set_option maxRecDepth 8000 in
set_option maxHeartbeats 4000000 in
theorem numbers_any (w : World) (t : List UInt8) (ht : t.length ≤ 65536) (m : Int) (hm : w.cell? ⟨0, 0, none⟩ = some (.int .i64 m)) :
    Calls Tryd.prog 16 #[.string (str t)] w fun e w' => NumOut t w e w' := by
  have HSP := Lib.hid (split_any w t 32 ht m hm)
  have HLE := Lib.hid (spl_len_le 32 t)
  have HPL := Lib.hid (spl_part_len 32 t)
  have HT : Hid (t.length ≤ 65536) := ht
  have HO : Hid (∀ e w', (((∃ x a c, allP (spl 32 t) = some x ∧ e = Ending.returned (.tuple #[.slice a x.length c, .bool true]) ∧ w'.ownsRow w.heap.size 3 1 (.slice a x.length c) x.length (ints x)) ∨ (allP (spl 32 t) = none ∧ e = Ending.returned (.tuple #[.slice none 0 0, .bool false]))) ∧ Below w.heap.size w w') → NumOut t w e w') := fun e w' h => h
  have hT2 : ((32 : UInt8)) = 32 := rfl
  generalize spl 32 t = T at *
  generalize str t = st at *
  have HL : Hid (T.length ≤ 65537) := by show _ ≤ _; have := HLE.out; omega
  clear ht hm hT2
  go_enter Tryd.func16, Tryd.ntmps16
  go_wp2_with fail
  with_reducible refine HSP.out.mono ?_
  rintro e w1 ⟨rfl, hs1, hb1⟩
  have HS1 := Lib.hid hs1
  have hcap := hs1.cap
  have hbig := hs1.big
  have HB1 := Lib.hid hb1
  clear hs1 hb1
  have HSZ1 : Hid (w.heap.size ≤ w1.heap.size) := HB1.out.size
  generalize w.heap.size = g at *
  go_wp2_with fail
  go_loopw [4, 12] (fun o i wr => ∃ (k : Nat) (x : List Int) (a : Option Addr) (c : Nat), k ≤ T.length ∧ i = .int .i64 k ∧ o = .slice a x.length c ∧ Hid (allP (T.take k) = some x) ∧ Hid (wr.ownsRow w1.heap.size 3 1 (.slice a x.length c) x.length (ints x)) ∧ Hid (x.length ≤ k) ∧ Hid (Below w1.heap.size w1 wr)) (fun _ i _ => T.length - (intOf i).toNat)
  case atStart => exact ⟨0, [], none, 0, Nat.zero_le _, rfl, rfl, rfl, World.ownsRow_nil _ _ _ _, Nat.le_refl _, Below.refl _ _⟩
  case round =>
    obtain ⟨k, x, a, c, hk, rfl, rfl, hP, hO, hX, hB⟩ := hrel
    by_cases hlt : k < T.length
    · obtain ⟨hg0, e0⟩ := text_cell HS1.out hlt
      have d0 := (hB.out.cell (p := ⟨g, k, none⟩) hg0).trans e0
      have HPD := Lib.hid (parseD_any wr T[k] (by have := HPL.out T[k] (List.getElem_mem hlt); have := HT.out; omega))
      have HMO := Lib.hid (allP_more T k hlt x hP.out)
      have HST := Lib.hid (allP_stop T k hlt)
      generalize T[k] = p at *
      clear e0
      go_wp2_with fail
      with_reducible refine HPD.out.mono ?_
      rintro e w2 ⟨n, cd, rfl, hcase, hb2⟩
      have HB2 := Lib.hid (hB.out.trans (hb2.mono hB.out.size))
      have HO2 := Lib.hid (own_next hO.out hb2)
      clear hb2 d0
      rcases hcase with ⟨rfl, hp⟩ | ⟨hcd, hp⟩
      · have HM2 : Hid (allP (T.take (k + 1)) = some (x ++ [n])) := by show _ = _; rw [HMO.out, hp]
        have hown := HO2.out
        have hbb := HB2.out
        have hsz := HB2.out.size
        have hxl : x.length ≤ 65537 := by have := hX.out; have := HL.out; omega
        clear hp
        go_wp2_with ((with_reducible refine wpL_push (B := w1.heap.size) _ (.int .i64 n) _ x.length (ints x) info_iN Tryd.underlying33 ?_ ?_ ?_ ?_ ?_ hown ?_ ?_ ?_ hbb ?_); rfl; rfl; rfl; rfl; rfl; (exact hsz); omega; omega; (intro a5 c5 w5 hown5 hb5 hs5))
        have e5 : (x ++ [n]).length = x.length + 1 := List.length_append
        have HO5 : Hid (w5.ownsRow w1.heap.size 3 1 (.slice a5 (x ++ [n]).length c5) (x ++ [n]).length (ints (x ++ [n]))) := by
          show World.ownsRow _ _ _ _ _ _ _
          rw [e5]; unfold ints at hown5 ⊢; rw [List.map_append]; exact hown5
        have HB5 := Lib.hid hb5
        clear hown hbb hsz hown5 hb5 hs5
        go_roundw
        case rel => exact ⟨k + 1, x ++ [n], a5, c5, by omega, by go_num, by rw [e5], HM2.out, HO5.out, by show (x ++ [n]).length ≤ _; rw [e5]; have := hX.out; omega, HB5.out⟩
        case measure => simp [intOf]; omega
      · have hne : (cd != 0) = true := by simpa using hcd
        have HN := Lib.hid (HST.out hp)
        clear hp
        go_wp2_with fail
        refine bodyPost_ret (v := .tuple #[.slice none 0 0, .bool false]) (by simp [results, Tryd.results16, go_sem]) rfl ?_
        exact HO.out _ _ ⟨Or.inr ⟨HN.out, rfl⟩, HB1.out.trans (HB2.out.mono HSZ1.out)⟩
    · have HE : Hid (allP T = some x) := by
        show _ = _
        have h := hP.out
        rwa [List.take_of_length_le (by omega)] at h
      go_wp2_with fail
      refine bodyPost_ret (v := .tuple #[.slice a x.length c, .bool true]) (by simp [results, Tryd.results16, go_sem]) rfl ?_
      exact HO.out _ _ ⟨Or.inl ⟨x, a, c, HE.out, rfl, own_mono hO.out HSZ1.out⟩, HB1.out.trans (hB.out.mono HSZ1.out)⟩
end Inv
end Go.Proofs.YtmiklgekcmeedaaDoor
