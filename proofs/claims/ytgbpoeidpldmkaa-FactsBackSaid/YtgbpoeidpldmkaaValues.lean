/-
  slices.Sorted(slices.Values(l)) of []int: the numbers, sorted, in memory of its own.
-/
import Derived.RangeFuncBox
import Derived.RangeFuncLeaves
import Derived.Shelf.Abstract
import Derived.WalkKit
import Derived.OwnWalkIn
import Derived.TacticsInMore
import Derived.LoopNIn
import Derived.LoopIn
import Derived.Maps.AppendAt
import Derived.Sort.OwnSorted
import Derived.Shelf.SortM.Plain
import Derived.Shelf.SortM.SortNone
import Derived.Ground.SlgmProg
import Derived.Test.YtgbpoeidpldmkaaLaws
namespace Go.Proofs.Ytgbpoeidpldmkaa
open Go.RowKit Go.Shelf Go.Sort Base
set_option linter.unusedVariables false
set_option linter.unusedSimpArgs false
attribute [local go_sem] Oper.semAt_some
namespace Vals

theorem info_int : (Try.prog.info? 3).map (fun i => (i.zero, i.size, i.bytes)) = some (some (.int .i64 0), 1, 8) := by kernel_rfl
shelf_lay_g SlLaysM.n5 Slgm 5 at Try 47 as sortA

set_option maxRecDepth 100000 in
set_option maxHeartbeats 2000000 in
theorem values1_in (F : Fence) (n : Nat) (hf : F.fn 48) (hro : F.round = none) (hn : 1 ≤ n) (l Bx n₀ : Nat) (a : Option Addr) (len cap : Nat) (zs : List Int) (J Jx : List Int → World → Prop)
    (hY : ∀ pre x W, J pre W → pre.length < len → YieldAt F (n - 1) Try.prog l #[.int .i64 x] W fun e W' =>
      (e = .returned (.bool true) ∧ J (pre ++ [x]) W' ∧ Below n₀ W W') ∨ (e = .returned (.bool false) ∧ Jx (pre ++ [x]) W'))
    (W : World) (hBx : W.cell? ⟨Bx, 0, none⟩ = some (.slice a len cap)) (w0 : World) (hsl : Sl w0 a len cap (ints zs)) (h0n : w0.heap.size ≤ n₀) (hbW : Below n₀ w0 W) (h0 : J [] W) :
    CallsIn F n Try.prog 48 #[.func (.yield l) #[] #[], .pointer (some ⟨Bx, 0, none⟩)] W fun e W' => (∃ v, e = .returned v) ∧
      ((∃ ys, ys = zs ∧ J ys W') ∨ (∃ pre, True ∧ Jx pre W')) := by
  have hcap := hsl.cap
  have hbig := hsl.big
  have hzl : zs.length = len := by have := hsl.len; rw [ints_len] at this; exact this
  have HZ := Lib.hid hzl
  have HSL := Lib.hid hsl
  clear hsl hzl
  refine callsIn_of_wp Try.func48 rfl hf ?_ hro
  simp only [Try.ntmps48, List.size_toArray, List.length_cons, List.length_nil, Nat.reduceAdd, Nat.reduceSub, Array.replicate_succ, Array.replicate_zero, List.push_toArray, List.append_toArray, List.nil_append, List.cons_append]
  gi_wp2
  gi_loopw [7] (fun i wr => ∃ k : Nat, k ≤ len ∧ i = .int .i64 k ∧ J (zs.take k) wr ∧ Below n₀ w0 wr)
    (fun i _ => len - (intOf i).toNat)
  case atStart => exact ⟨0, Nat.zero_le _, rfl, h0, hbW⟩
  case round =>
    obtain ⟨k, hk, rfl, hJs, hnx⟩ := hrel
    by_cases hlt : k < len
    · obtain ⟨b, o, hx, rfl, hbs, hc⟩ := HSL.out.int hlt
      have hcx := (hnx.cell (p := ⟨b, o + k, none⟩) (Nat.lt_of_lt_of_le hbs h0n)).trans hc
      have HT := Lib.hid (List.take_succ_eq_append_getElem hx)
      obtain ⟨fn, tmps, assign, body, hy, hR⟩ := hY (zs.take k) zs[k] wr hJs (by rw [List.length_take, HZ.out]; omega)
      clear hc
      generalize zs[k] = z at *
      gi_wp2
      refine hR.mono ?_
      rintro e W3 (⟨rfl, hJ3, hk3⟩ | ⟨rfl, hJx3⟩)
      · gi_wp2
        go_roundw
        case rel => exact ⟨k + 1, by omega, by simp, by rw [HT.out]; exact hJ3, hnx.trans hk3⟩
        case measure => simp [intOf]; omega
      · gi_wp2
        refine bodyPost_ret (results_none rfl _ _ _) rfl ?_
        exact ⟨⟨_, rfl⟩, .inr ⟨_, trivial, hJx3⟩⟩
    · obtain rfl : k = len := by omega
      gi_wp2
      go_end0
      exact ⟨⟨_, rfl⟩, .inl ⟨zs, rfl, by rw [List.take_of_length_le (Nat.le_of_eq HZ.out)] at hJs; exact hJs⟩⟩

theorem values_stops (F : Fence) (n : Nat) (hf : F.fn 48) (hro : F.round = none) (hn : 1 ≤ n) (Bx n₀ : Nat) (a : Option Addr) (len cap : Nat) (zs : List Int) (w0 w : World) (hBx : Bx < n₀) (h0n : w0.heap.size ≤ n₀) (hnw : n₀ ≤ w.heap.size)
    (hc : w.cell? ⟨Bx, 0, none⟩ = some (.slice a len cap)) (hsl : Sl w0 a len cap (ints zs)) (hb : Below n₀ w0 w) :
    SeqStopsK F n Try.prog 48 #[.pointer (some ⟨Bx, 0, none⟩)] (fun x : Int => #[Value.int .i64 x]) (Below n₀) (fun ys => ys = zs) (fun _ => True) len w :=
  fun l J Jx W hW _ _ hY h0 => values1_in F n hf hro hn l Bx n₀ a len cap zs J Jx hY W ((hW.cell (p := ⟨Bx, 0, none⟩) (Nat.lt_of_lt_of_le hBx hnw)).trans hc) w0 hsl h0n (hb.trans (hW.mono hnw)) h0

set_option maxRecDepth 100000 in
set_option maxHeartbeats 2000000 in
theorem append_in (F : Fence) (n : Nat) (h0 : F.fn 49) (h1 : F.fn 48) (hro : F.round = none) (hn : 3 ≤ n) (w : World) (Bx : Nat) (a : Option Addr) (len cap : Nat) (zs : List Int) (hBx : Bx < w.heap.size)
    (hcx : w.cell? ⟨Bx, 0, none⟩ = some (.slice a len cap)) (hsl : Sl w a len cap (ints zs)) (hlen : len * 8 ≤ 140737488355328) :
    CallsIn F n Try.prog 49 #[.slice none 0 0, .func (.func 48) #[] #[.pointer (some ⟨Bx, 0, none⟩)]] w fun e W' => ∃ v, e = .returned v ∧ W'.ownsRow w.heap.size 3 1 v zs.length (ints zs) ∧ Below w.heap.size w W' := by
  have hn1 : 1 ≤ n := by omega
  obtain ⟨i0, hi, hz0, hz1, hz2⟩ := info_parts info_int
  refine callsIn_of_wp_marks Try.func49 rfl h0 ?_ hro
  simp only [Try.ntmps49, List.size_toArray, List.length_cons, List.length_nil, Nat.reduceAdd, Nat.reduceSub, Array.replicate_succ, Array.replicate_zero, List.push_toArray, List.append_toArray, List.nil_append, List.cons_append]
  gi_wp2
  have bO := Boxed.new w 26 (.slice none 0 0)
  have hB0 : Below w.heap.size w (w.alloc (.cells #[.slice none 0 0] 26)) := (Below.refl _ w).alloc (Nat.le_refl _) _
  refine wpIn_rangeFunc_ownG hro hn1 (gf := 48) (lb := #[.pointer (some ⟨Bx, 0, none⟩)]) rfl h1 (enters_of Try.func48 (by kernel_rfl) rfl)
    (values_stops F (n - 1) h1 hro (by omega) Bx w.heap.size a len cap zs w _ hBx (Nat.le_refl _) (by simp) ((hB0.cell (p := ⟨Bx, 0, none⟩) hBx).trans hcx) hsl hB0) belowK_t (belowK_b (by simp)) (Below.refl _ _) (fun _ => rfl)
    (fun pre W => (∃ v, Boxed W w.heap.size 26 v ∧ W.ownsRow w.heap.size 3 1 v pre.length (ints pre) ∧ True) ∧ Below w.heap.size w W)
    (fun _ _ _ => False)
    (OwnFrom.and (Own.from (holdsRow_own w.heap.size w.heap.size 26 3 1 (fun pre : List Int => pre.length) (fun pre => ints pre) (fun _ _ => True)) _) (ownFrom_below (Nat.le_refl _) (by simp)))
    (fun _ _ _ _ _ hs _ _ => hs)
    ⟨⟨_, bO, World.ownsRow_nil _ _ _ _, trivial⟩, hB0⟩
    (fun x => { tmps := #[.slice none 0 0, .func (.func 48) #[] #[.pointer (some ⟨Bx, 0, none⟩)], .pointer (some ⟨w.heap.size, 0, none⟩), undef, .slice none 0 0, .int .i64 x, .func (.func 48) #[] #[.pointer (some ⟨Bx, 0, none⟩)], .int .i64 x, undef, undef, undef, undef, undef], defers := [] }) ?assign ?body ?done ?stop
  case assign =>
    intro l x W K hK
    gi_wp2
    exact hK
  case body =>
    rintro l pre x W ⟨⟨v, hv, hrow, _⟩, hB⟩ hlt
    have hc := hv.cell
    gi_wp2_with (gi_at_builtin; refine wpListIn_append_own _ rfl _ _ 26 rfl w.heap.size 3 i0 (.int .i64 0) 1 8 Try.underlying26 hi hz0 hz1 hz2 rfl (by decide) _ _ _ rfl (hrow.alloc _) ⟨W.heap.size, 0, none⟩ 1 1 [.int .i64 x] rfl rfl (cell_one_new _ _ _) (by simp [Value.oneCell']) (by unfold maxLen; omega) (by omega) (by have := hB.size; simp; omega) ?_; intro v' w1 hown' hgrow _; obtain ⟨g', cap', rfl⟩ := ownsRow_succ hown'; obtain ⟨hv1, hv2, hr2, hk2, hb2⟩ := hv.appended (by decide) hrow hB.size (Nat.le_refl _) hown' hgrow; have hc1 := hv1.cell; have hf1 := hv1.frozen)
    exact ⟨hk2.from _, hb2, ⟨_, hv2, by have e : ints (pre ++ [x]) = ints pre ++ [.int .i64 x] := (by unfold ints; rw [List.map_append]; rfl); rw [e, List.length_append]; exact hr2, trivial⟩, hB.trans hb2⟩
  case done =>
    rintro D ys W hD rfl ⟨⟨v, hv, hrow, _⟩, hB⟩ hK
    have hc := hv.cell
    gi_wp2
    refine ⟨by simp, .inl ⟨_, _, rfl, run_takeDeferred hK, ?_⟩⟩
    exact ⟨_, results_tmp rfl _ _ _, v, rfl, ownsRow_putObj hrow _ hK rfl, hB.trans (belowK_b (w := w) (Nat.le_refl _) W D _ _ (by simp at hD; omega) hK rfl rfl)⟩
  case stop =>
    rintro D c pre W _ _ h _
    exact h.elim

theorem append_any (w : World) (Bx : Nat) (a : Option Addr) (len cap : Nat) (zs : List Int) (hBx : Bx < w.heap.size) (hcx : w.cell? ⟨Bx, 0, none⟩ = some (.slice a len cap)) (hsl : Sl w a len cap (ints zs)) (hlen : len * 8 ≤ 140737488355328) :
    Calls Try.prog 49 #[.slice none 0 0, .func (.func 48) #[] #[.pointer (some ⟨Bx, 0, none⟩)]] w fun e W' => ∃ v, e = .returned v ∧ W'.ownsRow w.heap.size 3 1 v zs.length (ints zs) ∧ Below w.heap.size w W' :=
  callsIn_wide.1 (append_in Fence.wide 5 trivial trivial rfl (by omega) w Bx a len cap zs hBx hcx hsl hlen)
end Vals
end Go.Proofs.Ytgbpoeidpldmkaa
