/-
  slices.Backward of bytes: the iterator's contract, for a body that writes the bytes it goes over.
-/
import Derived.RangeFuncNested
import Derived.RangeFuncBound
import Derived.RangeFuncCalls
import Derived.RangeFuncLeaves
import Derived.RangeFuncBox
import Derived.Shelf.Abstract
import Derived.Shelf.RegionOpen
import Derived.WalkKit
import Derived.OwnWalkIn
import Derived.TacticsInMore
import Derived.LoopNIn
import Derived.LoopIn
import Derived.Test.YthhkngpbaflfiaaLaws
namespace Go.Proofs.Ythhkngpbaflfiaa
open Go.RowKit Go.Shelf Base
set_option linter.unusedVariables false
set_option linter.unusedSimpArgs false
attribute [local go_sem] Oper.semAt_some
namespace Back

/-- What a round is handed: a place in bounds, and the byte there. -/
abbrev Hand (len : Nat) := { x : Nat × Int // x.1 < len }

def encs (len : Nat) (x : Hand len) : Array Value := #[.int .i64 (x.1.1 : Int), .int .u8 x.1.2]

/-- What a round keeps: the box; the bytes are bytes. -/
def Kp (Bx g len : Nat) (W W' : World) : Prop :=
  (∀ v, W.cell? ⟨Bx, 0, none⟩ = some v → W'.cell? ⟨Bx, 0, none⟩ = some v) ∧ ∀ j, j < len → ∀ v, W.cell? ⟨g, j, none⟩ = some (.int .u8 v) → ∃ v', W'.cell? ⟨g, j, none⟩ = some (.int .u8 v')

theorem Kp.refl (Bx g len : Nat) (W : World) : Kp Bx g len W W := ⟨fun _ h => h, fun _ _ v h => ⟨v, h⟩⟩

theorem Kp.trans {Bx g len : Nat} {A B C : World} (h : Kp Bx g len A B) (k : Kp Bx g len B C) : Kp Bx g len A C :=
  ⟨fun v hv => k.1 v (h.1 v hv), fun j hj v hv => by obtain ⟨u, hu⟩ := h.2 j hj v hv; exact k.2 j hj u hu⟩

theorem Kp.put {Bx g len : Nat} (W : World) (l : Nat) (o o' : Obj) (hl : W.heap[l]? = some o) (hc : o.isCells = false) : Kp Bx g len W (W.putObj l o') := by
  have h : ∀ (a : Addr) (v : Value), W.cell? a = some v → (W.putObj l o').cell? a = some v := fun a v hv =>
    cell_kept hv (grownBy_putObj' W l o') (fun r e => by cases e; exact ⟨o, hl, hc⟩)
  exact ⟨fun v hv => h _ v hv, fun j _ v hv => ⟨v, h _ _ hv⟩⟩

/-- The places, from the last on. -/
def down (len k : Nat) : List Nat := (List.range k).map fun j => len - 1 - j

theorem down_succ (len k : Nat) : down len (k + 1) = down len k ++ [len - 1 - k] := by unfold down; rw [List.range_succ]; simp

set_option maxRecDepth 100000 in
set_option maxHeartbeats 2000000 in
theorem back1_in (F : Fence) (n : Nat) (hf : F.fn 76) (hro : F.round = none) (hn : 1 ≤ n) (l Bx g len cap : Nat) (hlen : len ≤ 1073741824) (J Jx : List (Hand len) → World → Prop)
    (hY : ∀ pre x W, J pre W → pre.length < len → YieldAt F (n - 1) Try.prog l (encs len x) W fun e W' =>
      (e = .returned (.bool true) ∧ J (pre ++ [x]) W' ∧ Kp Bx g len W W') ∨ (e = .returned (.bool false) ∧ Jx (pre ++ [x]) W'))
    (W : World) (hBs : W.cell? ⟨Bx, 0, none⟩ = some (.slice (some ⟨g, 0, none⟩) len cap)) (hc : ∀ j, j < len → ∃ v, W.cell? ⟨g, j, none⟩ = some (.int .u8 v)) (h0 : J [] W) :
    CallsIn F n Try.prog 76 #[.func (.yield l) #[] #[], .pointer (some ⟨Bx, 0, none⟩)] W fun e W' => (∃ v, e = .returned v) ∧
      ((∃ ys : List (Hand len), ys.map (·.1.1) = down len len ∧ J ys W') ∨ (∃ pre, True ∧ Jx pre W')) := by
  refine callsIn_of_wp Try.func76 rfl hf ?_ hro
  simp only [Try.ntmps76, List.size_toArray, List.length_cons, List.length_nil, Nat.reduceAdd, Nat.reduceSub, Array.replicate_succ, Array.replicate_zero, List.push_toArray, List.append_toArray, List.nil_append, List.cons_append]
  gi_wp2
  gi_loopw [3] (fun i wr => ∃ (k : Nat) (ys : List (Hand len)), k ≤ len ∧ i = .int .i64 ((len : Int) - 1 - k) ∧ ys.length = k ∧ ys.map (·.1.1) = down len k ∧ J ys wr ∧ Kp Bx g len W wr)
    (fun i _ => (intOf i + 1).toNat)
  case atStart => exact ⟨0, [], Nat.zero_le _, by go_num, rfl, rfl, h0, Kp.refl _ _ _ _⟩
  case round =>
    obtain ⟨k, ys, hk, rfl, hyl, hyd, hJs, hKp⟩ := hrel
    have hbx := hKp.1 _ hBs
    by_cases hlt : k < len
    · obtain ⟨d, hd⟩ : ∃ d : Nat, d = len - 1 - k := ⟨_, rfl⟩
      have hdi : (len : Int) - 1 - k = (d : Int) := by omega
      have hdl : d < len := by omega
      obtain ⟨v0, hv0⟩ := hc d hdl
      obtain ⟨v1, hv1⟩ := hKp.2 d hdl v0 hv0
      obtain ⟨fn, tmps, assign, body, hy, hR⟩ := hY ys ⟨(d, v1), hdl⟩ wr hJs (by omega)
      have hdn : down len (k + 1) = down len k ++ [d] := by rw [down_succ, hd]
      have HDN := Lib.hid hdn
      have HDI : Hid ((len : Int) - 1 - (k + 1 : Nat) = (d : Int) - 1) := by show _ = _; omega
      have HYD := Lib.hid hyd
      have HYL := Lib.hid hyl
      unfold encs at hy
      dsimp only at hy
      rw [hdi]
      clear hdn hdi hd hv0 hyd hyl
      gi_wp2
      refine hR.mono ?_
      rintro e W3 (⟨rfl, hJ3, hk3⟩ | ⟨rfl, hJx3⟩)
      · gi_wp2
        go_roundw
        case rel => exact ⟨k + 1, ys ++ [⟨(d, v1), hdl⟩], by omega, by rw [HDI.out], by rw [List.length_append, HYL.out]; rfl, by rw [List.map_append, HYD.out, HDN.out]; rfl, hJ3, hKp.trans hk3⟩
        case measure => simp [intOf]
      · gi_wp2
        refine bodyPost_ret (results_none rfl _ _ _) rfl ?_
        exact ⟨⟨_, rfl⟩, .inr ⟨_, trivial, hJx3⟩⟩
    · obtain rfl : k = len := by omega
      gi_wp2
      go_end0
      exact ⟨⟨_, rfl⟩, .inl ⟨ys, hyd, hJs⟩⟩
end Back
end Go.Proofs.Ythhkngpbaflfiaa
