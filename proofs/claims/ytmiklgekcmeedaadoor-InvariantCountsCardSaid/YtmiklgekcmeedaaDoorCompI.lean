/-
  slices.Compact of []int, on a slice of the call's own.
-/
import Derived.Test.YtmiklgekcmeedaaDoorOwnP
import Derived.Shelf.SlicesE.Compact
import Derived.Shelf.SlGeneric
import Derived.Ground.SlgnProg
namespace Go.Proofs.YtmiklgekcmeedaaDoor
open Go.RowKit Base
set_option linter.unusedVariables false
set_option linter.unusedSimpArgs false
namespace CompI
open Go.Shelf Go.Sort Go.Lib

def compLaid_ren : Go.Shelf.Ren := ⟨fun | 43 => 35 | n => n, fun | 22 => 33 | 23 => 3 | 3 => 3 | 4 => 4 | 0 => 0 | n => n, fun | n => n⟩
theorem compLaid : Go.Proofs.SlLaysE.n43 Tryd.prog compLaid_ren := {
  mixed := by kernel_rfl
  f43 := ⟨Tryd.f35.name, by decide, Tryd.func35.trans (congrArg some (by kernel_rfl))⟩
  t0 := Tryd.underlying0
  a0 := Tryd.isAgg0
  z0 := Tryd.sizeOf0
  v0 := Tryd.zeroValue0
  t3 := Tryd.underlying3
  a3 := Tryd.isAgg3
  z3 := Tryd.sizeOf3
  v3 := Tryd.zeroValue3
  t4 := Tryd.underlying4
  a4 := Tryd.isAgg4
  z4 := Tryd.sizeOf4
  v4 := Tryd.zeroValue4
  t22 := Tryd.underlying33
  a22 := Tryd.isAgg33
  z22 := Tryd.sizeOf33
  v22 := Tryd.zeroValue33
  a23 := Tryd.isAgg3
  z23 := Tryd.sizeOf3 }

theorem compact_le (xs : List Int) : (compactUpTo xs.toArray xs.length).length ≤ xs.length := by
  unfold compactUpTo
  rw [List.length_map]
  refine Nat.le_trans (List.length_filter_le _ _) ?_
  rw [List.length_range]
  exact Nat.le_refl _

set_option maxHeartbeats 1000000 in
theorem compact_own (w : World) (B : Nat) (a : Option Addr) (n c : Nat) (xs : List Int) (hown : w.ownsRow B 3 1 (.slice a n c) n (ints xs)) (hB : B ≤ w.heap.size) :
    Calls Tryd.prog 35 #[.slice a n c] w fun e w' => ∃ n', e = .returned (.slice a n' c) ∧ w'.ownsRow B 3 1 (.slice a n' c) n' (ints (compactUpTo xs.toArray xs.length)) ∧ Below B w w' := by
  have hl := hown.1
  rw [ints_len, Nat.mul_one] at hl
  rcases hown.2 with ⟨hv, hnil⟩ | ⟨gb, cap, cur, hv, hgb, hh, h1, h2, h3, h4⟩
  · simp only [Value.slice.injEq] at hv
    obtain ⟨rfl, rfl, rfl⟩ := hv
    have hx : xs = [] := List.eq_nil_of_length_eq_zero hl
    subst hx
    go_enter Tryd.func35, Tryd.ntmps35
    go_wp2_with fail
    go_ret
    exact ⟨0, rfl, World.ownsRow_nil _ _ _ _, Below.refl _ _⟩
  · simp only [Value.slice.injEq] at hv
    obtain ⟨rfl, _, rfl⟩ := hv
    have hsz : xs.toArray.size = n := by simp [hl]
    have ht : cur.toList.take xs.length = xs.map (Value.int .i64) := by rw [hl, ← Nat.mul_one n, h4]; rfl
    have hcon := AnyE.slices_Compact compLaid (Value.int .i64) (fun _ => rfl) (EqlAt.intD _ _ .i64) (NeqAt.intD _ _ .i64) 0 (Tryd.zeroValue3) gb 0 c xs.toArray w
      (OwnP.holds hh ht) (by rw [hsz]; unfold maxLen at h2; omega) (by rw [hsz]; exact h1)
    change Calls Tryd.prog 35 _ _ _ at hcon
    rw [hsz] at hcon
    refine hcon.mono ?_
    rintro e w' ⟨rfl, q, rfl⟩
    have hle := compact_le xs
    rw [hl] at hle ⊢
    refine ⟨(compactUpTo xs.toArray n).length, rfl, ?_, ?_⟩
    · have ho := OwnP.own_put (enc := Value.int .i64) (n := q) (os := #[]) (ys := compactUpTo xs.toArray n) (zs := List.replicate (n - (compactUpTo xs.toArray n).length) 0) hgb hh
        (by rw [List.length_append, List.length_replicate]; omega) h2 h3
      rw [OwnP.grow_nil] at ho
      exact ho
    · have hb := OwnP.below_put (enc := Value.int .i64) (w := w) (n := q) (os := #[]) (compactUpTo xs.toArray n ++ List.replicate (n - (compactUpTo xs.toArray n).length) 0).toArray hgb hB
      rw [OwnP.grow_nil] at hb
      exact hb

end CompI
end Go.Proofs.YtmiklgekcmeedaaDoor
