/-
  slices.DeleteFunc and slices.Compact of []int, on a slice of the call's own.
-/
import Derived.Test.YtmiklgekcmeedaaDoorOwnP
import Derived.Test.YtmiklgekcmeedaaDoorSlfI
import Derived.Shelf.SlicesE.DeleteFunc
import Derived.Shelf.SlicesE.Compact
import Derived.Shelf.SlGeneric
import Derived.Ground.SlgfProg
import Derived.Ground.SlgnProg
namespace Go.Proofs.YtmiklgekcmeedaaDoor
open Go.RowKit Base
set_option linter.unusedVariables false
set_option linter.unusedSimpArgs false
namespace DelI
open Go.Shelf Go.Sort

def delLaid_ren : Go.Shelf.Ren := ⟨fun | 10 => 30 | 6 => 47 | n => n, fun | 22 => 33 | 23 => 3 | 25 => 64 | 3 => 3 | 4 => 4 | 0 => 0 | n => n, fun | n => n⟩
theorem delLaid : Go.Proofs.SlLaysH.n10 Tryd.prog delLaid_ren := {
  mixed := by kernel_rfl
  f6 := ⟨Tryd.f47.name, by decide, Tryd.func47.trans (congrArg some (by kernel_rfl))⟩
  f10 := ⟨Tryd.f30.name, by decide, Tryd.func30.trans (congrArg some (by kernel_rfl))⟩
  t0 := Tryd.underlying0
  a0 := Tryd.isAgg0
  z0 := Tryd.sizeOf0
  v0 := Tryd.zeroValue0
  t3 := Tryd.underlying3
  a3 := Tryd.isAgg3
  z3 := Tryd.sizeOf3
  v3 := Tryd.zeroValue3
  t4 := Tryd.underlying4
  a4 := Tryd.isAgg4
  z4 := Tryd.sizeOf4
  v4 := Tryd.zeroValue4
  t22 := Tryd.underlying33
  a22 := Tryd.isAgg33
  z22 := Tryd.sizeOf33
  v22 := Tryd.zeroValue33
  a23 := Tryd.isAgg3
  z23 := Tryd.sizeOf3
  t25 := Tryd.underlying64
  a25 := Tryd.isAgg64
  z25 := Tryd.sizeOf64
  v25 := Tryd.zeroValue64 }

/-- The world is as w where w has blocks, but for the slice's own. -/
def Beside (w : World) (v : Value) (W : World) : Prop := w.heap.size ≤ W.heap.size ∧ ∀ b, b < w.heap.size → some b ≠ v.ownBlock → W.heap[b]? = w.heap[b]?

theorem Beside.cell {w W : World} {v : Value} (h : Beside w v W) {b : Nat} (hb : b < w.heap.size) (hne : some b ≠ v.ownBlock) (o : Nat) : W.cell? ⟨b, o, none⟩ = w.cell? ⟨b, o, none⟩ := by
  unfold World.cell?
  rw [h.2 b hb hne]

set_option maxHeartbeats 1000000 in
theorem del_own (w : World) (B : Nat) (a : Option Addr) (n c : Nat) (xs : List Int) (hown : w.ownsRow B 3 1 (.slice a n c) n (ints xs)) (hB : B ≤ w.heap.size)
    (g : FuncId) (lb : Array Value) (p : Int → Bool) (eg : SlfI.Enters g)
    (hg : ∀ W, Beside w (.slice a n c) W → ∀ x : Int, Calls Tryd.prog g (#[.int .i64 x] ++ lb) W fun e w' => e = .returned (.bool (p x)) ∧ W = w') :
    Calls Tryd.prog 30 #[.slice a n c, .func (.func g) #[] lb] w fun e w' => ∃ n', e = .returned (.slice a n' c) ∧ w'.ownsRow B 3 1 (.slice a n' c) n' (ints (xs.filter fun x => !p x)) ∧ Below B w w' := by
  have hl := hown.1
  rw [ints_len, Nat.mul_one] at hl
  rcases hown.2 with ⟨hv, hnil⟩ | ⟨gb, cap, cur, hv, hgb, hh, h1, h2, h3, h4⟩
  · simp only [Value.slice.injEq] at hv
    obtain ⟨rfl, rfl, rfl⟩ := hv
    have hx : xs = [] := List.eq_nil_of_length_eq_zero hl
    subst hx
    have H := Lib.hid (SlfI.indexFunc w none 0 0 [] g #[] lb [] (Sl.nil w) rfl eg (by intro W hW k v b hv; simp at hv))
    clear hg
    go_enter Tryd.func30, Tryd.ntmps30
    go_wp2_with fail
    refine H.out.mono ?_
    rintro e w1 ⟨rfl, hb1⟩
    have hi : idx id [] 0 = -1 := rfl
    go_wp2_with fail
    go_ret
    exact ⟨0, rfl, World.ownsRow_nil _ _ _ _, hb1.mono hB⟩
  · simp only [Value.slice.injEq] at hv
    obtain ⟨rfl, _, rfl⟩ := hv
    have hsz : xs.toArray.size = n := by simp [hl]
    have ht : cur.toList.take xs.length = xs.map (Value.int .i64) := by rw [hl, ← Nat.mul_one n, h4]; rfl
    have hob : (Value.slice (some ⟨gb, 0, none⟩) n c).ownBlock = some gb := rfl
    have hcon := AnyE.slices_DeleteFunc delLaid (Value.int .i64) (fun _ => rfl) p g lb eg 0 (Tryd.zeroValue3) gb 0 c xs.toArray w
      (by
        intro W x hW
        refine (hg W ⟨hW.size, fun b hb _ => hW.block b hb⟩ x).mono ?_
        rintro e w' ⟨rfl, rfl⟩
        exact ⟨rfl, 0, rfl⟩)
      (by
        intro nn os dk x hdk
        refine (hg _ ⟨by unfold sortWorld; simp, fun b hb hne => ?_⟩ x).mono ?_
        · rw [hob] at hne
          unfold sortWorld
          rw [heap_grow_old _ _ (by simp; exact hb)]
          have : gb ≠ b := fun e => hne (by rw [e])
          simp [putRow, mapBlock, Sort.ahead, Array.getElem?_modify, this]
        · rintro e w' ⟨rfl, rfl⟩
          exact ⟨rfl, 0, rfl⟩)
      (OwnP.holds hh ht) (by rw [hsz]; unfold maxLen at h2; omega) (by rw [hsz]; exact h1)
    change Calls Tryd.prog 30 _ _ _ at hcon
    rw [hsz] at hcon
    refine hcon.mono ?_
    rintro e w' ⟨rfl, q, rfl⟩
    have hle : (xs.filter fun x => !p x).length ≤ n := by rw [← hl]; exact List.length_filter_le _ _
    refine ⟨(xs.filter fun x => !p x).length, rfl, ?_, ?_⟩
    · have ho := OwnP.own_put (enc := Value.int .i64) (n := q) (os := #[]) (ys := xs.filter fun x => !p x) (zs := List.replicate (n - (xs.filter fun x => !p x).length) 0) hgb hh
        (by rw [List.length_append, List.length_replicate]; omega) h2 h3
      rw [OwnP.grow_nil] at ho
      exact ho
    · have hb := OwnP.below_put (enc := Value.int .i64) (w := w) (n := q) (os := #[]) ((xs.filter fun x => !p x) ++ List.replicate (n - (xs.filter fun x => !p x).length) 0).toArray hgb hB
      rw [OwnP.grow_nil] at hb
      exact hb

end DelI
end Go.Proofs.YtmiklgekcmeedaaDoor
