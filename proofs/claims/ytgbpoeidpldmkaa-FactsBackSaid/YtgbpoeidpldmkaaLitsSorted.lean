/-
  lits.Sorted: numbers, rising, each once.
-/
import Derived.Test.YtgbpoeidpldmkaaValues
import Derived.Test.YtgbpoeidpldmkaaSortPl
import Derived.Test.YtgbpoeidpldmkaaCompI
import Derived.Lib.SlKeysI
namespace Go.Proofs.Ytgbpoeidpldmkaa
open Go.RowKit Go.Sort Go.Shelf Base
set_option linter.unusedVariables false
set_option linter.unusedSimpArgs false
namespace Vals

theorem ints_enc (l : List Int) : l.map encZ = ints l := rfl

set_option maxHeartbeats 1000000 in
theorem collect_any (w : World) (Bx : Nat) (a : Option Addr) (len cap : Nat) (zs : List Int) (hBx : Bx < w.heap.size) (hcx : w.cell? ⟨Bx, 0, none⟩ = some (.slice a len cap)) (hsl : Sl w a len cap (ints zs)) (hlen : len * 8 ≤ 140737488355328) :
    Calls Try.prog 46 #[.func (.func 48) #[] #[.pointer (some ⟨Bx, 0, none⟩)]] w fun e W' => ∃ v, e = .returned v ∧ W'.ownsRow w.heap.size 3 1 v zs.length (ints zs) ∧ Below w.heap.size w W' := by
  have H := Lib.hid (append_any w Bx a len cap zs hBx hcx hsl hlen)
  clear hBx hcx hsl hlen
  go_enter Try.func46, Try.ntmps46
  go_wp2_with fail
  with_reducible refine H.out.mono ?_
  rintro e w1 ⟨v, rfl, hown, hb⟩
  go_wp2_with fail
  go_ret
  exact ⟨v, rfl, hown, hb⟩

set_option maxHeartbeats 1000000 in
theorem sorted_any (w : World) (Bx : Nat) (a : Option Addr) (len cap : Nat) (zs : List Int) (hBx : Bx < w.heap.size) (hcx : w.cell? ⟨Bx, 0, none⟩ = some (.slice a len cap)) (hsl : Sl w a len cap (ints zs)) (hlen : len * 8 ≤ 140737488355328) :
    Calls Try.prog 42 #[.func (.func 48) #[] #[.pointer (some ⟨Bx, 0, none⟩)]] w fun e W' => ∃ a' c', e = .returned (.slice a' zs.length c') ∧ W'.ownsRow w.heap.size 3 1 (.slice a' zs.length c') zs.length (ints (zs.mergeSort (fun x y => decide (x ≤ y)))) ∧ Below w.heap.size w W' := by
  have hzl : zs.length ≤ 17592186044416 := by have := hsl.len; rw [ints_len] at this; omega
  have H := Lib.hid (collect_any w Bx a len cap zs hBx hcx hsl hlen)
  have HZ := Lib.hid hzl
  clear hBx hcx hsl hlen hzl
  go_enter Try.func42, Try.ntmps42
  go_wp2_with fail
  with_reducible refine H.out.mono ?_
  rintro e w1 ⟨v, rfl, hown, hb⟩
  have HB := Lib.hid hb
  have hown2 := hown
  rcases hown.2 with ⟨rfl, hz⟩ | ⟨gb, cp, cur, rfl, hbase, hgb, r1, r2, r3, r4⟩
  · have hss : zs = [] := List.eq_nil_of_length_eq_zero hz
    subst hss
    have HS := Lib.hid (AnyM.slices_Sort_int_none sortA none 0 w1)
    clear hown hown2 hb hz
    go_wp2_with fail
    refine HS.out.mono ?_
    rintro e w2 ⟨rfl, rfl⟩
    go_wp2_with fail
    go_ret
    exact ⟨none, 0, rfl, by simpa [ints] using World.ownsRow_nil w2 w.heap.size 3 1, HB.out⟩
  · have hH : Holds encZ w1 gb 0 zs.toArray := holds_of_block_i hgb (by rw [Nat.mul_one] at r4; exact r4)
    have hgl : gb < w1.heap.size := (Array.getElem?_eq_some_iff.1 hgb).1
    have HS := Lib.hid (AnyM.slices_Sort_int sortA gb 0 cp zs w1 hH hgl (by have := HZ.out; omega))
    have HG := Lib.hid (And.intro hbase (And.intro hgb (And.intro r1 (And.intro r2 r3))))
    clear hown hown2 hb hH hgl hbase hgb r1 r2 r3 r4
    go_wp2_with fail
    refine HS.out.mono ?_
    rintro e w2 ⟨rfl, nn, os, rfl⟩
    go_wp2_with fail
    go_ret
    obtain ⟨hbase, hgb, r1, r2, r3⟩ := HG.out
    exact ⟨some ⟨gb, 0, none⟩, cp, rfl, ownsRow_sorted_i (by simp) hbase hgb r1 r2 r3, HB.out.grown (grownBy_sorted_i _) HB.out.size (fun j hj => by cases hj; exact hbase)⟩

theorem values_any (w : World) (a : Option Addr) (len cap : Nat) :
    Calls Try.prog 43 #[.slice a len cap] w fun e w' => e = .returned (.func (.func 48) #[] #[.pointer (some ⟨w.heap.size, 0, none⟩)]) ∧ w' = w.alloc (.cells #[.slice a len cap] 26) := by
  go_enter Try.func43, Try.ntmps43
  go_wp2_with fail
  go_ret
  exact ⟨rfl, rfl⟩

set_option maxHeartbeats 1000000 in
theorem lits_any (w : World) (a : Option Addr) (len cap : Nat) (zs : List Int) (hsl : Sl w a len cap (ints zs)) (hlen : len * 8 ≤ 140737488355328) :
    Calls Try.prog 32 #[.slice a len cap] w fun e w' => ∃ a' c', e = .returned (.slice a' (srt zs).length c') ∧ w'.ownsRow w.heap.size 3 1 (.slice a' (srt zs).length c') (srt zs).length (ints (srt zs)) ∧ Below w.heap.size w w' := by
  obtain ⟨W1, hW1⟩ : ∃ W1, w.alloc (.cells #[.slice a len cap] 26) = W1 := ⟨_, rfl⟩
  have hb1 : Below w.heap.size w W1 := by rw [← hW1]; exact (Below.refl _ _).alloc (Nat.le_refl _) _
  have hs1 : w.heap.size < W1.heap.size := by rw [← hW1]; simp
  have hc1 : W1.cell? ⟨w.heap.size, 0, none⟩ = some (.slice a len cap) := by rw [← hW1]; simp
  have HV := Lib.hid (values_any w a len cap)
  have HS := Lib.hid (sorted_any W1 w.heap.size a len cap zs hs1 hc1 (hsl.next hb1) hlen)
  have HB1 := Lib.hid hb1
  clear hsl hlen hs1 hc1 hb1
  go_enter Try.func32, Try.ntmps32
  go_wp2_with fail
  with_reducible refine HV.out.mono ?_
  rintro e w1 ⟨rfl, rfl⟩
  rw [hW1]
  go_wp2_with fail
  with_reducible refine HS.out.mono ?_
  rintro e w2 ⟨a2, c2, rfl, hown, hb2⟩
  have HC := Lib.hid (CompI.compact_own w2 w.heap.size a2 zs.length c2 _ (own_mono hown HB1.out.size) (Nat.le_trans HB1.out.size hb2.size))
  have HB2 := Lib.hid (HB1.out.trans (hb2.mono HB1.out.size))
  clear hown hb2 hW1
  go_wp2_with fail
  with_reducible refine HC.out.mono ?_
  rintro e w3 ⟨n', rfl, hown3, hb3⟩
  have hl : (srt zs).length = n' := by
    have := hown3.1
    rw [ints_len, Nat.mul_one] at this
    exact this
  have HO := Lib.hid hown3
  have HL := Lib.hid hl
  clear hl hown3
  go_wp2_with fail
  go_ret
  have hl := HL.out
  subst hl
  exact ⟨a2, c2, rfl, HO.out, HB2.out.trans hb3⟩
end Vals
end Go.Proofs.Ytgbpoeidpldmkaa
