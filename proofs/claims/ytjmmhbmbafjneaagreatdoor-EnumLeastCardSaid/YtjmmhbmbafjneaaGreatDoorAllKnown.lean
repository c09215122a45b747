/-
  (*names).all: are all literals of a list of something?
-/
import Derived.Test.YtjmmhbmbafjneaaGreatDoorKnown
namespace Go.Proofs.YtjmmhbmbafjneaaGreatDoor
open Go.RowKit Base
set_option linter.unusedVariables false
set_option linter.unusedSimpArgs false
namespace Circuit

set_option maxHeartbeats 2000000 in
theorem all_any (w : World) (N b n : Nat) (D : List (Int × ByteArray)) (hN : N < w.heap.size) (hc : w.cell? ⟨N, 0, none⟩ = some (.map (some b))) (hm : MetIs w b n D) (a : Option Addr) (m c : Nat) (l : List Int) (hsl : Sl w a m c (ints l)) (hl : ∀ x ∈ l, I64 x) :
    Calls Tryz.prog 69 #[.pointer (some ⟨N, 0, none⟩), .slice a m c] w fun e w' => e = .returned (.bool (l.all (known D))) ∧ Below w.heap.size w w' := by
  obtain ⟨U, hU⟩ : ∃ U, w.alloc (.cells #[.pointer (some ⟨N, 0, none⟩)] 111) = U := ⟨_, rfl⟩
  have hb : Below w.heap.size w U := by rw [← hU]; exact (Below.refl _ _).alloc (Nat.le_refl _) _
  have u0 : U.cell? ⟨w.heap.size, 0, none⟩ = some (.pointer (some ⟨N, 0, none⟩)) := by rw [← hU]; simp [go_sem]
  have hz : w.heap.size < U.heap.size := by rw [← hU]; simp
  have hlm : l.length = m := by have := hsl.len; rwa [ints_len] at this
  have hc' := (hb.cell (p := ⟨N, 0, none⟩) hN).trans hc
  have CF := SlfI.containsFunc U a m c (ints l) 90 #[] #[.pointer (some ⟨w.heap.size, 0, none⟩)] (l.map fun x => !known D x) (hsl.next hb) (by rw [List.length_map, hlm]) egA (by
    intro V hV j y q hy hq
    obtain ⟨hj, rfl⟩ := ints_at hy
    rw [List.getElem?_map, List.getElem?_eq_getElem hj] at hq
    simp only [Option.map_some, Option.some.injEq] at hq
    subst hq
    exact unknown_any V w.heap.size N b n D ((hV.cell (p := ⟨w.heap.size, 0, none⟩) hz).trans u0) ((hV.cell (p := ⟨N, 0, none⟩) (by show N < U.heap.size; omega)).trans hc') ((hm.next hb).next hV) l[j] (hl _ (List.getElem_mem hj)))
  have hall : (!((l.map fun x => !known D x).any id)) = l.all (known D) := by
    rw [List.any_map]
    simp [List.all_eq_not_any_not]
  have HALL := Lib.hid hall
  have HCF := Lib.hid CF
  have HB := Lib.hid hb
  clear CF hall hb hc hc' hm hsl hl
  generalize (l.map fun x => !known D x).any id = q at *
  go_enter Tryz.func69, Tryz.ntmps69
  go_wp2_with fail
  refine HCF.out.mono ?_
  rintro e w3 ⟨rfl, hb3⟩
  have HB3 := Lib.hid (HB.out.trans (hb3.mono HB.out.size))
  clear hb3
  go_wp2_with fail
  go_ret
  exact ⟨ret_bool HALL.out, HB3.out⟩

end Circuit
end Go.Proofs.YtjmmhbmbafjneaaGreatDoor
