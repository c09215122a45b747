/-
  slices.ContainsFunc and IndexFunc of a cube's literals with cube.strange's closure.
-/
import Derived.Test.YtllbncfcnjmbmaaDoorStrange
import Derived.Test.YtllbncfcnjmbmaaDoorSlfI
namespace Go.Proofs.YtllbncfcnjmbmaaDoor
open Go.RowKit Base
set_option linter.unusedVariables false
set_option linter.unusedSimpArgs false
namespace Strange

theorem eg_str : SlfI.Enters 37 := enters_of Tryd.func37 (by kernel_rfl) rfl

theorem gives (w : World) (x : Circ) (p : At) (N : Nat) (hB : Circuit.CBox N x p w) (hL : SlT w 3 p.a2 x.lats.length p.c2 (tris x.lats)) (l : List Int) (hw : Clause.Wf l) :
    SlfI.Gives w 37 #[] #[.pointer (some ⟨N, 0, none⟩)] (ints l) (l.map (strangeB x.lats)) := by
  intro V hV k y q hy hq
  obtain ⟨hk, rfl⟩ := Base.ints_at hy
  rw [List.getElem?_map, List.getElem?_eq_getElem hk] at hq
  simp only [Option.map_some, Option.some.injEq] at hq
  subst hq
  have h := hw _ (List.getElem_mem hk)
  exact strange_any V x p N (hB.next hV (Nat.le_refl _)) (hL.next hV) l[k] h.1 h.2

theorem anyStrange (w : World) (x : Circ) (p : At) (N : Nat) (hB : Circuit.CBox N x p w) (hL : SlT w 3 p.a2 x.lats.length p.c2 (tris x.lats)) (a : Option Addr) (n c : Nat) (l : List Int) (hs : Sl w a n c (ints l)) (hw : Clause.Wf l) :
    Calls Tryd.prog 20 #[.slice a n c, .func (.func 37) #[] #[.pointer (some ⟨N, 0, none⟩)]] w fun e w' => e = .returned (.bool ((l.map (strangeB x.lats)).any id)) ∧ Below w.heap.size w w' :=
  SlfI.containsFunc w a n c (ints l) 37 #[] #[.pointer (some ⟨N, 0, none⟩)] (l.map (strangeB x.lats)) hs (by have := hs.len; rw [ints_len] at this; rw [List.length_map]; exact this) eg_str (gives w x p N hB hL l hw)
end Strange
end Go.Proofs.YtllbncfcnjmbmaaDoor
