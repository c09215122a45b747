/-
  interlocklaw26.alive; when the clauses' text is told and when not.
-/
import Derived.Test.YtmiklgekcmeedaaDoorInvPrintD
namespace Go.Proofs.YtmiklgekcmeedaaDoor.Inv
open Go.RowKit Base Dig
open Join (strs)
set_option linter.unusedVariables false
set_option linter.unusedSimpArgs false

theorem alive_text : textP [[-1, 2]] = [105, 110, 118, 32, 49, 10, 45, 49, 32, 50, 10, 46, 10] := by
  have h1 : pr (([[-1, 2]] : List (List Int)).length : Int) = [49] := by
    show pr 1 = _
    unfold pr
    rw [if_neg (by decide), dg_small (by decide)]
    decide
  have h2 : pr (-1) = [45, 49] := by
    unfold pr
    rw [if_pos (by decide), dg_small (by decide)]
    decide
  have h3 : pr 2 = [50] := by
    unfold pr
    rw [if_neg (by decide), dg_small (by decide)]
    decide
  unfold textP hd lineT
  rw [h1]
  simp only [List.map_cons, List.map_nil, h2, h3]
  decide

theorem alive_print : printS [[-1, 2]] = (⟨#[105, 110, 118, 32, 49, 10, 45, 49, 32, 50, 10, 46, 10]⟩, 0) := by
  unfold printS
  rw [if_neg (by decide), if_pos (by decide +kernel), alive_text]
  rfl

set_option maxHeartbeats 2000000 in
theorem alive_any (w : World) : Calls Tryd.prog 5 #[] w fun e w' => e = .returned (.bool true) ∧ Below w.heap.size w w' := by
  have hb1 : Below w.heap.size w (w.alloc (.cells #[.int .i64 (-1), .int .i64 2] 3)) := (Below.refl _ _).alloc (Nat.le_refl _) _
  have hs1 := sl_new w #[.int .i64 (-1), .int .i64 2] 3 2 rfl (by omega)
  have hz1 : (w.alloc (.cells #[.int .i64 (-1), .int .i64 2] 3)).heap.size = w.heap.size + 1 := by simp
  generalize hW1 : w.alloc (.cells #[.int .i64 (-1), .int .i64 2] 3) = W1 at *
  have hb2 : Below W1.heap.size W1 (W1.alloc (.cells #[.slice (some ⟨w.heap.size, 0, none⟩) 2 2] 33)) := (Below.refl _ _).alloc (Nat.le_refl _) _
  have hs2 := sl_new W1 #[.slice (some ⟨w.heap.size, 0, none⟩) 2 2] 33 1 rfl (by omega)
  rw [hz1] at hs2
  have HP := print_all (W1.alloc (.cells #[.slice (some ⟨w.heap.size, 0, none⟩) 2 2] 33)) (some ⟨w.heap.size + 1, 0, none⟩) 1 [.slice (some ⟨w.heap.size, 0, none⟩) 2 2] [[-1, 2]] ⟨hs2, rfl, fun k v xs hv hx => by
    have hk : k = 0 := by
      have := (List.getElem?_eq_some_iff.1 hv).1
      simpa using this
    subst hk
    simp at hv hx
    subst hv hx
    exact ⟨_, 2, rfl, hs1.next hb2⟩⟩ (by intro x hx; simp at hx; subst hx; intro y hy; simp at hy; rcases hy with rfl | rfl <;> decide) (by intro x hx; simp at hx; subst hx; decide)
  rw [alive_print] at HP
  change Calls Tryd.prog 6 #[.slice (some ⟨w.heap.size + 1, 0, none⟩) 1 1] _ _ at HP
  have HPH := Lib.hid HP
  have HB := Lib.hid (hb1.trans (hb2.mono hb1.size))
  subst hW1
  clear HP hb1 hb2 hs1 hs2 hz1
  go_enter Tryd.func5, Tryd.ntmps5
  go_wp2_with fail
  with_reducible refine HPH.out.mono ?_
  rintro e w1 ⟨rfl, hb⟩
  have HB1 := Lib.hid (HB.out.trans (hb.mono HB.out.size))
  clear hb
  go_wp2_with fail
  go_ret
  exact ⟨rfl, HB1.out⟩

theorem print_fit {l : List (List Int)} (h0 : ¬ 1024 < l.length) (h : ∀ x ∈ l, fitsB x = true) : printS l = (str (textP l), 0) := by
  unfold printS
  have h1 : allFit l = true := by
    unfold allFit
    rw [Bool.not_eq_true', List.any_eq_false]
    intro b hb
    obtain ⟨x, hx, rfl⟩ := List.mem_map.1 hb
    simp [h x hx]
  rw [if_neg h0, if_pos h1]
theorem print_odd {l : List (List Int)} (h0 : ¬ 1024 < l.length) {x : List Int} (hx : x ∈ l) (h : fitsB x = false) : printS l = (⟨#[]⟩, 9) := by
  unfold printS
  have h1 : allFit l = false := by
    unfold allFit
    rw [Bool.not_eq_false', List.any_eq_true]
    exact ⟨!fitsB x, List.mem_map.2 ⟨x, hx, rfl⟩, by simp [h]⟩
  rw [if_neg h0, h1]
  rfl
end Go.Proofs.YtmiklgekcmeedaaDoor.Inv
