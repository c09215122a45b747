/-
  interlocklaw03.alive, num: the page's example.
-/
import Derived.Test.YtpejpjiipcolbaaCheckC
import Derived.Test.YtpejpjiipcolbaaKind
namespace Go.Proofs.Ytpejpjiipcolbaa
open Go.RowKit Base
set_option linter.unusedVariables false
set_option linter.unusedSimpArgs false
namespace Circuit

theorem num_any (w : World) (n : Int) : Calls Try.prog 21 #[.int .i64 n] w fun e w' => e = .returned (.int .i64 n) ∧ w = w' := by
  go_enter Try.func21, Try.ntmps21
  go_wp2
  go_ret
  exact ⟨rfl, rfl⟩

theorem slT_nil (w : World) (k : Nat) : SlT w k none 0 0 [] := ⟨rfl, Nat.le_refl _, by omega, fun _ => ⟨rfl, rfl⟩, fun i r h => by simp at h⟩

def x0 : Circ := ⟨1, [], [(2, 2, 0)], [], [], [], [], []⟩
def p0 (B : Nat) : At := ⟨none, 0, some ⟨B, 0, none⟩, 1, none, 0, none, 0, none, 0, none, 0, none, 0⟩

theorem x0_ok : CheckOk x0 := by
  refine ⟨by unfold Few x0; simp, ⟨?_, ?_, ?_⟩, ?_, ?_, ?_, ?_, ?_, ?_⟩
  · intro j hj
    have hj0 : j = 0 := by unfold ownL x0 at hj; simp at hj; omega
    subst hj0
    show okV [] 2 1
    refine ⟨by decide, by decide, by decide, by simp⟩
  · intro t ht
    have : t = (2, 2, 0) := by unfold x0 at ht; simpa using ht
    subst this
    exact Or.inl rfl
  · intro j hj
    have : (0 : Nat) > j + 1 := hj
    omega
  · intro t ht
    have : t = (2, 2, 0) := by unfold x0 at ht; simpa using ht
    subst this
    refine ⟨by decide, Or.inr ?_⟩
    show var 2 ∈ [var 2]
    simp
  · intro t ht; exact absurd ht (by unfold x0; simp)
  · intro t ht; exact absurd ht (by unfold x0; simp)
  · intro t ht; exact absurd ht (by unfold x0; simp)
  · intro t ht; exact absurd ht (by unfold x0; simp)
  · intro j hj; exact absurd hj (by unfold x0; simp)

theorem x0_kind : kindOf x0 1 = ⟨#[108]⟩ := by
  unfold kindOf
  have h1 : (x0.ins.map (ofV 1)).any id = false := rfl
  have h2 : (x0.lats.map fun t => ofV 1 t.1).any id = true := by decide
  rw [if_neg (by decide), h1, h2]
  rfl

theorem in_x0 {B : Nat} {U : World} (hB : B < U.heap.size) (h0 : U.cell? ⟨B, 0, none⟩ = some (.int .i64 2)) (h1 : U.cell? ⟨B, 1, none⟩ = some (.int .i64 2)) (h2 : U.cell? ⟨B, 2, none⟩ = some (.int .i64 0)) : InCirc U x0 (p0 B) := by
  refine ⟨Sl.nil U, ⟨rfl, Nat.le_refl _, by show 1 ≤ _; omega, (fun h => by cases h), ?_⟩, Sl.nil U, Sl.nil U, Sl.nil U, slT_nil U 3, slT_nil U 3⟩
  intro i r hr
  have hi : i = 0 := by
    have := (List.getElem?_eq_some_iff.1 hr).1
    unfold tris x0 at this
    simp at this
    exact this
  subst hi
  have hr2 : r = [.int .i64 2, .int .i64 2, .int .i64 0] := by
    unfold tris x0 at hr
    simp at hr
    exact hr.symm
  subst hr2
  refine ⟨rfl, B, 0, rfl, hB, ?_⟩
  intro j y hy
  rcases j with _ | _ | _ | j
  · simp at hy; subst hy; exact h0
  · simp at hy; subst hy; exact h1
  · simp at hy; subst hy; exact h2
  · simp at hy

set_option maxRecDepth 8000 in
set_option maxHeartbeats 4000000 in
theorem alive_any (w : World) : Calls Try.prog 7 #[] w fun e w' => e = .returned (.bool true) ∧ Below w.heap.size w w' := by
  obtain ⟨W1, hW1⟩ : ∃ W1, w.alloc (.cells #[.int .i64 2, .int .i64 2, .int .i64 0] 47) = W1 := ⟨_, rfl⟩
  obtain ⟨W2, hW2⟩ : ∃ W2, W1.alloc (.cells (cells x0 (p0 w.heap.size)) 27) = W2 := ⟨_, rfl⟩
  have h1 : Below w.heap.size w W1 := by rw [← hW1]; exact (Below.refl _ _).alloc (Nat.le_refl _) _
  obtain ⟨h2, hcb⟩ := cbox_new W1 x0 (p0 w.heap.size) W2 hW2
  have c0 : W1.cell? ⟨w.heap.size, 0, none⟩ = some (.int .i64 2) := by rw [← hW1]; simp [go_sem]
  have c1 : W1.cell? ⟨w.heap.size, 1, none⟩ = some (.int .i64 2) := by rw [← hW1]; simp [go_sem]
  have c2 : W1.cell? ⟨w.heap.size, 2, none⟩ = some (.int .i64 0) := by rw [← hW1]; simp [go_sem]
  have z1 : w.heap.size < W1.heap.size := by rw [← hW1]; simp
  have hin := (in_x0 z1 c0 c1 c2).next h2
  have hw : WfT x0.lats := by
    intro t ht
    have : t = (2, 2, 0) := by unfold x0 at ht; simpa using ht
    subst this
    refine ⟨⟨?_, ?_⟩, ⟨?_, ?_⟩, ⟨?_, ?_⟩⟩ <;> decide
  have hwa : WfT x0.ands := fun t ht => absurd ht (by unfold x0; simp)
  have hwi : ∀ l ∈ x0.ins, I64 l := fun t ht => absurd ht (by unfold x0; simp)
  have hwo : ∀ l ∈ x0.outs, I64 l := fun t ht => absurd ht (by unfold x0; simp)
  have hwb : ∀ l ∈ x0.bads, I64 l := fun t ht => absurd ht (by unfold x0; simp)
  have hwv : ∀ l ∈ x0.invs, I64 l := fun t ht => absurd ht (by unfold x0; simp)
  have HC := check_any W2 x0 (p0 w.heap.size) hin hwi hwo hwb hwv hw hwa (by show _ ∧ _; unfold x0; constructor <;> decide)
  rw [chk_pos x0_ok] at HC
  have HK := fun U (hU : Below W2.heap.size W2 U) => kind_any U x0 (p0 w.heap.size) (hin.next hU) hwi hw hwa 1
  rw [x0_kind] at HK
  have KB := fun U (hU : Below W2.heap.size W2 U) => hcb.next hU (Nat.le_refl _)
  have k0 : W2.cell? ⟨W1.heap.size, 0, none⟩ = some (.int .i64 1) := hcb.k0
  have k1 : W2.cell? ⟨W1.heap.size, 1, none⟩ = some (.slice none 0 0) := hcb.k1
  have k2 : W2.cell? ⟨W1.heap.size, 2, none⟩ = some (.slice (some ⟨w.heap.size, 0, none⟩) 1 1) := hcb.k2
  have k3 : W2.cell? ⟨W1.heap.size, 3, none⟩ = some (.slice none 0 0) := hcb.k3
  have k4 : W2.cell? ⟨W1.heap.size, 4, none⟩ = some (.slice none 0 0) := hcb.k4
  have k5 : W2.cell? ⟨W1.heap.size, 5, none⟩ = some (.slice none 0 0) := hcb.k5
  have k6 : W2.cell? ⟨W1.heap.size, 6, none⟩ = some (.slice none 0 0) := hcb.k6
  have k7 : W2.cell? ⟨W1.heap.size, 7, none⟩ = some (.slice none 0 0) := hcb.k7
  have f0 : W2.frozen? ⟨W1.heap.size, 0, none⟩ = false := by rw [← hW2]; simp [go_sem, cells]
  have f1 : W2.frozen? ⟨W1.heap.size, 1, none⟩ = false := by rw [← hW2]; simp [go_sem, cells]
  have f2 : W2.frozen? ⟨W1.heap.size, 2, none⟩ = false := by rw [← hW2]; simp [go_sem, cells]
  have f3 : W2.frozen? ⟨W1.heap.size, 3, none⟩ = false := by rw [← hW2]; simp [go_sem, cells]
  have f4 : W2.frozen? ⟨W1.heap.size, 4, none⟩ = false := by rw [← hW2]; simp [go_sem, cells]
  have f5 : W2.frozen? ⟨W1.heap.size, 5, none⟩ = false := by rw [← hW2]; simp [go_sem, cells]
  have f6 : W2.frozen? ⟨W1.heap.size, 6, none⟩ = false := by rw [← hW2]; simp [go_sem, cells]
  have f7 : W2.frozen? ⟨W1.heap.size, 7, none⟩ = false := by rw [← hW2]; simp [go_sem, cells]
  have s3 : W2.setCell ⟨W1.heap.size, 3, none⟩ (.slice none 0 0) = W2 := setCell_same _ _ _ k3
  have s4 : W2.setCell ⟨W1.heap.size, 4, none⟩ (.slice none 0 0) = W2 := setCell_same _ _ _ k4
  have s5 : W2.setCell ⟨W1.heap.size, 5, none⟩ (.slice none 0 0) = W2 := setCell_same _ _ _ k5
  have s6 : W2.setCell ⟨W1.heap.size, 6, none⟩ (.slice none 0 0) = W2 := setCell_same _ _ _ k6
  have s7 : W2.setCell ⟨W1.heap.size, 7, none⟩ (.slice none 0 0) = W2 := setCell_same _ _ _ k7
  have KBH := Lib.hid KB
  have NU := Lib.hid num_any
  have hce : cells x0 (p0 w.heap.size) = #[.int .i64 1, .slice none 0 0, .slice (some ⟨w.heap.size, 0, none⟩) 1 1, .slice none 0 0, .slice none 0 0, .slice none 0 0, .slice none 0 0, .slice none 0 0] := rfl
  rw [hce] at hW2 HC HK
  have HCH := Lib.hid HC
  have HKH := Lib.hid HK
  have HB2 := Lib.hid (h1.trans (h2.mono h1.size))
  have hl : ((⟨#[108]⟩ : ByteArray).toList == [108]) = true := by rw [Lib.toList_data]; rfl
  clear HC HK KB hin hw hwa hwi hwo hwb hwv hce hcb h1 h2 c0 c1 c2 z1
  go_enter Try.func7, Try.ntmps7
  go_wp2_with fail
  with_reducible refine HCH.out.mono ?_
  rintro e w3 ⟨rfl, hb3⟩
  have HB3 := Lib.hid (HB2.out.trans (hb3.mono HB2.out.size))
  have CB := KBH.out w3 hb3
  have m0 : w3.cell? ⟨W1.heap.size, 0, none⟩ = some (.int .i64 1) := CB.k0
  have m1 : w3.cell? ⟨W1.heap.size, 1, none⟩ = some (.slice none 0 0) := CB.k1
  have m2 : w3.cell? ⟨W1.heap.size, 2, none⟩ = some (.slice (some ⟨w.heap.size, 0, none⟩) 1 1) := CB.k2
  have m3 : w3.cell? ⟨W1.heap.size, 3, none⟩ = some (.slice none 0 0) := CB.k3
  have m4 : w3.cell? ⟨W1.heap.size, 4, none⟩ = some (.slice none 0 0) := CB.k4
  have m5 : w3.cell? ⟨W1.heap.size, 5, none⟩ = some (.slice none 0 0) := CB.k5
  have m6 : w3.cell? ⟨W1.heap.size, 6, none⟩ = some (.slice none 0 0) := CB.k6
  have m7 : w3.cell? ⟨W1.heap.size, 7, none⟩ = some (.slice none 0 0) := CB.k7
  have HK3 := Lib.hid (HKH.out w3 hb3)
  clear hb3 CB
  go_wp2_with fail
  with_reducible refine (NU.out _ _).mono ?_
  rintro e w4 ⟨rfl, rfl⟩
  go_wp2_with fail
  with_reducible refine HK3.out.mono ?_
  rintro e w5 ⟨rfl, hb5⟩
  have HB5 := Lib.hid (HB3.out.trans (hb5.mono HB3.out.size))
  clear hb5
  go_wp2_with fail
  go_ret
  exact ⟨rfl, HB5.out⟩

end Circuit
end Go.Proofs.Ytpejpjiipcolbaa
