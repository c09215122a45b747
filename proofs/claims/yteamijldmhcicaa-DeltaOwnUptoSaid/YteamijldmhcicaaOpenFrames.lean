/-
  Frames that come in, opened.
-/
import Derived.Test.YteamijldmhcicaaOpen
import Derived.Test.YteamijldmhcicaaOwn3
import Derived.Lib.SmallJoins
namespace Go.Proofs.Yteamijldmhcicaa.Open
open Go.ChangeShapes Go.WideShapes Go.ChangeAt Go.RowKit Go.Deep Base Own3N
set_option linter.unusedVariables false

/-- A struct of one part. -/
theorem reads_struct1 {P : Program} {t t0 : TypeId} {o0 : Nat} {α : Type} {R : World → List Value → α → Prop} {f : α → Nat} (ht : fields P t = some [(t0, o0)]) (h0 : Reads P t0 R f) :
    Reads P t (fun w cs (y : α) => cs.length = P.cellsOf t ∧ R w ((cs.drop o0).take (P.cellsOf t0)) y) (fun y => f y + 1) := by
  intro H enc w base fuel held cs x h
  obtain ⟨xs, n, hx, hl, hlen, hf⟩ := trod_fields ht h
  obtain ⟨y0, hy0, e0⟩ := hf 0 t0 o0 rfl
  obtain ⟨u0, r0, b0⟩ := h0 H enc w base n held _ _ e0
  refine ⟨u0, ⟨hl, r0⟩, ?_⟩
  match xs, hlen, hy0 with
  | [z0], _, hy0 =>
    simp at hy0
    subst hy0
    rw [hx]
    simp only [Rows.uptoBulk, Rows.uptoBulkAll, List.map_cons, List.map_nil]
    omega

def bulkFrames (F : List (List (List Int))) : Nat := (F.map bulkRows).sum + 1

theorem frames_of {w : World} {cs : List Value} {F : List (List (List Int))} (h : SlOf (SlOf (SlOf IntR)) w cs F) : ∃ a c vs, cs = [.slice a F.length c] ∧ Sl3 w a F.length c vs F ∧ ∀ r ∈ F, ∀ l ∈ r, Clause.Wf l := by
  obtain ⟨a, n, c, vs, rfl, hs, hn, hr⟩ := h
  subst hn
  refine ⟨a, c, vs, rfl, ⟨hs, rfl, fun k v xs hv hx => ?_⟩, fun l hl => ?_⟩
  · obtain ⟨a', c', vs', e, h1, h2⟩ := rows_of (hr k v xs hv hx)
    simp at e
    exact ⟨a', c', vs', e, h1⟩
  · obtain ⟨k, hk, rfl⟩ := List.mem_iff_getElem.1 hl
    have h1 : k < vs.length := by have := hs.len; omega
    obtain ⟨a', c', vs', e, h3, h2⟩ := rows_of (hr k _ _ (List.getElem?_eq_getElem h1) (List.getElem?_eq_getElem hk))
    exact h2

theorem bulkFrames_len (F : List (List (List Int))) : F.length + 1 ≤ bulkFrames F ∧ F.flatten.length + 1 ≤ bulkFrames F ∧ ∀ r ∈ F, r.length + 1 ≤ bulkFrames F ∧ ∀ l ∈ r, l.length + 1 ≤ bulkFrames F := by
  unfold bulkFrames
  induction F with
  | nil => simp
  | cons x r ih =>
    have hx := bulkRows_len x
    simp only [List.map_cons, List.sum_cons, List.length_cons, List.mem_cons, List.flatten_cons, List.length_append]
    refine ⟨by omega, by omega, fun l hl => ?_⟩
    rcases hl with rfl | hl
    · exact ⟨by omega, fun y hy => by have := hx.2 y hy; omega⟩
    · have := ih.2.2 l hl; exact ⟨by omega, fun y hy => by have := this.2 y hy; omega⟩

theorem frames_type : fields Try.prog 24 = some [(22, 0)] := by kernel_rfl

set_option maxRecDepth 100000 in
theorem open_frames {H : Type} {enc : TypeId × Value → H} {w : World} {base b0 : Nat} {held : Bool} {r : Reach} {v : Value} {d : DataW H} {p : List MemPlace}
    (hv : Value.okWide Try.prog w r b0 24 v) (h : DataW.Trod enc Try.prog w base (fun _ => true) held 24 v d p) :
    ∃ a c vs F, v = .agg #[.slice a F.length c] ∧ Sl3 w a F.length c vs F ∧ (∀ r ∈ F, ∀ l ∈ r, Clause.Wf l) ∧ bulkFrames F ≤ Rows.uptoBulk d := by
  obtain ⟨fs, hfs, _⟩ := fields_of frames_type
  obtain ⟨cs, rfl, hs⟩ := okWide_struct hfs hv
  obtain ⟨y, ⟨hl, h1⟩, hf⟩ := trod_cells (reads_struct1 frames_type (reads_slice1 (e := 31) (by kernel_rfl) (by kernel_rfl) (reads_slice1 (e := 25) (by kernel_rfl) (by kernel_rfl) (reads_slice1 (e := 3) (by kernel_rfl) (by kernel_rfl) (reads_int (by kernel_rfl)))))) h
  obtain ⟨a, c, vs, h1, hsl, hw⟩ := frames_of h1
  have hc : Try.prog.cellsOf 24 = 1 := by kernel_rfl
  have hc1 : Try.prog.cellsOf 22 = 1 := by kernel_rfl
  rw [hc] at hs
  obtain ⟨c0, rfl⟩ : ∃ c0, cs = #[c0] := by
    rcases cs with ⟨l⟩
    match l, hs with
    | [c0], _ => exact ⟨c0, rfl⟩
  simp only [Value.cells] at h1
  rw [hc1] at h1
  simp at h1
  subst h1
  exact ⟨a, c, vs, y, rfl, hsl, hw, Nat.le_trans (Nat.le_of_succ_le (Nat.le_refl _)) hf⟩
end Go.Proofs.Yteamijldmhcicaa.Open
