/-
  What comes in, opened: numbers of 64 bits without a sign.
-/
import Derived.Test.YtninglnchengeaaGreatDoorOpen
namespace Go.Proofs.YtninglnchengeaaGreatDoor.Open
open Go.ChangeShapes Go.WideShapes Go.ChangeAt Go.RowKit Go.Deep Base
set_option linter.unusedVariables false

theorem wf_u64 {n : Int} (h : (Lit.int .u64 n).wf = true) : 0 ≤ n ∧ n < 18446744073709551616 := by
  simp [Lit.wf, IntKind.min, IntKind.max, IntKind.signed, IntKind.bits] at h
  omega
def U64R (w : World) (cs : List Value) (n : Int) : Prop := cs = [.int .u64 n] ∧ 0 ≤ n ∧ n < 18446744073709551616
theorem reads_u64 {P : Program} {t : TypeId} (ht : P.underlying t = some (.int .u64)) : Reads P t U64R (fun _ => 1) := by
  intro H enc w base fuel held cs x h
  obtain ⟨n, rfl, rfl, hw⟩ := DataW.trod_int ht h
  exact ⟨n, ⟨rfl, wf_u64 hw⟩, by simp [Rows.uptoBulk]⟩
theorem u64s_of {w : World} {cs : List Value} {xs : List Int} (h : SlOf U64R w cs xs) : ∃ a c, cs = [.slice a xs.length c] ∧ Sl w a xs.length c (xs.map fun v => Value.int .u64 v) ∧ ∀ v ∈ xs, 0 ≤ v ∧ v < 18446744073709551616 := by
  obtain ⟨a, n, c, vs, rfl, hs, hn, hr⟩ := h
  subst hn
  have hv : vs = xs.map fun v => Value.int .u64 v := by
    apply List.ext_getElem?
    intro k
    by_cases hk : k < xs.length
    · have h1 : k < vs.length := by have := hs.len; omega
      have h2 := hr k _ _ (List.getElem?_eq_getElem h1) (List.getElem?_eq_getElem hk)
      rw [List.getElem?_eq_getElem h1, List.getElem?_map, List.getElem?_eq_getElem hk]
      have := h2.1
      simp at this
      simp [this]
    · rw [List.getElem?_eq_none (by have := hs.len; omega), List.getElem?_eq_none (by rw [List.length_map]; omega)]
  subst hv
  refine ⟨a, c, rfl, hs, ?_⟩
  intro x hx
  obtain ⟨k, hk, rfl⟩ := List.mem_iff_getElem.1 hx
  have h1 : k < (xs.map fun v => Value.int .u64 v).length := by rw [List.length_map]; exact hk
  exact (hr k _ _ (List.getElem?_eq_getElem h1) (List.getElem?_eq_getElem hk)).2
theorem open_u64s {H : Type} {enc : TypeId × Value → H} {P : Program} {w : World} {base : Nat} {held : Bool} {t e : TypeId} {v : Value} {d : DataW H} {p : List MemPlace} (ht : P.underlying t = some (.slice e)) (he : P.underlying e = some (.int .u64)) (hc : P.cellsOf e = 1)
    (hv : ∃ a n c, v = .slice a n c) (h : DataW.Trod enc P w base (fun _ => true) held t v d p) :
    ∃ a c xs, v = .slice a xs.length c ∧ Sl w a xs.length c (xs.map fun v => Value.int .u64 v) ∧ (∀ v ∈ xs, 0 ≤ v ∧ v < 18446744073709551616) ∧ bulkInts xs ≤ Rows.uptoBulk d := by
  obtain ⟨a, n, c, rfl⟩ := hv
  obtain ⟨xs, hr, hf⟩ := trod_cells (reads_slice1 ht hc (reads_u64 he)) h
  obtain ⟨a', c', e, h1, h2⟩ := u64s_of hr
  simp [Value.cells] at e
  obtain ⟨rfl, rfl, rfl⟩ := e
  exact ⟨a, c, xs, rfl, h1, h2, hf⟩
end Go.Proofs.YtninglnchengeaaGreatDoor.Open
