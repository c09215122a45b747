/-
  A witness that comes in, opened.
-/
import Derived.Test.YtninglnchengeaaGreatDoorOpenCirc
namespace Go.Proofs.YtninglnchengeaaGreatDoor.Open
open Go.ChangeShapes Go.WideShapes Go.ChangeAt Go.RowKit Go.Deep Base Circuit
set_option linter.unusedVariables false
set_option linter.unusedSimpArgs false

theorem strs_of {w : World} {cs : List Value} {xs : List ByteArray} (h : SlOf StrR w cs xs) : ∃ a c, cs = [.slice a xs.length c] ∧ Sl w a xs.length c (xs.map Value.string) ∧ ∀ s ∈ xs, s.size ≤ 9223372036854775807 := by
  obtain ⟨a, n, c, vs, rfl, hs, hn, hr⟩ := h
  subst hn
  have key : ∀ k (hk : k < xs.length) (hv : k < vs.length), vs[k] = .string xs[k] ∧ xs[k].size ≤ 9223372036854775807 := by
    intro k hk hv
    obtain ⟨e, g⟩ := hr k _ _ (List.getElem?_eq_getElem hv) (List.getElem?_eq_getElem hk)
    simp only [List.cons.injEq, and_true] at e
    exact ⟨e, g⟩
  have hv : vs = xs.map Value.string := by
    apply List.ext_getElem?
    intro k
    by_cases hk : k < xs.length
    · have h1 : k < vs.length := by have := hs.len; omega
      rw [List.getElem?_eq_getElem h1, List.getElem?_map, List.getElem?_eq_getElem hk, (key k hk h1).1]
      rfl
    · rw [List.getElem?_eq_none (by have := hs.len; omega), List.getElem?_eq_none (by simp; omega)]
  subst hv
  refine ⟨a, c, rfl, hs, fun t ht => ?_⟩
  obtain ⟨k, hk, rfl⟩ := List.mem_iff_getElem.1 ht
  exact (key k hk (by simp; omega)).2

theorem wit_type : fields Tryz.prog 30 = some [(3, 0), (9, 1), (28, 2)] := by kernel_rfl

set_option maxRecDepth 100000 in
theorem open_witness {H : Type} {enc : TypeId × Value → H} {w : World} {base b0 : Nat} {held : Bool} {r : Reach} {v : Value} {d : DataW H} {p : List MemPlace}
    (hv : Value.okWide Tryz.prog w r b0 30 v) (h : DataW.Trod enc Tryz.prog w base (fun _ => true) held 30 v d p) :
    ∃ (bad : Int) (st : ByteArray) (a : Option Addr) (c : Nat) (xs : List ByteArray), v = .agg #[.int .i64 bad, .string st, .slice a xs.length c] ∧ (-9223372036854775808 ≤ bad ∧ bad ≤ 9223372036854775807) ∧ st.size ≤ 9223372036854775807 ∧ Sl w a xs.length c (xs.map Value.string) ∧ (∀ s ∈ xs, s.size ≤ 9223372036854775807) ∧
      ((d.weights Tryz.prog 30).all (· ≤ reachBytes) = true → xs.length * 16 ≤ 140737488351232) := by
  obtain ⟨fs, hfs, hfl⟩ := fields_of wit_type
  obtain ⟨cs, rfl, hs⟩ := okWide_struct hfs hv
  obtain ⟨fuel, hf⟩ := h
  obtain ⟨xs, n, hx, hl, hlen, hpt⟩ := trod_fields wit_type hf
  have hc : Tryz.prog.cellsOf 30 = 3 := by kernel_rfl
  have c1 : Tryz.prog.cellsOf 3 = 1 := by kernel_rfl
  have c2 : Tryz.prog.cellsOf 9 = 1 := by kernel_rfl
  have c3 : Tryz.prog.cellsOf 28 = 1 := by kernel_rfl
  have rint : Reads Tryz.prog 3 IntR (fun _ => 1) := reads_int (by kernel_rfl)
  have rstr : Reads Tryz.prog 9 StrR (fun s => s.size + 1) := reads_string (by kernel_rfl)
  have rstrs : Reads Tryz.prog 28 (SlOf StrR) (fun ys => (ys.map fun s => s.size + 1).sum + 1) := reads_slice1 (e := 9) (by kernel_rfl) c2 rstr
  have hs3 : cs.toList.length = 3 := by
    have : (Value.agg cs).cells.toList.length = 3 := by rw [hl, hc]
    simpa [Value.cells] using this
  obtain ⟨l, hcl⟩ : ∃ l, cs.toList = l := ⟨_, rfl⟩
  have hca : cs = l.toArray := by rw [← hcl]
  subst hca
  have hl3 : l.length = 3 := by simpa using hs3
  match l, hl3 with
  | [u0, u1, u2], _ =>
    simp only [Value.cells] at hpt
    obtain ⟨y0, hy0, e0⟩ := hpt 0 _ 0 rfl
    obtain ⟨y1, hy1, e1⟩ := hpt 1 _ 1 rfl
    obtain ⟨y2, hy2, e2⟩ := hpt 2 _ 2 rfl
    rw [c1] at e0
    rw [c2] at e1
    rw [c3] at e2
    obtain ⟨bad, ⟨m0, mlo, mhi⟩, _⟩ := rint H enc w base n held _ _ e0
    obtain ⟨st, ⟨m1, g1⟩, b1⟩ := rstr H enc w base n held _ _ e1
    obtain ⟨ss, g2, b2⟩ := rstrs H enc w base n held _ _ e2
    obtain ⟨a, c, q2, s2, w2⟩ := strs_of g2
    simp at m0 m1 q2
    subst m0 m1 q2
    refine ⟨bad, st, a, c, ss, rfl, ⟨mlo, mhi⟩, g1, s2, w2, fun hw => ?_⟩
    have hd : d = .agg (xs.map (·.1)) := hx
    have hus : fs.toList.map (·.type) = [3, 9, 28] := by
      have := congrArg (List.map Prod.fst) hfl
      rw [List.map_map] at this
      exact this
    have part : ∀ (j : Nat) (t : TypeId) (y : DataW H × List MemPlace), ([3, 9, 28] : List TypeId)[j]? = some t → xs[j]? = some y → (y.1.weights Tryz.prog t).all (· ≤ reachBytes) = true := by
      intro j t y hj hy
      rw [List.all_eq_true] at hw ⊢
      intro z hz
      apply hw
      rw [hd]
      simp only [DataW.weights, hfs]
      rw [hus]
      exact DataW.weights_mem_each (j := j) (t := t) hj (by rw [List.getElem?_map, hy]; rfl) z hz
    have b16 : Tryz.prog.bytesOf 9 = 16 := by kernel_rfl
    have r2 := slice_sized1 (t := 28) (e := 9) (by kernel_rfl) c2 ⟨n, e2⟩ (part 2 _ _ rfl hy2)
    rw [b16] at r2
    exact r2
end Go.Proofs.YtninglnchengeaaGreatDoor.Open
