/-
  A table of facts that comes in, opened, with what it weighs.
-/
import Derived.Test.YtgbpoeidpldmkaaOpenRS
import Derived.Test.YtgbpoeidpldmkaaFactE
namespace Go.Proofs.Ytgbpoeidpldmkaa.Open
open Go.ChangeShapes Go.WideShapes Go.ChangeAt Go.RowKit Go.Deep Base
set_option linter.unusedVariables false
set_option linter.unusedSimpArgs false
open Fact (Fc Tb SlF FcIn WfF fcells tagg)

/-- Whatever is read at t holds a y of R; and of what weighs no more than the reach g holds. -/
def ReadsW (P : Program) (t : TypeId) {α : Type} (R : World → List Value → α → Prop) (g : α → Prop) : Prop :=
  ∀ (H : Type) (enc : TypeId × Value → H) (w : World) (base fuel : Nat) (held : Bool) (cs : List Value) (x : DataW H × List MemPlace),
    DataW.trod enc P w base (fun _ => true) held fuel t cs = some x → ∃ y, R w cs y ∧ ((x.1.weights P t).all (· ≤ reachBytes) = true → g y)

def SlOfK {α : Type} (k : Nat) (R : World → List Value → α → Prop) (w : World) (cs : List Value) (ys : List α) : Prop :=
  ∃ a n c vs, cs = [.slice a n c] ∧ SlT w k a n c vs ∧ ys.length = n ∧ ∀ (i : Nat) (v : List Value) (y : α), vs[i]? = some v → ys[i]? = some y → R w v y

theorem readsW_sliceK {P : Program} {t e : TypeId} {k : Nat} {α : Type} [Inhabited α] {R : World → List Value → α → Prop} {g : α → Prop} (ht : P.underlying t = some (.slice e)) (hk : 0 < k) (hc : P.cellsOf e = k) (he : ReadsW P e R g) :
    ReadsW P t (SlOfK k R) (fun ys => ∀ y ∈ ys, g y) := by
  intro H enc w base fuel held cs x h
  rcases open_slice ht h with ⟨rfl, rfl⟩ | ⟨a, len, cap, m, n, D, Pl, rfl, hb, hl, hm, hmm, rfl, hx⟩
  · exact ⟨[], ⟨none, 0, 0, [], rfl, ⟨rfl, Nat.le_refl _, by omega, fun _ => ⟨rfl, rfl⟩, fun i r h => by simp at h⟩, rfl, fun k v y h => by simp at h⟩, fun _ y hy => by cases hy⟩
  · simp only [if_true] at hmm
    subst hmm
    rw [hc] at hx
    obtain ⟨Y, hY⟩ : ∃ Y : Nat → α × List Value, ∀ i, i < len → (Y i).2.length = k ∧ (∀ j, j < k → w.cell? ((a.add (i * k)).add j) = (Y i).2[j]?) ∧ R w (Y i).2 (Y i).1 ∧ (((D i).weights P e).all (· ≤ reachBytes) = true → g (Y i).1) := by
      have hex : ∀ i, ∃ y : α × List Value, i < len → y.2.length = k ∧ (∀ j, j < k → w.cell? ((a.add (i * k)).add j) = y.2[j]?) ∧ R w y.2 y.1 ∧ (((D i).weights P e).all (· ≤ reachBytes) = true → g y.1) := by
        intro i
        by_cases hi : i < len
        · obtain ⟨cs', h1, h2⟩ := hx i (by omega)
          obtain ⟨_, h3, h4⟩ := World.cells?_some h1
          obtain ⟨y, h5, h6⟩ := he H enc w base n held _ _ h2
          exact ⟨(y, cs'), fun _ => ⟨h3, h4, h5, h6⟩⟩
        · exact ⟨default, fun h => absurd h hi⟩
      exact ⟨fun i => Classical.choose (hex i), fun i hi => Classical.choose_spec (hex i) hi⟩
    have hget : ∀ {β : Type} (G : Nat → β) (k : Nat) (v : β), ((List.range len).map G)[k]? = some v → k < len ∧ v = G k := by
      intro β G k v hv
      rw [List.getElem?_map, Option.map_eq_some_iff] at hv
      obtain ⟨j, hj, rfl⟩ := hv
      obtain ⟨hk, rfl⟩ := List.getElem?_eq_some_iff.1 hj
      simp at hk
      simp [hk]
    refine ⟨(List.range len).map fun i => (Y i).1, ⟨some a, len, m, (List.range len).map fun i => (Y i).2, rfl, ⟨by simp, hl, by unfold maxLen at hm; omega, fun h => (by cases h), ?_⟩, by simp, ?_⟩, ?_⟩
    · intro i r hr
      obtain ⟨hi, rfl⟩ := hget (fun i => (Y i).2) i r hr
      obtain ⟨g1, g2, _, _⟩ := hY i hi
      obtain ⟨q1, q2, _, _⟩ := hY 0 (by omega)
      have hlt : 0 < (Y 0).2.length := by omega
      have h0 := q2 0 hk
      rw [List.getElem?_eq_getElem hlt] at h0
      have ha : (a.add (0 * k)).add 0 = a := by simp [Addr.add]
      rw [ha] at h0
      obtain ⟨hs, hblk⟩ := cell_block h0
      obtain ⟨b, o, sp⟩ := a
      simp only at hs hblk
      subst hs
      refine ⟨g1, b, o, rfl, hblk, ?_⟩
      intro j y hj
      have hjk : j < k := by
        have := (List.getElem?_eq_some_iff.1 hj).1
        omega
      have := g2 j hjk
      rw [Addr.add_lit, Addr.add_lit] at this
      rw [this]
      exact hj
    · intro i v y hv hy
      obtain ⟨hi, rfl⟩ := hget (fun i => (Y i).2) i v hv
      obtain ⟨_, rfl⟩ := hget (fun i => (Y i).1) i y hy
      exact (hY i hi).2.2.1
    · intro hw y hy
      obtain ⟨i, hi, rfl⟩ := List.mem_map.1 hy
      have hil : i < len := by simpa using hi
      refine (hY i hil).2.2.2 (List.all_eq_true.2 fun z hz => List.all_eq_true.1 hw z ?_)
      simp only [DataW.weights, ht]
      refine List.mem_cons_of_mem _ (List.mem_append_left _ (weights_part (d := D i) ?_ hz))
      exact List.mem_map.2 ⟨i, by simpa using hil, rfl⟩

theorem fact_type : fields Try.prog 31 = some [(3, 0), (3, 1), (3, 2), (26, 3), (26, 4)] := by kernel_rfl
theorem table_type : fields Try.prog 24 = some [(3, 0), (3, 1), (22, 2)] := by kernel_rfl

def FactR (w : World) (cs : List Value) (f : Fc) : Prop := FcIn w cs f ∧ Clause.Wf f.lits
def FactZ (f : Fc) : Prop := f.lits.length * 8 ≤ 140737488351232 ∧ f.tags.length * 8 ≤ 140737488351232

set_option maxRecDepth 100000 in
theorem readsW_fact : ReadsW Try.prog 31 FactR FactZ := by
  have c1 : Try.prog.cellsOf 3 = 1 := by kernel_rfl
  have c2 : Try.prog.cellsOf 26 = 1 := by kernel_rfl
  have ck : Try.prog.cellsOf 31 = 5 := by kernel_rfl
  have b8 : Try.prog.bytesOf 3 = 8 := by kernel_rfl
  have rint : Reads Try.prog 3 IntR (fun _ => 1) := reads_int (by kernel_rfl)
  have rints : Reads Try.prog 26 (SlOf IntR) bulkInts := reads_slice1 (e := 3) (by kernel_rfl) c1 rint
  intro H enc w base fuel held cs x h
  obtain ⟨fs, hfs, hfl⟩ := fields_of fact_type
  obtain ⟨xs, n, hx, hl, hlen, hf⟩ := trod_fields fact_type h
  rw [ck] at hl
  match cs, hl with
  | [u0, u1, u2, u3, u4], _ =>
    obtain ⟨y0, hy0, e0⟩ := hf 0 3 0 rfl
    obtain ⟨y1, hy1, e1⟩ := hf 1 3 1 rfl
    obtain ⟨y2, hy2, e2⟩ := hf 2 3 2 rfl
    obtain ⟨y3, hy3, e3⟩ := hf 3 26 3 rfl
    obtain ⟨y4, hy4, e4⟩ := hf 4 26 4 rfl
    rw [c1] at e0 e1 e2
    rw [c2] at e3 e4
    obtain ⟨z0, ⟨r0, _⟩, _⟩ := rint H enc w base n held _ _ e0
    obtain ⟨z1, ⟨r1, _⟩, _⟩ := rint H enc w base n held _ _ e1
    obtain ⟨z2, ⟨r2, _⟩, _⟩ := rint H enc w base n held _ _ e2
    obtain ⟨z3, r3, _⟩ := rints H enc w base n held _ _ e3
    obtain ⟨z4, r4, _⟩ := rints H enc w base n held _ _ e4
    obtain ⟨a3, k3, q3, s3, w3⟩ := ints_of r3
    obtain ⟨a4, k4, q4, s4, w4⟩ := ints_of r4
    simp at r0 r1 r2 q3 q4
    subst r0 r1 r2 q3 q4
    refine ⟨⟨z0, z1, z2, z3, z4⟩, ⟨⟨a3, k3, a4, k4, rfl, s3, s4⟩, w3⟩, fun hw => ?_⟩
    have hus : fs.toList.map (·.type) = [3, 3, 3, 26, 26] := by
      have := congrArg (List.map Prod.fst) hfl
      rw [List.map_map] at this
      exact this
    have part : ∀ (j : Nat) (t : TypeId) (y : DataW H × List MemPlace), ([3, 3, 3, 26, 26] : List TypeId)[j]? = some t → xs[j]? = some y → (y.1.weights Try.prog t).all (· ≤ reachBytes) = true := by
      intro j t y hj hy
      rw [List.all_eq_true] at hw ⊢
      intro z hz
      apply hw
      rw [hx]
      simp only [DataW.weights, hfs]
      rw [hus]
      exact DataW.weights_mem_each (j := j) (t := t) hj (by rw [List.getElem?_map, hy]; rfl) z hz
    have t3 := slice_sized1 (t := 26) (e := 3) (by kernel_rfl) c1 ⟨n, e3⟩ (part 3 _ _ rfl hy3)
    have t4 := slice_sized1 (t := 26) (e := 3) (by kernel_rfl) c1 ⟨n, e4⟩ (part 4 _ _ rfl hy4)
    rw [b8] at t3 t4
    exact ⟨t3, t4⟩

set_option maxRecDepth 100000 in
theorem open_table {H : Type} {enc : TypeId × Value → H} {w : World} {base b0 : Nat} {held : Bool} {r : Reach} {v : Value} {d : DataW H} {p : List MemPlace}
    (hv : Value.okWide Try.prog w r b0 24 v) (h : DataW.Trod enc Try.prog w base (fun _ => true) held 24 v d p) (hw : (d.weights Try.prog 24).all (· ≤ reachBytes) = true) :
    ∃ (t : Tb) (a : Option Addr) (c : Nat) (vs : List (List Value)), v = tagg t a c ∧ SlF w a t.facts.length c vs t.facts ∧ WfF t.facts := by
  have c1 : Try.prog.cellsOf 3 = 1 := by kernel_rfl
  have c2 : Try.prog.cellsOf 22 = 1 := by kernel_rfl
  have cf : Try.prog.cellsOf 31 = 5 := by kernel_rfl
  have ck : Try.prog.cellsOf 24 = 3 := by kernel_rfl
  have rint : Reads Try.prog 3 IntR (fun _ => 1) := reads_int (by kernel_rfl)
  obtain ⟨fs, hfs, hfl⟩ := fields_of table_type
  obtain ⟨cs, rfl, hs⟩ := okWide_struct hfs hv
  obtain ⟨fuel, hf⟩ := h
  obtain ⟨xs, n, hx, hl, hlen, hpt⟩ := trod_fields table_type hf
  have hs3 : cs.toList.length = 3 := by
    have : (Value.agg cs).cells.toList.length = 3 := by rw [hl, ck]
    simpa [Value.cells] using this
  obtain ⟨l, hcl⟩ : ∃ l, cs.toList = l := ⟨_, rfl⟩
  have hca : cs = l.toArray := by rw [← hcl]
  subst hca
  have hl3 : l.length = 3 := by simpa using hs3
  match l, hl3 with
  | [u0, u1, u2], _ =>
    simp only [Value.cells] at hpt
    obtain ⟨y0, hy0, e0⟩ := hpt 0 _ 0 rfl
    obtain ⟨y1, hy1, e1⟩ := hpt 1 _ 1 rfl
    obtain ⟨y2, hy2, e2⟩ := hpt 2 _ 2 rfl
    rw [c1] at e0 e1
    rw [c2] at e2
    obtain ⟨z0, ⟨r0, _⟩, _⟩ := rint H enc w base n held _ _ e0
    obtain ⟨z1, ⟨r1, _⟩, _⟩ := rint H enc w base n held _ _ e1
    obtain ⟨z2, ⟨a, m, c, vs, q2, st, hm, hrow⟩, hg⟩ := readsW_sliceK (t := 22) (e := 31) (k := 5) (by kernel_rfl) (by decide) cf readsW_fact H enc w base n held _ _ e2
    simp at r0 r1 q2
    subst r0 r1 q2 hm
    have hus : fs.toList.map (·.type) = [3, 3, 22] := by
      have := congrArg (List.map Prod.fst) hfl
      rw [List.map_map] at this
      exact this
    have hd : d = .agg (xs.map (·.1)) := hx
    have hz := hg (by
      rw [List.all_eq_true] at hw ⊢
      intro z hz
      apply hw
      rw [hd]
      simp only [DataW.weights, hfs]
      rw [hus]
      exact DataW.weights_mem_each (j := 2) (t := 22) rfl (by rw [List.getElem?_map, hy2]; rfl) z hz)
    refine ⟨⟨z0, z1, z2⟩, a, c, vs, rfl, ⟨st, rfl, fun i v f hv hf => (hrow i v f hv hf).1⟩, ⟨fun f hf => ?_, fun f hf => by have := (hz f hf).2; omega⟩⟩
    obtain ⟨i, hi, rfl⟩ := List.mem_iff_getElem.1 hf
    have hi2 : i < z2.length := hi
    have h1 : i < vs.length := by have := st.len; omega
    exact (hrow i _ _ (List.getElem?_eq_getElem h1) (List.getElem?_eq_getElem hi)).2
end Go.Proofs.Ytgbpoeidpldmkaa.Open
