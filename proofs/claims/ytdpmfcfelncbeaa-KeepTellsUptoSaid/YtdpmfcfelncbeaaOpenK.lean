/-
  A slice of Kept that comes in, opened.
-/
import Derived.Test.YtdpmfcfelncbeaaOpen
import Derived.Test.YtdpmfcfelncbeaaKeepLaws
namespace Go.Proofs.Ytdpmfcfelncbeaa.Open
open Go.ChangeShapes Go.WideShapes Go.ChangeAt Go.RowKit Go.Deep Base
set_option linter.unusedVariables false
set_option linter.unusedSimpArgs false

/-- A slice of elements of k cells each. -/
def SlOfK {α : Type} (k : Nat) (R : World → List Value → α → Prop) (w : World) (cs : List Value) (ys : List α) : Prop :=
  ∃ a n c vs, cs = [.slice a n c] ∧ SlT w k a n c vs ∧ ys.length = n ∧ ∀ (i : Nat) (v : List Value) (y : α), vs[i]? = some v → ys[i]? = some y → R w v y

theorem reads_sliceK {P : Program} {t e : TypeId} {k : Nat} {α : Type} [Inhabited α] {R : World → List Value → α → Prop} {f : α → Nat} (ht : P.underlying t = some (.slice e)) (hk : 0 < k) (hc : P.cellsOf e = k) (he : Reads P e R f) :
    ∀ (H : Type) (enc : TypeId × Value → H) (w : World) (base fuel : Nat) (held : Bool) (cs : List Value) (x : DataW H × List MemPlace),
      DataW.trod enc P w base (fun _ => true) held fuel t cs = some x → ∃ ys, SlOfK k R w cs ys ∧ (ys.map f).sum + 1 ≤ Rows.uptoBulk x.1 ∧ ((x.1.weights P t).all (· ≤ reachBytes) = true → ys.length * P.bytesOf e ≤ 140737488351232) := by
  intro H enc w base fuel held cs x h
  rcases open_slice ht h with ⟨rfl, rfl⟩ | ⟨a, len, cap, m, n, D, Pl, rfl, hb, hl, hm, hmm, rfl, hx⟩
  · exact ⟨[], ⟨none, 0, 0, [], rfl, ⟨rfl, Nat.le_refl _, by omega, fun _ => ⟨rfl, rfl⟩, fun i r h => by simp at h⟩, rfl, fun k v y h => by simp at h⟩, by simp [Rows.uptoBulk], fun _ => by simp⟩
  · simp only [if_true] at hmm
    subst hmm
    rw [hc] at hx
    obtain ⟨Y, hY⟩ : ∃ Y : Nat → α × List Value, ∀ i, i < len → (Y i).2.length = k ∧ (∀ j, j < k → w.cell? ((a.add (i * k)).add j) = (Y i).2[j]?) ∧ R w (Y i).2 (Y i).1 ∧ f (Y i).1 ≤ Rows.uptoBulk (D i) := by
      have hex : ∀ i, ∃ y : α × List Value, i < len → y.2.length = k ∧ (∀ j, j < k → w.cell? ((a.add (i * k)).add j) = y.2[j]?) ∧ R w y.2 y.1 ∧ f y.1 ≤ Rows.uptoBulk (D i) := by
        intro i
        by_cases hi : i < len
        · obtain ⟨cs', h1, h2⟩ := hx i (by omega)
          obtain ⟨_, h3, h4⟩ := World.cells?_some h1
          obtain ⟨y, h5, h6⟩ := he H enc w base n held _ _ h2
          exact ⟨(y, cs'), fun _ => ⟨h3, h4, h5, h6⟩⟩
        · exact ⟨default, fun h => absurd h hi⟩
      exact ⟨fun i => Classical.choose (hex i), fun i hi => Classical.choose_spec (hex i) hi⟩
    have hget : ∀ {β : Type} (G : Nat → β) (k : Nat) (v : β), ((List.range len).map G)[k]? = some v → k < len ∧ v = G k := by
      intro β G k v hv
      rw [List.getElem?_map, Option.map_eq_some_iff] at hv
      obtain ⟨j, hj, rfl⟩ := hv
      obtain ⟨hk, rfl⟩ := List.getElem?_eq_some_iff.1 hj
      simp at hk
      simp [hk]
    refine ⟨(List.range len).map fun i => (Y i).1, ⟨some a, len, m, (List.range len).map fun i => (Y i).2, rfl, ⟨by simp, hl, by unfold maxLen at hm; omega, fun h => (by cases h), ?_⟩, by simp, ?_⟩, ?_, ?_⟩
    · intro i r hr
      obtain ⟨hi, rfl⟩ := hget (fun i => (Y i).2) i r hr
      obtain ⟨g1, g2, _, _⟩ := hY i hi
      obtain ⟨q1, q2, _, _⟩ := hY 0 (by omega)
      have hlt : 0 < (Y 0).2.length := by omega
      have h0 := q2 0 hk
      rw [List.getElem?_eq_getElem hlt] at h0
      have ha : (a.add (0 * k)).add 0 = a := by simp [Addr.add]
      rw [ha] at h0
      obtain ⟨hs, hblk⟩ := cell_block h0
      obtain ⟨b, o, sp⟩ := a
      simp only at hs hblk
      subst hs
      refine ⟨g1, b, o, rfl, hblk, ?_⟩
      intro j y hj
      have hjk : j < k := by
        have := (List.getElem?_eq_some_iff.1 hj).1
        omega
      have := g2 j hjk
      rw [Addr.add_lit, Addr.add_lit] at this
      rw [this]
      exact hj
    · intro i v y hv hy
      obtain ⟨hi, rfl⟩ := hget (fun i => (Y i).2) i v hv
      obtain ⟨_, rfl⟩ := hget (fun i => (Y i).1) i y hy
      exact (hY i hi).2.2.1
    · simp only [Rows.uptoBulk]
      have := bulk_sum (List.range len) D (fun i => (Y i).1) f (fun i hi => (hY i (by simpa using hi)).2.2.2)
      omega
    · intro hw
      have h1 := List.all_eq_true.1 hw ((len + (m - len)) * P.bytesOf e) (by simp [DataW.weights, ht])
      simp only [decide_eq_true_eq] at h1
      unfold reachBytes at h1
      simp only [List.length_map, List.length_range]
      refine Nat.le_trans (Nat.mul_le_mul_right _ (Nat.le_add_right len (m - len))) (Nat.le_trans h1 (by decide))


open Keep in
def KeptR (w : World) (v : List Value) (y : Kp) : Prop := ∃ u0 u1, v = [u0, u1] ∧ SlOf (SlOf IntR) w [u0] y.1 ∧ SlOf IntR w [u1] y.2

open Keep in
/-- The bulk of what is kept. -/
def bulkK (k : Kp) : Nat := bulkRows k.1 + bulkInts k.2 + 1
open Keep in
def bulkKept (l : List Kp) : Nat := (l.map bulkK).sum + 1

open Keep in
theorem bulkKept_len (l : List Kp) : l.length + 1 ≤ bulkKept l ∧ sz l + 1 ≤ bulkKept l ∧ ∀ k ∈ l, k.1.length + 1 ≤ bulkKept l ∧ k.2.length + 1 ≤ bulkKept l ∧ ∀ x ∈ k.1, x.length + 1 ≤ bulkKept l := by
  unfold bulkKept
  induction l with
  | nil => simp [sz]
  | cons k r ih =>
    have h1 := bulkRows_len k.1
    have h2 := bulkInts_eq k.2
    unfold sz at *
    simp only [List.map_cons, List.sum_cons, List.length_cons, List.mem_cons]
    have hk : bulkK k = bulkRows k.1 + bulkInts k.2 + 1 := rfl
    refine ⟨by omega, by omega, fun y hy => ?_⟩
    rcases hy with rfl | hy
    · exact ⟨by omega, by omega, fun x hx => by have := h1.2 x hx; omega⟩
    · have := ih.2.2 y hy
      exact ⟨by omega, by omega, fun x hx => by have := this.2.2 x hx; omega⟩

open Keep in
theorem kept_of {w : World} {cs : List Value} {l : List Kp} (h : SlOfK 2 KeptR w cs l) : ∃ a c vs, cs = [.slice a l.length c] ∧ SlK w a l.length c vs l ∧ ∀ k ∈ l, (∀ x ∈ k.1, Clause.Wf x) ∧ Clause.Wf k.2 := by
  obtain ⟨a, n, c, vs, rfl, hs, hn, hr⟩ := h
  subst hn
  refine ⟨a, c, vs, rfl, ⟨hs, rfl, fun i v k hv hk => ?_⟩, fun k hk => ?_⟩
  · obtain ⟨u0, u1, rfl, h0, h1⟩ := hr i v k hv hk
    obtain ⟨a1, c1, vals, e1, s1, _⟩ := rows_of h0
    obtain ⟨a2, c2, e2, s2, _⟩ := ints_of h1
    simp only [List.cons.injEq, and_true] at e1 e2
    subst e1 e2
    exact ⟨a1, c1, vals, a2, c2, rfl, s1, s2⟩
  · obtain ⟨i, hi, rfl⟩ := List.mem_iff_getElem.1 hk
    have h1 : i < vs.length := by have := hs.len; omega
    obtain ⟨u0, u1, _, h0, h1⟩ := hr i _ _ (List.getElem?_eq_getElem h1) (List.getElem?_eq_getElem hi)
    obtain ⟨_, _, _, _, _, w1⟩ := rows_of h0
    obtain ⟨_, _, _, _, w2⟩ := ints_of h1
    exact ⟨w1, w2⟩

theorem kept_type : fields Try.prog 34 = some [(23, 0), (24, 1)] := by kernel_rfl

open Keep in
set_option maxRecDepth 100000 in
theorem reads_kept : Reads Try.prog 34 KeptR bulkK := by
  have c1 : Try.prog.cellsOf 3 = 1 := by kernel_rfl
  have c2 : Try.prog.cellsOf 24 = 1 := by kernel_rfl
  have c3 : Try.prog.cellsOf 23 = 1 := by kernel_rfl
  have ck : Try.prog.cellsOf 34 = 2 := by kernel_rfl
  have rint : Reads Try.prog 3 IntR (fun _ => 1) := reads_int (by kernel_rfl)
  have rints : Reads Try.prog 24 (SlOf IntR) bulkInts := reads_slice1 (e := 3) (by kernel_rfl) c1 rint
  have rrows : Reads Try.prog 23 (SlOf (SlOf IntR)) bulkRows := reads_slice1 (e := 24) (by kernel_rfl) c2 rints
  intro H enc w base fuel held cs x h
  obtain ⟨xs, n, hx, hl, hlen, hf⟩ := trod_fields kept_type h
  rw [ck] at hl
  match cs, hl with
  | [u0, u1], _ =>
    obtain ⟨y0, hy0, e0⟩ := hf 0 23 0 rfl
    obtain ⟨y1, hy1, e1⟩ := hf 1 24 1 rfl
    rw [c3] at e0
    rw [c2] at e1
    obtain ⟨z0, r0, b0⟩ := rrows H enc w base n held _ _ e0
    obtain ⟨z1, r1, b1⟩ := rints H enc w base n held _ _ e1
    refine ⟨(z0, z1), ⟨u0, u1, rfl, r0, r1⟩, ?_⟩
    match xs, hlen, hy0, hy1 with
    | [q0, q1], _, hy0, hy1 =>
      simp at hy0 hy1
      subst hy0 hy1
      rw [hx]
      simp only [Rows.uptoBulk, Rows.uptoBulkAll, List.map_cons, List.map_nil]
      unfold bulkK
      simp only
      omega

open Keep in
set_option maxRecDepth 100000 in
theorem open_kept {H : Type} {enc : TypeId × Value → H} {w : World} {base : Nat} {held : Bool} {v : Value} {d : DataW H} {p : List MemPlace}
    (hv : ∃ a n c, v = .slice a n c) (h : DataW.Trod enc Try.prog w base (fun _ => true) held 22 v d p) :
    ∃ a c vs l, v = .slice a l.length c ∧ SlK w a l.length c vs l ∧ (∀ k ∈ l, (∀ x ∈ k.1, Clause.Wf x) ∧ Clause.Wf k.2) ∧ bulkKept l ≤ Rows.uptoBulk d := by
  obtain ⟨a, n, c, rfl⟩ := hv
  have ck : Try.prog.cellsOf 34 = 2 := by kernel_rfl
  obtain ⟨fuel, hf⟩ := h
  obtain ⟨l, hs, hb, _⟩ := reads_sliceK (e := 34) (k := 2) (by kernel_rfl) (by decide) ck reads_kept H enc w base fuel held _ _ hf
  obtain ⟨a', c', vs, e, hk, hw⟩ := kept_of hs
  simp [Value.cells] at e
  obtain ⟨rfl, rfl, rfl⟩ := e
  exact ⟨a, c, vs, l, rfl, hk, hw, hb⟩
end Go.Proofs.Ytdpmfcfelncbeaa.Open
