/-
  What comes in, opened: integers, rows of them, structs.
-/
import Derived.Test.YtjmmhbmbafjneaaGreatDoorLaws
import Derived.Test.YtjmmhbmbafjneaaGreatDoorFrame
import Derived.Test.YtjmmhbmbafjneaaGreatDoorAbsP
import Derived.Deep.Slices
import Derived.SizedLaws
namespace Go.Proofs.YtjmmhbmbafjneaaGreatDoor.Open
open Go.ChangeShapes Go.WideShapes Go.ChangeAt Go.RowKit Go.Deep Base
set_option linter.unusedVariables false

/-- Whatever is read at t holds a y of R; and it is of a bulk of f y at least. -/
def Reads (P : Program) (t : TypeId) {α : Type} (R : World → List Value → α → Prop) (f : α → Nat) : Prop :=
  ∀ (H : Type) (enc : TypeId × Value → H) (w : World) (base fuel : Nat) (held : Bool) (cs : List Value) (x : DataW H × List MemPlace),
    DataW.trod enc P w base (fun _ => true) held fuel t cs = some x → ∃ y, R w cs y ∧ f y ≤ Rows.uptoBulk x.1

def IntR (w : World) (cs : List Value) (n : Int) : Prop := cs = [.int .i64 n] ∧ -9223372036854775808 ≤ n ∧ n ≤ 9223372036854775807

theorem wf_int {n : Int} (h : (Lit.int .i64 n).wf = true) : -9223372036854775808 ≤ n ∧ n ≤ 9223372036854775807 := by
  simp [Lit.wf, IntKind.min, IntKind.max, IntKind.signed, IntKind.bits] at h
  exact h

theorem reads_int {P : Program} {t : TypeId} (ht : P.underlying t = some (.int .i64)) : Reads P t IntR (fun _ => 1) := by
  intro H enc w base fuel held cs x h
  obtain ⟨n, rfl, rfl, hw⟩ := DataW.trod_int ht h
  exact ⟨n, ⟨rfl, wf_int hw⟩, by simp [Rows.uptoBulk]⟩

def StrR (w : World) (cs : List Value) (s : ByteArray) : Prop := cs = [.string s] ∧ s.size ≤ 9223372036854775807

theorem reads_string {P : Program} {t : TypeId} (ht : P.underlying t = some .string) : Reads P t StrR (fun s => s.size + 1) := by
  intro H enc w base fuel held cs x h
  obtain ⟨s, rfl, rfl, hs⟩ := DataW.trod_string ht h
  exact ⟨s, ⟨rfl, by unfold maxLen at hs; omega⟩, by simp [Rows.uptoBulk]⟩

def BoolR (w : World) (cs : List Value) (b : Bool) : Prop := cs = [.bool b]

theorem reads_bool {P : Program} {t : TypeId} (ht : P.underlying t = some .bool) : Reads P t BoolR (fun _ => 1) := by
  intro H enc w base fuel held cs x h
  obtain ⟨b, rfl, rfl⟩ := DataW.trod_bool ht h
  exact ⟨b, rfl, by simp [Rows.uptoBulk]⟩

/-- A slice of elements of one cell each. -/
def SlOf {α : Type} (R : World → List Value → α → Prop) (w : World) (cs : List Value) (ys : List α) : Prop :=
  ∃ a n c vs, cs = [.slice a n c] ∧ Sl w a n c vs ∧ ys.length = n ∧ ∀ (k : Nat) (v : Value) (y : α), vs[k]? = some v → ys[k]? = some y → R w [v] y

theorem cell_block {w : World} {a : Addr} {v : Value} (h : w.cell? a = some v) : a.spot = none ∧ a.block < w.heap.size := by
  unfold World.cell? at h
  split at h
  · rename_i hb
    split at h
    · cases h
    · rename_i hs
      refine ⟨by cases hq : a.spot <;> simp_all, ?_⟩
      obtain ⟨hlt, _⟩ := Array.getElem?_eq_some_iff.1 hb
      exact hlt
  · cases h

theorem bulk_sum {H : Type} {α : Type} (l : List Nat) (D : Nat → DataW H) (Y : Nat → α) (f : α → Nat) (h : ∀ i ∈ l, f (Y i) ≤ Rows.uptoBulk (D i)) :
    ((l.map Y).map f).sum ≤ Rows.uptoBulkAll (l.map D) := by
  induction l with
  | nil => simp
  | cons x r ih =>
    simp only [List.map_cons, List.sum_cons, Rows.uptoBulkAll]
    have h1 := h x List.mem_cons_self
    have h2 := ih (fun i hi => h i (List.mem_cons_of_mem _ hi))
    omega

theorem reads_slice1 {P : Program} {t e : TypeId} {α : Type} [Inhabited α] {R : World → List Value → α → Prop} {f : α → Nat} (ht : P.underlying t = some (.slice e)) (hc : P.cellsOf e = 1) (he : Reads P e R f) :
    Reads P t (SlOf R) (fun ys => (ys.map f).sum + 1) := by
  intro H enc w base fuel held cs x h
  rcases open_slice1 ht hc h with ⟨rfl, rfl⟩ | ⟨a, len, cap, m, n, V, D, Pl, rfl, hb, hl, hm, hmm, rfl, hx⟩
  · exact ⟨[], ⟨none, 0, 0, [], rfl, Sl.nil w, rfl, fun k v y h => by simp at h⟩, by simp [Rows.uptoBulk]⟩
  · simp only [if_true] at hmm
    subst hmm
    obtain ⟨Y, hY⟩ : ∃ Y : Nat → α, ∀ i, i < len → R w [V i] (Y i) ∧ f (Y i) ≤ Rows.uptoBulk (D i) := by
      have hex : ∀ i, ∃ y : α, i < len → R w [V i] y ∧ f y ≤ Rows.uptoBulk (D i) := by
        intro i
        by_cases hi : i < len
        · obtain ⟨y, h1, h2⟩ := he H enc w base n held _ _ (hx i (by omega)).2
          exact ⟨y, fun _ => ⟨h1, h2⟩⟩
        · exact ⟨default, fun h => absurd h hi⟩
      exact ⟨fun i => Classical.choose (hex i), fun i hi => Classical.choose_spec (hex i) hi⟩
    have hget : ∀ {β : Type} (G : Nat → β) (k : Nat) (v : β), ((List.range len).map G)[k]? = some v → k < len ∧ v = G k := by
      intro β G k v hv
      rw [List.getElem?_map, Option.map_eq_some_iff] at hv
      obtain ⟨j, hj, rfl⟩ := hv
      obtain ⟨hk, rfl⟩ := List.getElem?_eq_some_iff.1 hj
      simp at hk
      simp [hk]
    refine ⟨(List.range len).map Y, ⟨some a, len, m, (List.range len).map V, rfl, ⟨by simp, hl, by unfold maxLen at hm; omega, fun h => (by cases h), ?_⟩, by simp, ?_⟩, ?_⟩
    · intro k v hv
      obtain ⟨hk, rfl⟩ := hget V k v hv
      have h0 := (hx 0 (by omega)).1
      have hk' := (hx k (by omega)).1
      have ha : a.add 0 = a := by simp [Addr.add]
      rw [ha] at h0
      obtain ⟨hs, hblk⟩ := cell_block h0
      obtain ⟨b, o, sp⟩ := a
      simp only at hs hblk
      subst hs
      refine ⟨b, o, rfl, hblk, ?_⟩
      by_cases hk0 : k = 0
      · subst hk0
        simpa [Addr.add] using hk'
      · simpa [Addr.add, hk0] using hk'
    · intro k v y hv hy
      obtain ⟨hk, rfl⟩ := hget V k v hv
      obtain ⟨_, rfl⟩ := hget Y k y hy
      exact (hY k hk).1
    · simp only [Rows.uptoBulk]
      have := bulk_sum (List.range len) D Y f (fun i hi => (hY i (by simpa using hi)).2)
      omega

theorem ints_of {w : World} {cs : List Value} {xs : List Int} (h : SlOf IntR w cs xs) : ∃ a c, cs = [.slice a xs.length c] ∧ Sl w a xs.length c (ints xs) ∧ Clause.Wf xs := by
  obtain ⟨a, n, c, vs, rfl, hs, hn, hr⟩ := h
  subst hn
  have hv : vs = ints xs := by
    apply List.ext_getElem?
    intro k
    by_cases hk : k < xs.length
    · have h1 : k < vs.length := by have := hs.len; omega
      have h2 := hr k _ _ (List.getElem?_eq_getElem h1) (List.getElem?_eq_getElem hk)
      rw [List.getElem?_eq_getElem h1]
      unfold ints
      rw [List.getElem?_map, List.getElem?_eq_getElem hk]
      have := h2.1
      simp at this
      simp [this]
    · rw [List.getElem?_eq_none (by have := hs.len; omega), List.getElem?_eq_none (by rw [ints_len]; omega)]
  subst hv
  refine ⟨a, c, rfl, hs, ?_⟩
  intro x hx
  obtain ⟨k, hk, rfl⟩ := List.mem_iff_getElem.1 hx
  have h1 : k < (ints xs).length := by rw [ints_len]; exact hk
  exact (hr k _ _ (List.getElem?_eq_getElem h1) (List.getElem?_eq_getElem hk)).2

theorem rows_of {w : World} {cs : List Value} {xss : List (List Int)} (h : SlOf (SlOf IntR) w cs xss) : ∃ a c vs, cs = [.slice a xss.length c] ∧ Sl2 w a xss.length c vs xss ∧ ∀ l ∈ xss, Clause.Wf l := by
  obtain ⟨a, n, c, vs, rfl, hs, hn, hr⟩ := h
  subst hn
  refine ⟨a, c, vs, rfl, ⟨hs, rfl, fun k v xs hv hx => ?_⟩, fun l hl => ?_⟩
  · obtain ⟨a', c', e, h1, h2⟩ := ints_of (hr k v xs hv hx)
    simp at e
    exact ⟨a', c', e, h1⟩
  · obtain ⟨k, hk, rfl⟩ := List.mem_iff_getElem.1 hl
    have h1 : k < vs.length := by have := hs.len; omega
    obtain ⟨a', c', e, h3, h2⟩ := ints_of (hr k _ _ (List.getElem?_eq_getElem h1) (List.getElem?_eq_getElem hk))
    exact h2

/-- The bulk of rows. -/
def bulkInts (xs : List Int) : Nat := (xs.map fun _ => 1).sum + 1
def bulkRows (xss : List (List Int)) : Nat := (xss.map bulkInts).sum + 1

theorem bulkInts_eq (xs : List Int) : bulkInts xs = xs.length + 1 := by
  unfold bulkInts
  induction xs with
  | nil => rfl
  | cons x r ih => simp only [List.map_cons, List.sum_cons, List.length_cons] at ih ⊢; omega

theorem bulkRows_len (xss : List (List Int)) : xss.length + 1 ≤ bulkRows xss ∧ ∀ l ∈ xss, l.length + 1 ≤ bulkRows xss := by
  unfold bulkRows
  induction xss with
  | nil => simp
  | cons x r ih =>
    have hx := bulkInts_eq x
    simp only [List.map_cons, List.sum_cons, List.length_cons, List.mem_cons]
    refine ⟨by omega, fun l hl => ?_⟩
    rcases hl with rfl | hl
    · omega
    · have := ih.2 l hl; omega

theorem trod_cells {H : Type} {enc : TypeId × Value → H} {P : Program} {w : World} {base : Nat} {held : Bool} {t : TypeId} {v : Value} {d : DataW H} {p : List MemPlace} {α : Type} {R : World → List Value → α → Prop} {f : α → Nat}
    (hr : Reads P t R f) (h : DataW.Trod enc P w base (fun _ => true) held t v d p) : ∃ y, R w v.cells.toList y ∧ f y ≤ Rows.uptoBulk d := by
  obtain ⟨fuel, hf⟩ := h
  exact hr H enc w base fuel held _ _ hf

theorem open_ints {H : Type} {enc : TypeId × Value → H} {P : Program} {w : World} {base : Nat} {held : Bool} {t e : TypeId} {v : Value} {d : DataW H} {p : List MemPlace} (ht : P.underlying t = some (.slice e)) (he : P.underlying e = some (.int .i64)) (hc : P.cellsOf e = 1)
    (hv : ∃ a n c, v = .slice a n c) (h : DataW.Trod enc P w base (fun _ => true) held t v d p) :
    ∃ a c xs, v = .slice a xs.length c ∧ Sl w a xs.length c (ints xs) ∧ Clause.Wf xs ∧ bulkInts xs ≤ Rows.uptoBulk d := by
  obtain ⟨a, n, c, rfl⟩ := hv
  obtain ⟨xs, hr, hf⟩ := trod_cells (reads_slice1 ht hc (reads_int he)) h
  obtain ⟨a', c', e, h1, h2⟩ := ints_of hr
  simp [Value.cells] at e
  obtain ⟨rfl, rfl, rfl⟩ := e
  exact ⟨a, c, xs, rfl, h1, h2, hf⟩

theorem open_rows {H : Type} {enc : TypeId × Value → H} {P : Program} {w : World} {base : Nat} {held : Bool} {t e q : TypeId} {v : Value} {d : DataW H} {p : List MemPlace} (ht : P.underlying t = some (.slice e)) (he : P.underlying e = some (.slice q)) (hq : P.underlying q = some (.int .i64))
    (hc : P.cellsOf e = 1) (hcq : P.cellsOf q = 1) (hv : ∃ a n c, v = .slice a n c) (h : DataW.Trod enc P w base (fun _ => true) held t v d p) :
    ∃ a c xss vs, v = .slice a xss.length c ∧ Sl2 w a xss.length c vs xss ∧ (∀ l ∈ xss, Clause.Wf l) ∧ bulkRows xss ≤ Rows.uptoBulk d := by
  obtain ⟨a, n, c, rfl⟩ := hv
  obtain ⟨xss, hr, hf⟩ := trod_cells (reads_slice1 ht hc (reads_slice1 he hcq (reads_int hq))) h
  obtain ⟨a', c', vs, e, h1, h2⟩ := rows_of hr
  simp [Value.cells] at e
  obtain ⟨rfl, rfl, rfl⟩ := e
  exact ⟨a, c, xss, vs, rfl, h1, h2, hf⟩

/-- A slice that comes in weighs what its elements do. -/
theorem slice_sized {H : Type} {enc : TypeId × Value → H} {P : Program} {w : World} {base : Nat} {held : Bool} {t e : TypeId} {a : Option Addr} {n c : Nat} {d : DataW H} {p : List MemPlace} {ts : List TypeId} {ds : List (DataW H)} (ht : P.underlying t = some (.slice e)) (hc : P.cellsOf e = 1)
    (h : DataW.Trod enc P w base (fun _ => true) held t (.slice a n c) d p) (hsz : (DataW.weightsEach P ts ds).all (· ≤ reachBytes) = true) {j : Nat} (hj : ts[j]? = some t) (hd : ds[j]? = some d) : n * P.bytesOf e ≤ 140737488351232 := by
  obtain ⟨fuel, hf⟩ := h
  rcases open_slice1 ht hc hf with ⟨hcs, hx⟩ | ⟨a', len, cap, m, n', V, D, Pl, hcs, hb, hl, hm, hmm, hx, _⟩
  · simp [Value.cells] at hcs
    obtain ⟨_, rfl, _⟩ := hcs
    omega
  · simp [Value.cells] at hcs
    obtain ⟨_, rfl, _⟩ := hcs
    simp only [Prod.mk.injEq] at hx
    obtain ⟨hd', _⟩ := hx
    rw [hd'] at hd
    have hz := sized_slice hsz hj hd ht
    simp only [List.length_map, List.length_range] at hz
    refine Nat.le_trans (Nat.mul_le_mul_right _ (Nat.le_add_right _ _)) (Nat.le_trans hz (by decide))

/-- The types and the places of a struct's parts. -/
def fields (P : Program) (t : TypeId) : Option (List (TypeId × Nat)) :=
  match P.underlying t with
  | some (.struct fs) => some (fs.toList.map fun f => (f.type, f.offset))
  | _ => none

theorem fields_of {P : Program} {t : TypeId} {l : List (TypeId × Nat)} (h : fields P t = some l) : ∃ fs : Array Field, P.underlying t = some (.struct fs) ∧ fs.toList.map (fun f => (f.type, f.offset)) = l := by
  unfold fields at h
  split at h
  · rename_i fs hu
    exact ⟨fs, hu, by simpa using h⟩
  · cases h

theorem trod_fields {H : Type} {enc : TypeId × Value → H} {P : Program} {w : World} {base fuel : Nat} {sp : Nat → Bool} {held : Bool} {t : TypeId} {cs : List Value} {x : DataW H × List MemPlace} {l : List (TypeId × Nat)} (ht : fields P t = some l)
    (h : DataW.trod enc P w base sp held fuel t cs = some x) :
    ∃ (xs : List (DataW H × List MemPlace)) (n : Nat), x.1 = .agg (xs.map (·.1)) ∧ cs.length = P.cellsOf t ∧ xs.length = l.length ∧ ∀ (i : Nat) (ty : TypeId) (off : Nat), l[i]? = some (ty, off) → ∃ y, xs[i]? = some y ∧ DataW.trod enc P w base sp held n ty ((cs.drop off).take (P.cellsOf ty)) = some y := by
  obtain ⟨fs, hu, rfl⟩ := fields_of ht
  obtain ⟨xs, n, _, rfl, hl, hlen, hf⟩ := DataW.trod_struct hu h
  refine ⟨xs, n, rfl, hl, by simpa using hlen, fun i ty off hi => ?_⟩
  rw [List.getElem?_map, Option.map_eq_some_iff] at hi
  obtain ⟨f, hf1, hf2⟩ := hi
  simp only [Prod.mk.injEq] at hf2
  obtain ⟨rfl, rfl⟩ := hf2
  have hi : i < fs.size := by
    have := (List.getElem?_eq_some_iff.1 hf1).1
    simpa using this
  have hix : i < xs.length := by omega
  refine ⟨xs[i], List.getElem?_eq_getElem hix, ?_⟩
  have := hf i f (by simpa using hf1)
  exact this.trans (List.getElem?_eq_getElem hix)

/-- A struct of two parts. -/
theorem reads_struct2 {P : Program} {t t0 t1 : TypeId} {o0 o1 : Nat} {α β : Type} {R : World → List Value → α → Prop} {S : World → List Value → β → Prop} {f : α → Nat} {g : β → Nat} (ht : fields P t = some [(t0, o0), (t1, o1)])
    (h0 : Reads P t0 R f) (h1 : Reads P t1 S g) :
    Reads P t (fun w cs (y : α × β) => cs.length = P.cellsOf t ∧ R w ((cs.drop o0).take (P.cellsOf t0)) y.1 ∧ S w ((cs.drop o1).take (P.cellsOf t1)) y.2) (fun y => f y.1 + g y.2 + 1) := by
  intro H enc w base fuel held cs x h
  obtain ⟨xs, n, hx, hl, hlen, hf⟩ := trod_fields ht h
  obtain ⟨y0, hy0, e0⟩ := hf 0 t0 o0 rfl
  obtain ⟨y1, hy1, e1⟩ := hf 1 t1 o1 rfl
  obtain ⟨u0, r0, b0⟩ := h0 H enc w base n held _ _ e0
  obtain ⟨u1, r1, b1⟩ := h1 H enc w base n held _ _ e1
  refine ⟨(u0, u1), ⟨hl, r0, r1⟩, ?_⟩
  match xs, hlen, hy0, hy1 with
  | [z0, z1], _, hy0, hy1 =>
    simp at hy0 hy1
    subst hy0; subst hy1
    rw [hx]
    simp only [Rows.uptoBulk, Rows.uptoBulkAll, List.map_cons, List.map_nil]
    omega

end Go.Proofs.YtjmmhbmbafjneaaGreatDoor.Open
