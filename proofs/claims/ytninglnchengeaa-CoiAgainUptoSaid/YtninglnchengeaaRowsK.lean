/-
  Rows of k cells in a block of one's own: read, written, cleared. No program's function.
-/
import Derived.Test.YtninglnchengeaaTrip
import Derived.Lib.SliceRun
namespace Go.Proofs.Ytninglnchengeaa
open Go.RowKit Base
set_option linter.unusedVariables false
set_option linter.unusedSimpArgs false
namespace RowsK

theorem grown_below {w w1 w2 : World} {ob : Option Nat} (h : w.grownBy w1 ob) (hb : Below w1.heap.size w1 w2) : w.grownBy w2 ob :=
  ⟨hb.os.trans h.os, hb.tape.trans h.tape, hb.output.trans h.output, Nat.le_trans h.size hb.size, fun k hk hne => (hb.block k (Nat.lt_of_lt_of_le hk h.size)).trans (h.block k hk hne)⟩

theorem grown_of_below {w w1 : World} {ob : Option Nat} (hb : Below w.heap.size w w1) : w.grownBy w1 ob :=
  ⟨hb.os, hb.tape, hb.output, hb.size, fun k hk _ => hb.block k hk⟩

theorem grown_set {w w1 : World} {G : Nat} (h : w.grownBy w1 (some G)) (i : Nat) (u : Value) : w.grownBy (w1.setCell ⟨G, i, none⟩ u) (some G) := by
  refine ⟨h.os, h.tape, h.output, by simpa [World.setCell] using h.size, fun k hk hne => ?_⟩
  have hk' : G ≠ k := fun e => hne (by rw [e])
  rw [← h.block k hk hne]
  simp [World.setCell, Array.getElem?_modify, hk']

theorem grown_sets {w : World} {G : Nat} : ∀ (vs : List Value) (w1 : World) (o : Nat), w.grownBy w1 (some G) → w.grownBy (w1.setCells G o vs) (some G) := by
  intro vs
  induction vs with
  | nil => intro w1 o h; exact h
  | cons v r ih => intro w1 o h; exact ih _ _ (grown_set h o v)

def chunk (k : Nat) : Nat → List Value → List (List Value)
  | 0, _ => []
  | c + 1, l => l.take k :: chunk k c (l.drop k)

theorem chunk_len (k c : Nat) (l : List Value) : (chunk k c l).length = c := by
  induction c generalizing l with
  | zero => rfl
  | succ c ih => simp [chunk, ih]

theorem chunk_row {k c : Nat} {l : List Value} (h : l.length = c * k) : ∀ r ∈ chunk k c l, r.length = k := by
  induction c generalizing l with
  | zero => intro r hr; cases hr
  | succ c ih =>
    rw [Nat.succ_mul] at h
    intro r hr
    rcases List.mem_cons.1 hr with rfl | hr
    · rw [List.length_take]; omega
    · exact ih (by rw [List.length_drop]; omega) r hr

theorem chunk_flat {k c : Nat} {l : List Value} (h : l.length = c * k) : (chunk k c l).flatten = l := by
  induction c generalizing l with
  | zero => rw [Nat.zero_mul] at h; rw [List.eq_nil_of_length_eq_zero h]; rfl
  | succ c ih =>
    rw [Nat.succ_mul] at h
    show l.take k ++ (chunk k c (l.drop k)).flatten = l
    rw [ih (by rw [List.length_drop]; omega), List.take_append_drop]

theorem chunk_take {k c n : Nat} {l : List Value} {vs : List (List Value)} (h : l.length = c * k) (hn : n ≤ c) (hr : ∀ r ∈ vs, r.length = k) (hv : vs.length = n) (ht : l.take (n * k) = vs.flatten) : (chunk k c l).take n = vs := by
  induction vs generalizing n c l with
  | nil => subst hv; rfl
  | cons x r ih =>
    cases n with
    | zero => simp at hv
    | succ n =>
      cases c with
      | zero => omega
      | succ c =>
        have hx := hr x List.mem_cons_self
        rw [Nat.succ_mul] at h ht
        rw [List.flatten_cons] at ht
        have h1 : l.take k = x := by
          have h2 := congrArg (List.take k) ht
          rw [List.take_take, Nat.min_eq_left (Nat.le_add_left _ _)] at h2
          rw [h2, List.take_append_of_le_length (Nat.le_of_eq hx.symm), List.take_of_length_le (Nat.le_of_eq hx)]
        have h3 : (l.drop k).take (n * k) = r.flatten := by
          have h2 := congrArg (List.drop k) ht
          rw [List.drop_take, Nat.add_sub_cancel] at h2
          rw [h2, List.drop_append_of_le_length (Nat.le_of_eq hx.symm), List.drop_of_length_le (Nat.le_of_eq hx), List.nil_append]
        show l.take k :: (chunk k c (l.drop k)).take n = x :: r
        rw [h1, ih (by rw [List.length_drop]; omega) (by omega) (fun y hy => hr y (List.mem_cons_of_mem _ hy)) (by simpa using hv) h3]

theorem flat_take {k : Nat} {vs : List (List Value)} (h : ∀ r ∈ vs, r.length = k) (i : Nat) (hi : i ≤ vs.length) : (vs.take i).flatten = vs.flatten.take (i * k) := by
  induction vs generalizing i with
  | nil => simp
  | cons x r ih =>
    have hx := h x List.mem_cons_self
    cases i with
    | zero => simp
    | succ i =>
      rw [List.take_succ_cons, List.flatten_cons, List.flatten_cons, ih (fun y hy => h y (List.mem_cons_of_mem _ hy)) i (by simpa using hi), List.take_append, hx, Nat.succ_mul, Nat.add_sub_cancel, List.take_of_length_le (l := x) (by omega)]

/-- Cells written, one behind another. -/
def write : List Value → Nat → List Value → List Value
  | l, _, [] => l
  | l, o, v :: r => write (l.set o v) (o + 1) r

theorem write_len (u : List Value) : ∀ (l : List Value) (o : Nat), (write l o u).length = l.length := by
  induction u with
  | nil => intro l o; rfl
  | cons v r ih => intro l o; show (write (l.set o v) (o + 1) r).length = _; rw [ih]; simp

theorem write_take (u : List Value) : ∀ (l : List Value) (o p : Nat), p ≤ o → (write l o u).take p = l.take p := by
  induction u with
  | nil => intro l o p h; rfl
  | cons v r ih =>
    intro l o p h
    show (write (l.set o v) (o + 1) r).take p = _
    rw [ih _ _ _ (by omega), List.take_set_of_le h]

theorem write_pre (u : List Value) : ∀ (pre x rest : List Value), x.length = u.length → write (pre ++ x ++ rest) pre.length u = pre ++ u ++ rest := by
  induction u with
  | nil =>
    intro pre x rest h
    rw [List.eq_nil_of_length_eq_zero h]
    rfl
  | cons v r ih =>
    intro pre x rest h
    cases x with
    | nil => simp at h
    | cons y x =>
      show write ((pre ++ (y :: x) ++ rest).set pre.length v) (pre.length + 1) r = _
      have e : (pre ++ (y :: x) ++ rest).set pre.length v = (pre ++ [v]) ++ x ++ rest := by
        rw [List.append_assoc, List.set_append_right _ _ (Nat.le_refl _), Nat.sub_self]
        simp
      have h2 := ih (pre ++ [v]) x rest (by simpa using h)
      rw [List.length_append] at h2
      rw [e]
      refine h2.trans ?_
      simp

theorem write_row {k : Nat} {u : List Value} (hu : u.length = k) : ∀ (arr : List (List Value)) (i : Nat), (∀ r ∈ arr, r.length = k) → i < arr.length → write arr.flatten (i * k) u = (arr.set i u).flatten := by
  intro arr i hr hi
  have h1 : arr.flatten = (arr.take i).flatten ++ arr[i] ++ (arr.drop (i + 1)).flatten := by
    conv => lhs; rw [← List.take_append_drop i arr, List.drop_eq_getElem_cons hi, List.flatten_append, List.flatten_cons, ← List.append_assoc]
  have h2 : (arr.take i).flatten.length = i * k := by
    rw [flat_len (k := k) (fun r h => hr r (List.mem_of_mem_take h)), List.length_take, Nat.min_eq_left (Nat.le_of_lt hi)]
  have h3 := write_pre u (arr.take i).flatten arr[i] (arr.drop (i + 1)).flatten (by rw [hr _ (List.getElem_mem hi), hu])
  rw [h2, ← h1] at h3
  rw [h3, List.set_eq_take_append_cons_drop, if_pos hi, List.flatten_append, List.flatten_cons, List.append_assoc]

/-- A block that is a row of rows. -/
def RowsAt (w : World) (G : Nat) (e : TypeId) (k c : Nat) (arr : List (List Value)) : Prop :=
  ∃ cur : Array Value, w.heap[G]? = some (.cells cur e (0, 0)) ∧ cur.toList = arr.flatten ∧ arr.length = c ∧ ∀ r ∈ arr, r.length = k

theorem RowsAt.len {w : World} {G : Nat} {e : TypeId} {k c : Nat} {arr : List (List Value)} (h : RowsAt w G e k c arr) : arr.length = c := by
  obtain ⟨_, _, _, h, _⟩ := h; exact h
theorem RowsAt.row {w : World} {G : Nat} {e : TypeId} {k c : Nat} {arr : List (List Value)} (h : RowsAt w G e k c arr) : ∀ r ∈ arr, r.length = k := by
  obtain ⟨_, _, _, _, h⟩ := h; exact h
theorem RowsAt.lt {w : World} {G : Nat} {e : TypeId} {k c : Nat} {arr : List (List Value)} (h : RowsAt w G e k c arr) : G < w.heap.size := by
  obtain ⟨cur, hh, _⟩ := h
  exact (Array.getElem?_eq_some_iff.1 hh).1
theorem RowsAt.cell {w : World} {G : Nat} {e : TypeId} {k c : Nat} {arr : List (List Value)} (h : RowsAt w G e k c arr) {i : Nat} {r : List Value} (hr : arr[i]? = some r) {j : Nat} {x : Value} (hx : r[j]? = some x) : w.cell? ⟨G, i * k + j, none⟩ = some x := by
  obtain ⟨cur, hh, hf, hl, hk⟩ := h
  have hj : j < k := by
    have h1 := (List.getElem?_eq_some_iff.1 hx).1
    rw [hk r (List.mem_of_getElem? hr)] at h1
    exact h1
  rw [cell_of_row _ G (i * k + j) cur e _ hh, ← Array.getElem?_toList, hf, flat_at hk i j hj, hr]
  exact hx
theorem RowsAt.isSome {w : World} {G : Nat} {e : TypeId} {k c : Nat} {arr : List (List Value)} (h : RowsAt w G e k c arr) {t : Nat} (ht : t < c * k) : (w.cell? ⟨G, t, none⟩).isSome = true := by
  obtain ⟨cur, hh, hf, hl, hk⟩ := h
  rw [cell_of_row _ G t cur e _ hh, ← Array.getElem?_toList, hf, List.getElem?_eq_getElem (by rw [flat_len hk, hl]; exact ht)]
  rfl
theorem RowsAt.frozen {w : World} {G : Nat} {e : TypeId} {k c : Nat} {arr : List (List Value)} (h : RowsAt w G e k c arr) (i : Nat) : w.frozen? ⟨G, i, none⟩ = false := by
  obtain ⟨cur, hh, _⟩ := h
  simp [World.frozen?, hh]
theorem RowsAt.next {w w' : World} {G : Nat} {e : TypeId} {k c : Nat} {arr : List (List Value)} (h : RowsAt w G e k c arr) (hb : Below w.heap.size w w') : RowsAt w' G e k c arr := by
  have hl := h.lt
  obtain ⟨cur, hh, h2⟩ := h
  exact ⟨cur, by rw [hb.block G hl]; exact hh, h2⟩

theorem sets_block {G : Nat} {e : TypeId} : ∀ (u : List Value) (w : World) (o : Nat) (cur : Array Value), w.heap[G]? = some (.cells cur e (0, 0)) → ∃ cur', (w.setCells G o u).heap[G]? = some (.cells cur' e (0, 0)) ∧ cur'.toList = write cur.toList o u := by
  intro u
  induction u with
  | nil => intro w o cur h; exact ⟨cur, h, rfl⟩
  | cons v r ih =>
    intro w o cur h
    have h1 : (w.setCell ⟨G, o, none⟩ v).heap[G]? = .some (.cells (cur.setIfInBounds o v) e (0, 0)) := by
      simp [World.setCell, Array.getElem?_modify, h]
    obtain ⟨cur', h2, h3⟩ := ih (w.setCell ⟨G, o, none⟩ v) (o + 1) _ h1
    refine ⟨cur', h2, ?_⟩
    rw [h3]
    simp [write]

theorem RowsAt.set {w : World} {G : Nat} {e : TypeId} {k c : Nat} {arr : List (List Value)} (h : RowsAt w G e k c arr) {i : Nat} (hi : i < c) {u : List Value} (hu : u.length = k) : RowsAt (w.setCells G (i * k) u) G e k c (arr.set i u) := by
  obtain ⟨cur, hh, hf, hl, hk⟩ := h
  obtain ⟨cur', h1, h2⟩ := sets_block u w (i * k) cur hh
  refine ⟨cur', h1, ?_, by simpa using hl, fun r hr => ?_⟩
  · rw [h2, hf, write_row hu arr i hk (by omega)]
  · rcases List.mem_or_eq_of_mem_set hr with hr | rfl
    · exact hk r hr
    · exact hu

theorem RowsAt.wipe {w : World} {G : Nat} {e : TypeId} {k c : Nat} {arr : List (List Value)} (h : RowsAt w G e k c arr) {i : Nat} (hi : i ≤ c) (u : List Value) : ∃ arr', RowsAt (w.setCells G (i * k) u) G e k c arr' ∧ arr'.take i = arr.take i := by
  obtain ⟨cur, hh, hf, hl, hk⟩ := h
  obtain ⟨cur', h1, h2⟩ := sets_block u w (i * k) cur hh
  have hlen : cur'.toList.length = c * k := by rw [h2, write_len, hf, flat_len hk, hl]
  refine ⟨chunk k c cur'.toList, ⟨cur', h1, (chunk_flat hlen).symm, chunk_len _ _ _, chunk_row hlen⟩, ?_⟩
  refine chunk_take hlen hi (fun r hr => hk r (List.mem_of_mem_take hr)) (by rw [List.length_take, hl]; omega) ?_
  rw [h2, write_take _ _ _ _ (Nat.le_refl _), hf, flat_take hk i (by omega)]

/-- What is owned, as rows. -/
theorem of_own {w : World} {B : Nat} {e : TypeId} {k : Nat} {a : Option Addr} {n c : Nat} {vs : List (List Value)} (h : w.ownsRow B e k (.slice a n c) n vs.flatten) (hr : ∀ r ∈ vs, r.length = k) (hv : vs.length = n) :
    (a = none ∧ n = 0 ∧ c = 0) ∨ ∃ G arr, a = some ⟨G, 0, none⟩ ∧ B ≤ G ∧ n ≤ c ∧ c ≤ maxLen ∧ RowsAt w G e k c arr ∧ arr.take n = vs := by
  rcases h.2 with ⟨hv', hnil⟩ | ⟨g, cap, cur, hv', hgB, hh, q1, q2, q3, q4⟩
  · simp only [Value.slice.injEq] at hv'
    exact .inl hv'
  · simp only [Value.slice.injEq, true_and] at hv'
    obtain ⟨rfl, rfl⟩ := hv'
    have hlen : cur.toList.length = c * k := by rw [Array.length_toList, q3]
    exact .inr ⟨g, chunk k c cur.toList, rfl, hgB, q1, q2, ⟨cur, hh, (chunk_flat hlen).symm, chunk_len _ _ _, chunk_row hlen⟩, chunk_take hlen q1 hr hv q4⟩

theorem RowsAt.own {w : World} {G : Nat} {e : TypeId} {k c : Nat} {arr : List (List Value)} (h : RowsAt w G e k c arr) {B i : Nat} (hB : B ≤ G) (hi : i ≤ c) (hc : c ≤ maxLen) : w.ownsRow B e k (.slice (some ⟨G, 0, none⟩) i c) i (arr.take i).flatten := by
  obtain ⟨cur, hh, hf, hl, hk⟩ := h
  have h1 := flat_take hk i (by omega)
  refine ⟨?_, .inr ⟨G, c, cur, rfl, hB, hh, hi, hc, ?_, ?_⟩⟩
  · rw [flat_len (k := k) (fun r hr => hk r (List.mem_of_mem_take hr)), List.length_take, hl, Nat.min_eq_left hi]
  · rw [← Array.length_toList, hf, flat_len hk, hl]
  · rw [hf, h1]

/-- 'clear' of a slice of structs. -/
theorem run_clear {P : Program} (w : World) (t e ty : TypeId) (z : Value) (ht : P.underlying t = some (.slice e)) (hv : ∀ w, (zeroValue e).run P w = .ok z w) (k : Nat) (hz : z.cells.size = k) (h1 : ∀ v ∈ z.cells.toList, v.oneCell' = true) (hk : 0 < k) (b o n c : Nat) (hn : 0 < n)
    (hc : ∀ j, j < n * k → (w.cell? ⟨b, o + j, none⟩).isSome = true) (hf : ∀ j, j < n * k → w.frozen? ⟨b, o + j, none⟩ = false) :
    (Builtin.clear_ #[t] ty #[.slice (some ⟨b, o, none⟩) n c]).run P w = .ok (.tuple #[]) (w.setCells b o (Builtin.zeroCells z.cells n).toList) := by
  have hlen : (Builtin.zeroCells z.cells n).toList.length = n * k := by simp [Builtin.zeroCells, hz]
  have hst := run_storeCells_cells (P := P) b o (Builtin.zeroCells z.cells n).toList 0 w (by rw [hlen]; simpa using hc) (by rw [hlen]; simpa using hf) (by
    intro v hv'
    simp only [Builtin.zeroCells, Array.toList_map, List.mem_map] at hv'
    obtain ⟨i, _, rfl⟩ := hv'
    have hi : i % z.cells.size < z.cells.size := Nat.mod_lt _ (by omega)
    rw [getElem!_pos z.cells (i % z.cells.size) hi]
    exact h1 _ (Array.getElem_mem_toList hi))
  simp only [Nat.add_zero] at hst
  obtain ⟨m, rfl⟩ : ∃ m, n = m + 1 := ⟨n - 1, by omega⟩
  simp [Builtin.clear_, run_underlying ht, hv, hst]

/-! ### What is kept. -/
/-- What is kept of the first j. -/
def kp {α : Type} (p : α → Bool) (ps : List (List Value × α)) (j : Nat) : List (List Value × α) := (ps.take j).filter fun q => !p q.2

theorem kp_more {α : Type} {p : α → Bool} {ps : List (List Value × α)} {j : Nat} (hj : j < ps.length) : kp p ps (j + 1) = kp p ps j ++ (if p ps[j].2 = true then [] else [ps[j]]) := by
  unfold kp
  rw [List.take_succ_eq_append_getElem hj, List.filter_append]
  cases h : p ps[j].2 <;> simp [h]

theorem kp_len {α : Type} (p : α → Bool) (ps : List (List Value × α)) (j : Nat) : (kp p ps j).length ≤ j := by
  have := List.length_filter_le (fun q : List Value × α => !p q.2) (ps.take j)
  rw [List.length_take] at this
  unfold kp
  omega

theorem kp_snd {α : Type} {p : α → Bool} {vals : List (List Value)} {xs : List α} (h : vals.length = xs.length) : (kp p (vals.zip xs) xs.length).map Prod.snd = xs.filter fun x => !p x := by
  unfold kp
  rw [List.take_of_length_le (by rw [List.length_zip]; omega)]
  induction vals generalizing xs with
  | nil => cases xs with
    | nil => rfl
    | cons y r => simp at h
  | cons x r ih =>
    cases xs with
    | nil => simp at h
    | cons y q =>
      have := ih (xs := q) (by simpa using h)
      cases hp : p y <;> simp [List.filter_cons, hp, this]

theorem kp_first {α : Type} {p : α → Bool} {vals : List (List Value)} {xs : List α} {k0 : Nat} (h : vals.length = xs.length) (hk0 : k0 < xs.length) (ht : p xs[k0] = true) (hall : ∀ b ∈ (xs.map p).take k0, b = false) : kp p (vals.zip xs) (k0 + 1) = (vals.zip xs).take k0 := by
  have hkz : k0 < (vals.zip xs).length := by rw [List.length_zip]; omega
  rw [kp_more hkz]
  have hp0 : p (vals.zip xs)[k0].2 = true := by
    rw [List.getElem_zip]
    simpa using ht
  rw [if_pos hp0, List.append_nil]
  unfold kp
  rw [List.filter_eq_self]
  intro q hq
  obtain ⟨i, hi, rfl⟩ := List.getElem_of_mem hq
  rw [List.length_take] at hi
  rw [List.getElem_take, List.getElem_zip]
  have hm : p (xs[i]'(by omega)) ∈ (xs.map p).take k0 := by
    refine List.mem_iff_getElem.2 ⟨i, by rw [List.length_take, List.length_map]; omega, ?_⟩
    rw [List.getElem_take, List.getElem_map]
  rw [hall _ hm]
  rfl

theorem idx_cases (ps : List Bool) : ∀ k, (idx id ps k = -1 ∧ ∀ b ∈ ps, b = false) ∨ ∃ i, ∃ h : i < ps.length, idx id ps k = ((k + i : Nat) : Int) ∧ ps[i] = true ∧ ∀ b ∈ ps.take i, b = false := by
  induction ps with
  | nil => intro k; exact .inl ⟨rfl, by simp⟩
  | cons b r ih =>
    intro k
    cases hb : b
    · rcases ih (k + 1) with ⟨h1, h2⟩ | ⟨i, hi, h1, h2, h3⟩
      · exact .inl ⟨by unfold idx; simpa using h1, by intro c hc; rcases List.mem_cons.1 hc with rfl | hc; rfl; exact h2 c hc⟩
      · refine .inr ⟨i + 1, by simpa using hi, ?_, by simpa using h2, ?_⟩
        · unfold idx
          simp only [id_eq, Bool.false_eq_true, if_false]
          rw [h1]; congr 1; omega
        · intro c hc
          rw [List.take_succ_cons] at hc
          rcases List.mem_cons.1 hc with rfl | hc
          · rfl
          · exact h3 c hc
    · exact .inr ⟨0, by simp, by unfold idx; simp, rfl, by simp⟩

theorem kp_all {α : Type} {p : α → Bool} {xs : List α} (hall : ∀ b ∈ xs.map p, b = false) : xs.filter (fun x => !p x) = xs := by
  rw [List.filter_eq_self]
  intro x hx
  rw [hall (p x) (List.mem_map.2 ⟨x, hx, rfl⟩)]
  rfl

/-- A row that was kept is one of those that were there. -/
theorem kp_mem {α : Type} {p : α → Bool} {vals : List (List Value)} {xs : List α} {j k : Nat} {v : List Value} {x : α} (hv : ((kp p (vals.zip xs) j).map Prod.fst)[k]? = some v) (hx : ((kp p (vals.zip xs) j).map Prod.snd)[k]? = some x) : ∃ i : Nat, vals[i]? = some v ∧ xs[i]? = some x := by
  rw [List.getElem?_map, Option.map_eq_some_iff] at hv hx
  obtain ⟨q, hq, rfl⟩ := hv
  obtain ⟨q', hq', rfl⟩ := hx
  rw [hq] at hq'
  simp only [Option.some.injEq] at hq'
  subst hq'
  have hm : q ∈ vals.zip xs := List.mem_of_mem_take (List.mem_filter.1 (List.mem_of_getElem? hq)).1
  obtain ⟨i, hi, hqe⟩ := List.getElem_of_mem hm
  rw [List.getElem_zip] at hqe
  rw [List.length_zip] at hi
  refine ⟨i, ?_, ?_⟩
  · rw [List.getElem?_eq_getElem (by omega), ← hqe]
  · rw [List.getElem?_eq_getElem (by omega), ← hqe]
end RowsK
end Go.Proofs.Ytninglnchengeaa
