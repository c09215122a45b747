/-
  Several texts in one (written by merge.py): XRowsK XDelK XLex XKeepDrop XRefSortP XRefSorted XSubP XRefSubs XRowsV XMix XKeepTells
-/
import Derived.Test.YtdpmfcfelncbeaaTrip
import Derived.Lib.SliceRun
import Derived.Test.YtdpmfcfelncbeaaKeepCopy
import Derived.Still
import Derived.Tactics
import Derived.Test.YtdpmfcfelncbeaaBase
import Derived.Test.YtdpmfcfelncbeaaKeepSz
import Derived.Test.YtdpmfcfelncbeaaSlfI
import Derived.Test.YtdpmfcfelncbeaaCont
import Derived.Test.YtdpmfcfelncbeaaPlainLists
import Derived.Deep.RegionHeld3
import Derived.BigQuiet
import Derived.Test.YtdpmfcfelncbeaaSortPl
import Derived.Test.YtdpmfcfelncbeaaLaws
import Derived.Test.YtdpmfcfelncbeaaAbsP
import Derived.Test.YtdpmfcfelncbeaaRefHas
import Derived.Test.YtdpmfcfelncbeaaKeepAgain
import Derived.Test.YtdpmfcfelncbeaaKeepMore
import Derived.Deep.DeepCutAuto
/-
  Rows of k cells in a block of one's own: read, written, cleared. No program's function.
-/
namespace Go.Proofs.Ytdpmfcfelncbeaa
open Go.RowKit Base
set_option linter.unusedVariables false
set_option linter.unusedSimpArgs false
namespace RowsK

theorem grown_below {w w1 w2 : World} {ob : Option Nat} (h : w.grownBy w1 ob) (hb : Below w1.heap.size w1 w2) : w.grownBy w2 ob :=
  ⟨hb.os.trans h.os, hb.tape.trans h.tape, hb.output.trans h.output, Nat.le_trans h.size hb.size, fun k hk hne => (hb.block k (Nat.lt_of_lt_of_le hk h.size)).trans (h.block k hk hne)⟩

theorem grown_of_below {w w1 : World} {ob : Option Nat} (hb : Below w.heap.size w w1) : w.grownBy w1 ob :=
  ⟨hb.os, hb.tape, hb.output, hb.size, fun k hk _ => hb.block k hk⟩

theorem grown_set {w w1 : World} {G : Nat} (h : w.grownBy w1 (some G)) (i : Nat) (u : Value) : w.grownBy (w1.setCell ⟨G, i, none⟩ u) (some G) := by
  refine ⟨h.os, h.tape, h.output, by simpa [World.setCell] using h.size, fun k hk hne => ?_⟩
  have hk' : G ≠ k := fun e => hne (by rw [e])
  rw [← h.block k hk hne]
  simp [World.setCell, Array.getElem?_modify, hk']

theorem grown_sets {w : World} {G : Nat} : ∀ (vs : List Value) (w1 : World) (o : Nat), w.grownBy w1 (some G) → w.grownBy (w1.setCells G o vs) (some G) := by
  intro vs
  induction vs with
  | nil => intro w1 o h; exact h
  | cons v r ih => intro w1 o h; exact ih _ _ (grown_set h o v)

def chunk (k : Nat) : Nat → List Value → List (List Value)
  | 0, _ => []
  | c + 1, l => l.take k :: chunk k c (l.drop k)

theorem chunk_len (k c : Nat) (l : List Value) : (chunk k c l).length = c := by
  induction c generalizing l with
  | zero => rfl
  | succ c ih => simp [chunk, ih]

theorem chunk_row {k c : Nat} {l : List Value} (h : l.length = c * k) : ∀ r ∈ chunk k c l, r.length = k := by
  induction c generalizing l with
  | zero => intro r hr; cases hr
  | succ c ih =>
    rw [Nat.succ_mul] at h
    intro r hr
    rcases List.mem_cons.1 hr with rfl | hr
    · rw [List.length_take]; omega
    · exact ih (by rw [List.length_drop]; omega) r hr

theorem chunk_flat {k c : Nat} {l : List Value} (h : l.length = c * k) : (chunk k c l).flatten = l := by
  induction c generalizing l with
  | zero => rw [Nat.zero_mul] at h; rw [List.eq_nil_of_length_eq_zero h]; rfl
  | succ c ih =>
    rw [Nat.succ_mul] at h
    show l.take k ++ (chunk k c (l.drop k)).flatten = l
    rw [ih (by rw [List.length_drop]; omega), List.take_append_drop]

theorem chunk_take {k c n : Nat} {l : List Value} {vs : List (List Value)} (h : l.length = c * k) (hn : n ≤ c) (hr : ∀ r ∈ vs, r.length = k) (hv : vs.length = n) (ht : l.take (n * k) = vs.flatten) : (chunk k c l).take n = vs := by
  induction vs generalizing n c l with
  | nil => subst hv; rfl
  | cons x r ih =>
    cases n with
    | zero => simp at hv
    | succ n =>
      cases c with
      | zero => omega
      | succ c =>
        have hx := hr x List.mem_cons_self
        rw [Nat.succ_mul] at h ht
        rw [List.flatten_cons] at ht
        have h1 : l.take k = x := by
          have h2 := congrArg (List.take k) ht
          rw [List.take_take, Nat.min_eq_left (Nat.le_add_left _ _)] at h2
          rw [h2, List.take_append_of_le_length (Nat.le_of_eq hx.symm), List.take_of_length_le (Nat.le_of_eq hx)]
        have h3 : (l.drop k).take (n * k) = r.flatten := by
          have h2 := congrArg (List.drop k) ht
          rw [List.drop_take, Nat.add_sub_cancel] at h2
          rw [h2, List.drop_append_of_le_length (Nat.le_of_eq hx.symm), List.drop_of_length_le (Nat.le_of_eq hx), List.nil_append]
        show l.take k :: (chunk k c (l.drop k)).take n = x :: r
        rw [h1, ih (by rw [List.length_drop]; omega) (by omega) (fun y hy => hr y (List.mem_cons_of_mem _ hy)) (by simpa using hv) h3]

theorem flat_take {k : Nat} {vs : List (List Value)} (h : ∀ r ∈ vs, r.length = k) (i : Nat) (hi : i ≤ vs.length) : (vs.take i).flatten = vs.flatten.take (i * k) := by
  induction vs generalizing i with
  | nil => simp
  | cons x r ih =>
    have hx := h x List.mem_cons_self
    cases i with
    | zero => simp
    | succ i =>
      rw [List.take_succ_cons, List.flatten_cons, List.flatten_cons, ih (fun y hy => h y (List.mem_cons_of_mem _ hy)) i (by simpa using hi), List.take_append, hx, Nat.succ_mul, Nat.add_sub_cancel, List.take_of_length_le (l := x) (by omega)]

/-- Cells written, one behind another. -/
def write : List Value → Nat → List Value → List Value
  | l, _, [] => l
  | l, o, v :: r => write (l.set o v) (o + 1) r

theorem write_len (u : List Value) : ∀ (l : List Value) (o : Nat), (write l o u).length = l.length := by
  induction u with
  | nil => intro l o; rfl
  | cons v r ih => intro l o; show (write (l.set o v) (o + 1) r).length = _; rw [ih]; simp

theorem write_take (u : List Value) : ∀ (l : List Value) (o p : Nat), p ≤ o → (write l o u).take p = l.take p := by
  induction u with
  | nil => intro l o p h; rfl
  | cons v r ih =>
    intro l o p h
    show (write (l.set o v) (o + 1) r).take p = _
    rw [ih _ _ _ (by omega), List.take_set_of_le h]

theorem write_pre (u : List Value) : ∀ (pre x rest : List Value), x.length = u.length → write (pre ++ x ++ rest) pre.length u = pre ++ u ++ rest := by
  induction u with
  | nil =>
    intro pre x rest h
    rw [List.eq_nil_of_length_eq_zero h]
    rfl
  | cons v r ih =>
    intro pre x rest h
    cases x with
    | nil => simp at h
    | cons y x =>
      show write ((pre ++ (y :: x) ++ rest).set pre.length v) (pre.length + 1) r = _
      have e : (pre ++ (y :: x) ++ rest).set pre.length v = (pre ++ [v]) ++ x ++ rest := by
        rw [List.append_assoc, List.set_append_right _ _ (Nat.le_refl _), Nat.sub_self]
        simp
      have h2 := ih (pre ++ [v]) x rest (by simpa using h)
      rw [List.length_append] at h2
      rw [e]
      refine h2.trans ?_
      simp

theorem write_row {k : Nat} {u : List Value} (hu : u.length = k) : ∀ (arr : List (List Value)) (i : Nat), (∀ r ∈ arr, r.length = k) → i < arr.length → write arr.flatten (i * k) u = (arr.set i u).flatten := by
  intro arr i hr hi
  have h1 : arr.flatten = (arr.take i).flatten ++ arr[i] ++ (arr.drop (i + 1)).flatten := by
    conv => lhs; rw [← List.take_append_drop i arr, List.drop_eq_getElem_cons hi, List.flatten_append, List.flatten_cons, ← List.append_assoc]
  have h2 : (arr.take i).flatten.length = i * k := by
    rw [flat_len (k := k) (fun r h => hr r (List.mem_of_mem_take h)), List.length_take, Nat.min_eq_left (Nat.le_of_lt hi)]
  have h3 := write_pre u (arr.take i).flatten arr[i] (arr.drop (i + 1)).flatten (by rw [hr _ (List.getElem_mem hi), hu])
  rw [h2, ← h1] at h3
  rw [h3, List.set_eq_take_append_cons_drop, if_pos hi, List.flatten_append, List.flatten_cons, List.append_assoc]

/-- A block that is a row of rows. -/
def RowsAt (w : World) (G : Nat) (e : TypeId) (k c : Nat) (arr : List (List Value)) : Prop :=
  ∃ cur : Array Value, w.heap[G]? = some (.cells cur e (0, 0)) ∧ cur.toList = arr.flatten ∧ arr.length = c ∧ ∀ r ∈ arr, r.length = k

theorem RowsAt.len {w : World} {G : Nat} {e : TypeId} {k c : Nat} {arr : List (List Value)} (h : RowsAt w G e k c arr) : arr.length = c := by
  obtain ⟨_, _, _, h, _⟩ := h; exact h
theorem RowsAt.row {w : World} {G : Nat} {e : TypeId} {k c : Nat} {arr : List (List Value)} (h : RowsAt w G e k c arr) : ∀ r ∈ arr, r.length = k := by
  obtain ⟨_, _, _, _, h⟩ := h; exact h
theorem RowsAt.lt {w : World} {G : Nat} {e : TypeId} {k c : Nat} {arr : List (List Value)} (h : RowsAt w G e k c arr) : G < w.heap.size := by
  obtain ⟨cur, hh, _⟩ := h
  exact (Array.getElem?_eq_some_iff.1 hh).1
theorem RowsAt.cell {w : World} {G : Nat} {e : TypeId} {k c : Nat} {arr : List (List Value)} (h : RowsAt w G e k c arr) {i : Nat} {r : List Value} (hr : arr[i]? = some r) {j : Nat} {x : Value} (hx : r[j]? = some x) : w.cell? ⟨G, i * k + j, none⟩ = some x := by
  obtain ⟨cur, hh, hf, hl, hk⟩ := h
  have hj : j < k := by
    have h1 := (List.getElem?_eq_some_iff.1 hx).1
    rw [hk r (List.mem_of_getElem? hr)] at h1
    exact h1
  rw [cell_of_row _ G (i * k + j) cur e _ hh, ← Array.getElem?_toList, hf, flat_at hk i j hj, hr]
  exact hx
theorem RowsAt.isSome {w : World} {G : Nat} {e : TypeId} {k c : Nat} {arr : List (List Value)} (h : RowsAt w G e k c arr) {t : Nat} (ht : t < c * k) : (w.cell? ⟨G, t, none⟩).isSome = true := by
  obtain ⟨cur, hh, hf, hl, hk⟩ := h
  rw [cell_of_row _ G t cur e _ hh, ← Array.getElem?_toList, hf, List.getElem?_eq_getElem (by rw [flat_len hk, hl]; exact ht)]
  rfl
theorem RowsAt.frozen {w : World} {G : Nat} {e : TypeId} {k c : Nat} {arr : List (List Value)} (h : RowsAt w G e k c arr) (i : Nat) : w.frozen? ⟨G, i, none⟩ = false := by
  obtain ⟨cur, hh, _⟩ := h
  simp [World.frozen?, hh]
theorem RowsAt.next {w w' : World} {G : Nat} {e : TypeId} {k c : Nat} {arr : List (List Value)} (h : RowsAt w G e k c arr) (hb : Below w.heap.size w w') : RowsAt w' G e k c arr := by
  have hl := h.lt
  obtain ⟨cur, hh, h2⟩ := h
  exact ⟨cur, by rw [hb.block G hl]; exact hh, h2⟩

theorem sets_block {G : Nat} {e : TypeId} : ∀ (u : List Value) (w : World) (o : Nat) (cur : Array Value), w.heap[G]? = some (.cells cur e (0, 0)) → ∃ cur', (w.setCells G o u).heap[G]? = some (.cells cur' e (0, 0)) ∧ cur'.toList = write cur.toList o u := by
  intro u
  induction u with
  | nil => intro w o cur h; exact ⟨cur, h, rfl⟩
  | cons v r ih =>
    intro w o cur h
    have h1 : (w.setCell ⟨G, o, none⟩ v).heap[G]? = .some (.cells (cur.setIfInBounds o v) e (0, 0)) := by
      simp [World.setCell, Array.getElem?_modify, h]
    obtain ⟨cur', h2, h3⟩ := ih (w.setCell ⟨G, o, none⟩ v) (o + 1) _ h1
    refine ⟨cur', h2, ?_⟩
    rw [h3]
    simp [write]

theorem RowsAt.set {w : World} {G : Nat} {e : TypeId} {k c : Nat} {arr : List (List Value)} (h : RowsAt w G e k c arr) {i : Nat} (hi : i < c) {u : List Value} (hu : u.length = k) : RowsAt (w.setCells G (i * k) u) G e k c (arr.set i u) := by
  obtain ⟨cur, hh, hf, hl, hk⟩ := h
  obtain ⟨cur', h1, h2⟩ := sets_block u w (i * k) cur hh
  refine ⟨cur', h1, ?_, by simpa using hl, fun r hr => ?_⟩
  · rw [h2, hf, write_row hu arr i hk (by omega)]
  · rcases List.mem_or_eq_of_mem_set hr with hr | rfl
    · exact hk r hr
    · exact hu

theorem RowsAt.wipe {w : World} {G : Nat} {e : TypeId} {k c : Nat} {arr : List (List Value)} (h : RowsAt w G e k c arr) {i : Nat} (hi : i ≤ c) (u : List Value) : ∃ arr', RowsAt (w.setCells G (i * k) u) G e k c arr' ∧ arr'.take i = arr.take i := by
  obtain ⟨cur, hh, hf, hl, hk⟩ := h
  obtain ⟨cur', h1, h2⟩ := sets_block u w (i * k) cur hh
  have hlen : cur'.toList.length = c * k := by rw [h2, write_len, hf, flat_len hk, hl]
  refine ⟨chunk k c cur'.toList, ⟨cur', h1, (chunk_flat hlen).symm, chunk_len _ _ _, chunk_row hlen⟩, ?_⟩
  refine chunk_take hlen hi (fun r hr => hk r (List.mem_of_mem_take hr)) (by rw [List.length_take, hl]; omega) ?_
  rw [h2, write_take _ _ _ _ (Nat.le_refl _), hf, flat_take hk i (by omega)]

/-- What is owned, as rows. -/
theorem of_own {w : World} {B : Nat} {e : TypeId} {k : Nat} {a : Option Addr} {n c : Nat} {vs : List (List Value)} (h : w.ownsRow B e k (.slice a n c) n vs.flatten) (hr : ∀ r ∈ vs, r.length = k) (hv : vs.length = n) :
    (a = none ∧ n = 0 ∧ c = 0) ∨ ∃ G arr, a = some ⟨G, 0, none⟩ ∧ B ≤ G ∧ n ≤ c ∧ c ≤ maxLen ∧ RowsAt w G e k c arr ∧ arr.take n = vs := by
  rcases h.2 with ⟨hv', hnil⟩ | ⟨g, cap, cur, hv', hgB, hh, q1, q2, q3, q4⟩
  · simp only [Value.slice.injEq] at hv'
    exact .inl hv'
  · simp only [Value.slice.injEq, true_and] at hv'
    obtain ⟨rfl, rfl⟩ := hv'
    have hlen : cur.toList.length = c * k := by rw [Array.length_toList, q3]
    exact .inr ⟨g, chunk k c cur.toList, rfl, hgB, q1, q2, ⟨cur, hh, (chunk_flat hlen).symm, chunk_len _ _ _, chunk_row hlen⟩, chunk_take hlen q1 hr hv q4⟩

theorem RowsAt.own {w : World} {G : Nat} {e : TypeId} {k c : Nat} {arr : List (List Value)} (h : RowsAt w G e k c arr) {B i : Nat} (hB : B ≤ G) (hi : i ≤ c) (hc : c ≤ maxLen) : w.ownsRow B e k (.slice (some ⟨G, 0, none⟩) i c) i (arr.take i).flatten := by
  obtain ⟨cur, hh, hf, hl, hk⟩ := h
  have h1 := flat_take hk i (by omega)
  refine ⟨?_, .inr ⟨G, c, cur, rfl, hB, hh, hi, hc, ?_, ?_⟩⟩
  · rw [flat_len (k := k) (fun r hr => hk r (List.mem_of_mem_take hr)), List.length_take, hl, Nat.min_eq_left hi]
  · rw [← Array.length_toList, hf, flat_len hk, hl]
  · rw [hf, h1]

/-- 'clear' of a slice of structs. -/
theorem run_clear {P : Program} (w : World) (t e ty : TypeId) (z : Value) (ht : P.underlying t = some (.slice e)) (hv : ∀ w, (zeroValue e).run P w = .ok z w) (k : Nat) (hz : z.cells.size = k) (h1 : ∀ v ∈ z.cells.toList, v.oneCell' = true) (hk : 0 < k) (b o n c : Nat) (hn : 0 < n)
    (hc : ∀ j, j < n * k → (w.cell? ⟨b, o + j, none⟩).isSome = true) (hf : ∀ j, j < n * k → w.frozen? ⟨b, o + j, none⟩ = false) :
    (Builtin.clear_ #[t] ty #[.slice (some ⟨b, o, none⟩) n c]).run P w = .ok (.tuple #[]) (w.setCells b o (Builtin.zeroCells z.cells n).toList) := by
  have hlen : (Builtin.zeroCells z.cells n).toList.length = n * k := by simp [Builtin.zeroCells, hz]
  have hst := run_storeCells_cells (P := P) b o (Builtin.zeroCells z.cells n).toList 0 w (by rw [hlen]; simpa using hc) (by rw [hlen]; simpa using hf) (by
    intro v hv'
    simp only [Builtin.zeroCells, Array.toList_map, List.mem_map] at hv'
    obtain ⟨i, _, rfl⟩ := hv'
    have hi : i % z.cells.size < z.cells.size := Nat.mod_lt _ (by omega)
    rw [getElem!_pos z.cells (i % z.cells.size) hi]
    exact h1 _ (Array.getElem_mem_toList hi))
  simp only [Nat.add_zero] at hst
  obtain ⟨m, rfl⟩ : ∃ m, n = m + 1 := ⟨n - 1, by omega⟩
  simp [Builtin.clear_, run_underlying ht, hv, hst]

/-! ### What is kept. -/
/-- What is kept of the first j. -/
def kp {α : Type} (p : α → Bool) (ps : List (List Value × α)) (j : Nat) : List (List Value × α) := (ps.take j).filter fun q => !p q.2

theorem kp_more {α : Type} {p : α → Bool} {ps : List (List Value × α)} {j : Nat} (hj : j < ps.length) : kp p ps (j + 1) = kp p ps j ++ (if p ps[j].2 = true then [] else [ps[j]]) := by
  unfold kp
  rw [List.take_succ_eq_append_getElem hj, List.filter_append]
  cases h : p ps[j].2 <;> simp [h]

theorem kp_len {α : Type} (p : α → Bool) (ps : List (List Value × α)) (j : Nat) : (kp p ps j).length ≤ j := by
  have := List.length_filter_le (fun q : List Value × α => !p q.2) (ps.take j)
  rw [List.length_take] at this
  unfold kp
  omega

theorem kp_snd {α : Type} {p : α → Bool} {vals : List (List Value)} {xs : List α} (h : vals.length = xs.length) : (kp p (vals.zip xs) xs.length).map Prod.snd = xs.filter fun x => !p x := by
  unfold kp
  rw [List.take_of_length_le (by rw [List.length_zip]; omega)]
  induction vals generalizing xs with
  | nil => cases xs with
    | nil => rfl
    | cons y r => simp at h
  | cons x r ih =>
    cases xs with
    | nil => simp at h
    | cons y q =>
      have := ih (xs := q) (by simpa using h)
      cases hp : p y <;> simp [List.filter_cons, hp, this]

theorem kp_first {α : Type} {p : α → Bool} {vals : List (List Value)} {xs : List α} {k0 : Nat} (h : vals.length = xs.length) (hk0 : k0 < xs.length) (ht : p xs[k0] = true) (hall : ∀ b ∈ (xs.map p).take k0, b = false) : kp p (vals.zip xs) (k0 + 1) = (vals.zip xs).take k0 := by
  have hkz : k0 < (vals.zip xs).length := by rw [List.length_zip]; omega
  rw [kp_more hkz]
  have hp0 : p (vals.zip xs)[k0].2 = true := by
    rw [List.getElem_zip]
    simpa using ht
  rw [if_pos hp0, List.append_nil]
  unfold kp
  rw [List.filter_eq_self]
  intro q hq
  obtain ⟨i, hi, rfl⟩ := List.getElem_of_mem hq
  rw [List.length_take] at hi
  rw [List.getElem_take, List.getElem_zip]
  have hm : p (xs[i]'(by omega)) ∈ (xs.map p).take k0 := by
    refine List.mem_iff_getElem.2 ⟨i, by rw [List.length_take, List.length_map]; omega, ?_⟩
    rw [List.getElem_take, List.getElem_map]
  rw [hall _ hm]
  rfl

theorem idx_cases (ps : List Bool) : ∀ k, (idx id ps k = -1 ∧ ∀ b ∈ ps, b = false) ∨ ∃ i, ∃ h : i < ps.length, idx id ps k = ((k + i : Nat) : Int) ∧ ps[i] = true ∧ ∀ b ∈ ps.take i, b = false := by
  induction ps with
  | nil => intro k; exact .inl ⟨rfl, by simp⟩
  | cons b r ih =>
    intro k
    cases hb : b
    · rcases ih (k + 1) with ⟨h1, h2⟩ | ⟨i, hi, h1, h2, h3⟩
      · exact .inl ⟨by unfold idx; simpa using h1, by intro c hc; rcases List.mem_cons.1 hc with rfl | hc; rfl; exact h2 c hc⟩
      · refine .inr ⟨i + 1, by simpa using hi, ?_, by simpa using h2, ?_⟩
        · unfold idx
          simp only [id_eq, Bool.false_eq_true, if_false]
          rw [h1]; congr 1; omega
        · intro c hc
          rw [List.take_succ_cons] at hc
          rcases List.mem_cons.1 hc with rfl | hc
          · rfl
          · exact h3 c hc
    · exact .inr ⟨0, by simp, by unfold idx; simp, rfl, by simp⟩

theorem kp_all {α : Type} {p : α → Bool} {xs : List α} (hall : ∀ b ∈ xs.map p, b = false) : xs.filter (fun x => !p x) = xs := by
  rw [List.filter_eq_self]
  intro x hx
  rw [hall (p x) (List.mem_map.2 ⟨x, hx, rfl⟩)]
  rfl

/-- A row that was kept is one of those that were there. -/
theorem kp_mem {α : Type} {p : α → Bool} {vals : List (List Value)} {xs : List α} {j k : Nat} {v : List Value} {x : α} (hv : ((kp p (vals.zip xs) j).map Prod.fst)[k]? = some v) (hx : ((kp p (vals.zip xs) j).map Prod.snd)[k]? = some x) : ∃ i : Nat, vals[i]? = some v ∧ xs[i]? = some x := by
  rw [List.getElem?_map, Option.map_eq_some_iff] at hv hx
  obtain ⟨q, hq, rfl⟩ := hv
  obtain ⟨q', hq', rfl⟩ := hx
  rw [hq] at hq'
  simp only [Option.some.injEq] at hq'
  subst hq'
  have hm : q ∈ vals.zip xs := List.mem_of_mem_take (List.mem_filter.1 (List.mem_of_getElem? hq)).1
  obtain ⟨i, hi, hqe⟩ := List.getElem_of_mem hm
  rw [List.getElem_zip] at hqe
  rw [List.length_zip] at hi
  refine ⟨i, ?_, ?_⟩
  · rw [List.getElem?_eq_getElem (by omega), ← hqe]
  · rw [List.getElem?_eq_getElem (by omega), ← hqe]
end RowsK
end Go.Proofs.Ytdpmfcfelncbeaa

/-
  slices.DeleteFunc of []api.Kept, on a slice of the call's own; the predicate may lay blocks.
-/
namespace Go.Proofs.Ytdpmfcfelncbeaa
open Go.RowKit Base RowsK
set_option linter.unusedVariables false
set_option linter.unusedSimpArgs false
namespace Keep

def DelOut (w : World) (B : Nat) (a : Option Addr) (n c : Nat) (L : List Kp) (e : Ending) (w' : World) : Prop :=
  ∃ n' vs', e = .returned (.slice a n' c) ∧ KOwn w' B a n' c vs' L ∧ w.grownBy w' (Value.slice a n c).ownBlock

set_option maxRecDepth 4000 in
set_option maxHeartbeats 8000000 in
theorem delK_own (w : World) (B : Nat) (a : Option Addr) (n c : Nat) (vs : List (List Value)) (l : List Kp) (hown : KOwn w B a n c vs l) (hB : B ≤ w.heap.size)
    (g : FuncId) (lb : Array Value) (p : Kp → Bool) (eg : Enters g)
    (hg : ∀ W, w.grownBy W (Value.slice a n c).ownBlock → ∀ (i : Nat) (k : Kp) (a1 : Option Addr) (c1 : Nat) (vals : List Value) (a2 : Option Addr) (c2 : Nat), l[i]? = some k → Sl2 W a1 k.1.length c1 vals k.1 → Sl W a2 k.2.length c2 (ints k.2) → Calls Try.prog g (#[.agg #[.slice a1 k.1.length c1, .slice a2 k.2.length c2]] ++ lb) W fun e w' => e = .returned (.bool (p k)) ∧ Below W.heap.size W w') :
    Calls Try.prog 30 #[.slice a n c, .func (.func g) #[] lb] w (DelOut w B a n c (l.filter fun x => !p x)) := by
  have hvl := hown.vlen
  have hxl := hown.len
  have hzl : (vs.zip l).length = n := by rw [List.length_zip, hvl, hxl, Nat.min_self]
  have IF := indexFunc w a n c vs l g #[] lb (l.map p) hown.slK (by rw [List.length_map]; exact hxl) eg (by
    intro W hW i k a1 c1 vals a2 c2 b hk hb h1 h2
    rw [List.getElem?_map, hk] at hb
    simp only [Option.map_some, Option.some.injEq] at hb
    subst hb
    exact hg W (grown_of_below hW) i k a1 c1 vals a2 c2 hk h1 h2)
  have hcap := hown.slK.sl.cap
  have hbig := hown.slK.sl.big
  have HOW := Lib.hid hown
  have HG := Lib.hid hg
  have HL := Lib.hid (And.intro hvl (And.intro hxl hzl))
  have hmf : ∀ args W, (callFunc g args).run Try.prog W = .ok (.enter g args) W := eg
  rcases idx_cases (l.map p) 0 with ⟨h1, hall⟩ | ⟨k0, hk0, h1, ht, hall⟩
  · rw [h1] at IF
    have HF := Lib.hid IF
    have HE : Hid (l.filter (fun x => !p x) = l) := kp_all hall
    clear hown hg hvl hxl hzl IF h1 hall
    go_enter Try.func30, Try.ntmps30
    go_wp2_with fail
    refine HF.out.mono ?_
    rintro e w1 ⟨rfl, hb1⟩
    have HB := Lib.hid hb1
    clear hb1
    go_wp2_with fail
    go_ret
    exact ⟨n, vs, rfl, by rw [HE.out]; exact HOW.out.next HB.out, grown_of_below HB.out⟩
  · rw [h1, Nat.zero_add] at IF
    have HF := Lib.hid IF
    have hk0n : k0 < n := by rw [List.length_map] at hk0; omega
    rcases of_own hown.outer hown.two hown.vlen with ⟨_, hv, _⟩ | ⟨G, arr0, rfl, hGB, q1, q2, hR, htk0⟩
    · omega
    · have HR := Lib.hid hR
      have HQ := Lib.hid (And.intro hGB (And.intro q1 q2))
      have hcv : ∀ k, k < n → arr0[k]? = vs[k]? := by
        intro k hk
        have := congrArg (fun l : List (List Value) => l[k]?) htk0
        rwa [List.getElem?_take_of_lt hk] at this
      have HCV := Lib.hid hcv
      have HK0 : Hid (kp p (vs.zip l) (k0 + 1) = (vs.zip l).take k0) := by
        rw [List.length_map] at hk0
        exact kp_first (by omega) hk0 (by simpa using ht) hall
      have HZL : Hid (∀ j (hj : j < n), ∃ v x, vs[j]? = some v ∧ l[j]? = some x ∧ ∃ h : j < (vs.zip l).length, (vs.zip l)[j] = (v, x)) := fun j hj =>
        ⟨vs[j], l[j], List.getElem?_eq_getElem _, List.getElem?_eq_getElem _, by omega, List.getElem_zip⟩
      have hob : (Value.slice (some ⟨G, 0, none⟩) n c).ownBlock = some G := rfl
      rw [hob] at HG
      clear hown hg hvl hxl hzl IF h1 hall ht hR hGB q1 q2 hcv hob htk0
      go_enter Try.func30, Try.ntmps30
      go_wp2_with fail
      refine HF.out.mono ?_
      rintro e w1 ⟨rfl, hb1⟩
      have HB := Lib.hid hb1
      clear hb1
      have hkm : ((k0 : Int) == -1) = false := beq_eq_false_iff_ne.2 (by omega)
      go_wp2_with fail
      go_loopw [5, 6] (fun s5 s6 wr => ∃ (i j : Nat) (arr : List (List Value)), s5 = .int .i64 i ∧ s6 = .int .i64 j ∧ j ≤ n ∧ i < j ∧ Hid ((kp p (vs.zip l) j).length = i) ∧ Hid (RowsAt wr G 34 2 c arr) ∧ Hid (arr.take i = (kp p (vs.zip l) j).map Prod.fst) ∧
        Hid (∀ k, j ≤ k → k < n → arr[k]? = vs[k]?) ∧ Hid (w.grownBy wr (some G))) (fun _ s6 _ => n - (intOf s6).toNat)
      case atStart =>
        refine ⟨k0, k0 + 1, arr0, rfl, by go_num, by omega, by omega, ?_, HR.out.next HB.out, ?_, fun k h1 h2 => HCV.out k h2, grown_of_below HB.out⟩
        · show _ = _
          rw [HK0.out, List.length_take, HL.out.2.2]; omega
        · show _ = _
          rw [HK0.out]
          apply List.ext_getElem?
          intro k
          by_cases hk : k < k0
          · obtain ⟨v, xs, hv, hx, hz, e⟩ := HZL.out k (by omega)
            rw [List.getElem?_take_of_lt hk, HCV.out k (by omega), hv, List.getElem?_map, List.getElem?_take_of_lt hk, List.getElem?_eq_getElem hz, e]
            rfl
          · rw [List.getElem?_take_eq_none (by omega), List.getElem?_eq_none (by rw [List.length_map, List.length_take]; omega)]
      case round =>
        obtain ⟨i, j, arr, rfl, rfl, hjn, hij, hlen, hrow, htk, hrest, hgr⟩ := hrel
        by_cases hlt : j < n
        · obtain ⟨v, x, hv, hx, hz, hze⟩ := HZL.out j hlt
          have hro := (HOW.out.row j v x hv hx).kept HOW.out.outer hgr.out
          have hin := hro.inn
          obtain ⟨a1, c1, vals, a2, c2, rfl, hs1, hs2⟩ := hin
          have hvj := (hrest.out j (Nat.le_refl _) hlt).trans hv
          have d0 := hrow.out.cell hvj (j := 0) rfl
          have d1 := hrow.out.cell hvj (j := 1) rfl
          rw [Nat.add_zero] at d0
          have hKM := kp_more (p := p) hz
          rw [hze] at hKM
          obtain ⟨W5, hW5⟩ : ∃ U, wr.alloc (.cells #[.slice a1 x.1.length c1, .slice a2 x.2.length c2] 34) = U := ⟨_, rfl⟩
          have hb5 : Below wr.heap.size wr W5 := by rw [← hW5]; exact (Below.refl _ _).alloc (Nat.le_refl _) _
          have x5 := BoxN.new wr #[.slice a1 x.1.length c1, .slice a2 x.2.length c2] 34
          rw [hW5] at x5
          have q0 := x5.at' 0 _ rfl
          have q1 := x5.at' 1 _ rfl
          have hg5 := grown_below hgr.out hb5
          have CALL := Lib.hid (HG.out W5 hg5 j x a1 c1 vals a2 c2 hx (hs1.next hb5) (hs2.next hb5))
          have hal := hrow.out.len
          have HKM := Lib.hid hKM
          have HV := Lib.hid hv
          have HAL := Lib.hid hal
          have HX5 := Lib.hid x5
          have HR5 := Lib.hid (hrow.out.next hb5)
          have HG5 := Lib.hid hg5
          clear hKM hv hx hz hze hal hro hs1 hs2 hvj x5 hb5 hg5
          have hjlt : (j : Int) < (n : Int) := by omega
          cases hp : p x
          · rw [hp] at CALL HKM
            have HP := Lib.hid hp
            clear hp
            go_wp2_with fail
            refine CALL.out.mono ?_
            rintro e w2 ⟨rfl, hb2⟩
            have hr2 := HR5.out.next hb2
            have x2 := HX5.out.next hb2 HX5.out.lt
            have m0 := x2.at' 0 _ rfl
            have m1 := x2.at' 1 _ rfl
            have hic : i < c := by omega
            have hi2 : i * 2 + 1 < c * 2 := by omega
            obtain ⟨y0, hy0⟩ := Option.isSome_iff_exists.1 (hr2.isSome (t := i * 2) (by omega))
            obtain ⟨y1, hy1⟩ := Option.isSome_iff_exists.1 (hr2.isSome (t := i * 2 + 1) (by omega))
            have f0 := hr2.frozen (i * 2)
            have f1 := hr2.frozen (i * 2 + 1)
            have HR2 := Lib.hid (hr2.set hic (u := [.slice a1 x.1.length c1, .slice a2 x.2.length c2]) rfl)
            have HG2 := Lib.hid (grown_sets [.slice a1 x.1.length c1, .slice a2 x.2.length c2] w2 (i * 2) (grown_below HG5.out hb2))
            clear hb2 hr2 x2 d0 d1 q0 q1 hi2 hW5
            go_wp2_with fail
            go_roundw
            case rel =>
              refine ⟨i + 1, j + 1, arr.set i [.slice a1 x.1.length c1, .slice a2 x.2.length c2], by go_num, by go_num, by omega, by omega, ?_, HR2.out, ?_, ?_, HG2.out⟩
              · show _ = _
                rw [HKM.out]; simp [hlen.out]
              · show _ = _
                rw [HKM.out]
                simp only [Bool.false_eq_true, if_false, List.map_append, List.map_cons, List.map_nil]
                rw [← htk.out, List.take_succ_eq_append_getElem (by rw [List.length_set, HAL.out]; exact hic), List.getElem_set_self, List.take_set_of_le (Nat.le_refl _)]
              · intro k h1 h2
                rw [List.getElem?_set_ne (by omega)]
                exact hrest.out k (by omega) h2
            case measure => simp [intOf]; omega
          · rw [hp] at CALL HKM
            clear hp
            go_wp2_with fail
            refine CALL.out.mono ?_
            rintro e w2 ⟨rfl, hb2⟩
            have HR2 := Lib.hid (HR5.out.next hb2)
            have HG2 := Lib.hid (grown_below HG5.out hb2)
            clear hb2 d0 d1 q0 q1 hW5
            go_wp2_with fail
            go_roundw
            case rel =>
              refine ⟨i, j + 1, arr, rfl, by go_num, by omega, by omega, ?_, HR2.out, ?_, fun k h1 h2 => hrest.out k (by omega) h2, HG2.out⟩
              · show _ = _
                rw [HKM.out]; simp [hlen.out]
              · show _ = _
                rw [HKM.out]; simp [htk.out]
            case measure => simp [intOf]; omega
        · obtain rfl : j = n := by omega
          have hal := hrow.out.len
          have hjc := HQ.out.2.1
          have hci : ¬ c = i := by omega
          have hin : i ≤ j := by omega
          have hcl : ∀ ty, (Builtin.clear_ #[22] ty #[.slice (some ⟨G, i * 2, none⟩) (j - i) (c - i)]).run Try.prog wr = .ok (.tuple #[]) (wr.setCells G (i * 2) (Builtin.zeroCells (Value.agg #[.slice none 0 0, .slice none 0 0]).cells (j - i)).toList) :=
            fun ty => RowsK.run_clear wr _ _ ty _ Try.underlying22 Try.zeroValue34 2 rfl (by intro v hv; simp [Value.cells] at hv; subst hv; rfl) (by decide) G (i * 2) _ _ (by omega) (fun t ht => hrow.out.isSome (by omega)) (fun t ht => hrow.out.frozen _)
          obtain ⟨arr', hR', hT'⟩ := hrow.out.wipe (i := i) (by omega) (Builtin.zeroCells (Value.agg #[.slice none 0 0, .slice none 0 0]).cells (j - i)).toList
          have HRR := Lib.hid hR'
          have HTT := Lib.hid (hT'.trans htk.out)
          have HGG := Lib.hid (grown_sets (Builtin.zeroCells (Value.agg #[.slice none 0 0, .slice none 0 0]).cells (j - i)).toList wr (i * 2) hgr.out)
          have HLI := hlen
          clear hR' hT' hrow htk hrest hgr hlen hal
          have hji : ¬ (j : Int) < (j : Int) := by omega
          go_wp2_with fail
          go_ret
          have hfin : kp p (vs.zip l) j = kp p (vs.zip l) l.length := by rw [HL.out.2.1]
          have hfs : (kp p (vs.zip l) j).map Prod.snd = l.filter fun x => !p x := by rw [hfin]; exact kp_snd (by rw [HL.out.1, HL.out.2.1])
          refine ⟨i, (kp p (vs.zip l) j).map Prod.fst, rfl, ⟨by rw [← HTT.out]; exact HRR.out.own HQ.out.1 (by omega) HQ.out.2.2, ?_, by rw [List.length_map, HLI.out], ?_, ?_⟩, HGG.out⟩
          · rw [← HTT.out]
            exact fun r hr => HRR.out.row r (List.mem_of_mem_take hr)
          · rw [← hfs, List.length_map, HLI.out]
          · intro k v x hv hx
            rw [← hfs] at hx
            obtain ⟨q, h1, h2⟩ := kp_mem hv hx
            exact (HOW.out.row q v x h1 h2).kept HOW.out.outer HGG.out

end Keep
end Go.Proofs.Ytdpmfcfelncbeaa

/-
  A region that draws its order, walked once in the text's order, under a condition S on the world: each operation yields its value in every world that meets S, or is a call that yields its value and keeps S. No program's function.
-/
namespace Go.Proofs.Ytdpmfcfelncbeaa
open Go.RowKit
set_option linter.unusedVariables false
namespace Lex

section
variable {P : Program} {ops : Array Oper} {md : Region.Mode} {S : World → Prop}

/-- In every world that meets S the operation yields v and keeps S. -/
def YieldsS (P : Program) (ops : Array Oper) (S : World → Prop) (o : Oper) (v : Value) (a : Act) : Prop :=
  (Region.wanted o (yielded ops a.tmps) = true ∧ ((∀ w, S w → (execOp a.eval o).run P w = .ok (.value v) w) ∨
    ∃ f args, (∀ w, S w → (execOp a.eval o).run P w = .ok (.enter f args) w) ∧ ∀ w, S w → Calls P f args w (fun e w'' => e = .returned v ∧ S w''))) ∨
  (Region.wanted o (yielded ops a.tmps) = false ∧ v = undef)

theorem YieldsS.of_same {o : Oper} {v : Value} {a a' : Act} (hy : YieldsS P ops S o v a) (he : execOp a'.eval o = execOp a.eval o)
    (hw : Region.wanted o (yielded ops a'.tmps) = Region.wanted o (yielded ops a.tmps)) : YieldsS P ops S o v a' := by
  unfold YieldsS at *
  rw [he, hw]
  exact hy

def stS (P : Program) (ops : Array Oper) (S : World → Prop) (i : Nat) (K : Act → Prop) (a : Act) : Prop :=
  match ops[i]? with
  | none => K a
  | some o => ∃ v, YieldsS P ops S o v a ∧ K (a.put o.dst v)

theorem stS_mono {i : Nat} {a : Act} {K K' : Act → Prop} (h : ∀ a, K a → K' a) (hh : stS P ops S i K a) : stS P ops S i K' a := by
  unfold stS at *
  split
  · rename_i ho; simp only [ho] at hh; exact h _ hh
  · rename_i o ho
    simp only [ho] at hh
    obtain ⟨v, hy, hk⟩ := hh
    exact ⟨v, hy, h _ hk⟩

theorem wpOp_of_stS {i : Nat} {a : Act} {w : World} {K : Act → Prop} {K' : Act → World → Prop} {Q' : Exit → Act → World → Prop} (hS : S w) (h : ∀ a w, S w → K a → K' a w) (hh : stS P ops S i K a) : wpOp P ops Q' i K' a w := by
  unfold stS at hh
  unfold wpOp
  split
  · rename_i ho; simp only [ho] at hh; exact h _ _ hS hh
  · rename_i o ho
    simp only [ho] at hh
    obtain ⟨v, hy, hk⟩ := hh
    rcases hy with ⟨hw, hv | ⟨f, args, hv, hc⟩⟩ | ⟨hw, rfl⟩
    · simp only [hw, if_true]
      refine .inl ?_
      unfold Oper.wp
      rw [hv w hS]
      simp only [Oper.upon]
      exact h _ _ hS hk
    · simp only [hw, if_true]
      refine .inl ?_
      unfold Oper.wp
      rw [hv w hS]
      simp only [Oper.upon]
      exact (hc w hS).mono fun e w'' ⟨he, hw'⟩ => by subst he; exact h _ _ hw' hk
    · simp only [hw, Bool.false_eq_true, if_false]
      exact h _ _ hS hk

def wpAnyT (P : Program) (md : Region.Mode) (ops : Array Oper) (S : World → Prop) (Q : Act → Prop) : Nat → Array Bool → Act → Prop
  | 0, listed, a => Region.ready md ops listed = [] ∧ Q a
  | fuel + 1, listed, a =>
    (Region.ready md ops listed = [] → Q a) ∧
    ∀ i ∈ Region.ready md ops listed, stS P ops S i (wpAnyT P md ops S Q fuel (listed.setIfInBounds i true)) a

theorem wpAny_of_T {Q : Act → Prop} {Q' : Exit → Act → World → Prop} (hQ : ∀ a w, S w → Q a → Q' .normal a w) : ∀ (fuel : Nat) (listed : Array Bool) (a : Act) (w : World), S w →
    wpAnyT P md ops S Q fuel listed a → wpAny P md ops Q' fuel listed a w
  | 0, _, _, _, hS, h => ⟨h.1, hQ _ _ hS h.2⟩
  | fuel + 1, _, _, _, hS, h => ⟨fun h0 => hQ _ _ hS (h.1 h0), fun i hi => wpOp_of_stS hS (fun a' w' hS' => wpAny_of_T hQ fuel _ a' w' hS') (h.2 i hi)⟩

theorem stS_put {j : Nat} {oi oj : Oper} {v : Value} (hj : ops[j]? = some oj) (hap : oi.apart ops oj = true)
    (hsi : ∀ cs b, oi.op ≠ .select cs b) (hsj : ∀ cs b, oj.op ≠ .select cs b) {K : Act → Prop} {a : Act}
    (hy : YieldsS P ops S oi v a) (h : stS P ops S j K (a.put oi.dst v)) :
    stS P ops S j (fun a' => YieldsS P ops S oi v a' ∧ K (a'.put oi.dst v)) a := by
  obtain ⟨h1, h2, h3⟩ := Oper.apart_spec hap
  unfold stS at *
  simp only [hj] at *
  obtain ⟨u, hu, hk⟩ := h
  refine ⟨u, hu.of_same (execOp_put oj hsj a oi.dst v h1).symm (wanted_put oj a oi.dst v h1).symm, hy.of_same (execOp_put oi hsi a oj.dst u h3) (wanted_put oi a oj.dst u h3), ?_⟩
  rw [← Act.put_comm a v u h2]
  exact hk

theorem wpAnyT_first {Q : Act → Prop} {i : Nat} {oi : Oper} {v : Value} (hi : ops[i]? = some oi) (hsel : ∀ (j : Nat) (o : Oper) cs b, ops[j]? = some o → o.op ≠ .select cs b) :
    ∀ (fuel : Nat) (listed : Array Bool) (a : Act),
      (∀ j oj, ops[j]? = some oj → j ≠ i → listed.getD j true = false → (∀ e ∈ oj.after, Region.binds md e = true → e.on ≠ i) → oi.apart ops oj = true) →
      i ∈ Region.ready md ops listed → YieldsS P ops S oi v a →
      wpAnyT P md ops S Q fuel (listed.setIfInBounds i true) (a.put oi.dst v) → wpAnyT P md ops S Q (fuel + 1) listed a := by
  have hit : ∀ (K : Act → Prop) (a : Act), YieldsS P ops S oi v a → K (a.put oi.dst v) → stS P ops S i K a := fun K a hy hk => by
    unfold stS
    simp only [hi]
    exact ⟨v, hy, hk⟩
  intro fuel
  induction fuel with
  | zero =>
    intro listed a _ hr hy H
    refine ⟨fun h => (by rw [h] at hr; cases hr), fun j hj => ?_⟩
    by_cases hji : j = i
    · subst hji; exact hit _ _ hy H
    · have := ready_mono hj hji
      rw [H.1] at this
      cases this
  | succ fuel ih =>
    intro listed a hfree hr hy H
    refine ⟨fun h => (by rw [h] at hr; cases hr), fun j hj => ?_⟩
    by_cases hji : j = i
    · subst hji; exact hit _ _ hy H
    · have h1 := H.2 j (ready_mono hj hji)
      obtain ⟨hjun, oj, hoj, hall⟩ := mem_ready.1 hj
      have hnot : ∀ e ∈ oj.after, Region.binds md e = true → e.on ≠ i := fun e he hb heq => by
        have h1 := hall e he hb
        have h0 := (mem_ready.1 hr).1
        rw [heq] at h1
        rcases Nat.lt_or_ge i listed.size with h' | h'
        · simp [h'] at h0 h1; rw [h0] at h1; cases h1
        · simp [Array.getElem?_eq_none h'] at h1
      have h2 := stS_put hoj (hfree j oj hoj hji hjun hnot) (fun cs b => hsel i oi cs b hi) (fun cs b => hsel j oj cs b hoj) hy h1
      have hfree' : ∀ k ok, ops[k]? = some ok → k ≠ i → (listed.setIfInBounds j true).getD k true = false →
          (∀ e ∈ ok.after, Region.binds md e = true → e.on ≠ i) → oi.apart ops ok = true := fun k ok hk hki hun hno => by
        refine hfree k ok hk hki ?_ hno
        by_cases hjk : j = k
        · subst hjk; exact hjun
        · rw [getD_set_ne true hjk] at hun; exact hun
      refine stS_mono (fun a' h3 => ih (listed.setIfInBounds j true) a' hfree' (ready_mono hr (Ne.symm hji)) h3.1 ?_) h2
      rw [Array.setIfInBounds_comm _ _ hji]
      exact h3.2

/-- The operations one behind another, in the text's order. -/
def inOrder (P : Program) (ops : Array Oper) (S : World → Prop) (Q : Act → Prop) : List Oper → Act → Prop
  | [], a => Q a
  | o :: rest, a => ∃ v, YieldsS P ops S o v a ∧ inOrder P ops S Q rest (a.put o.dst v)

theorem wpAnyT_lex {Q : Act → Prop} (hs : Region.noSelect ops = true) : ∀ (l : List Oper) (k : Nat) (listed : Array Bool) (a : Act), (∀ j, l[j]? = ops[k + j]?) →
    Region.lexFrom md ops l.length k listed = true → inOrder P ops S Q l a → wpAnyT P md ops S Q l.length listed a
  | [], _, _, _, _, hB, h => ⟨by simpa [Region.lexFrom] using hB, h⟩
  | o :: l, k, listed, a, hl, hB, h => by
    have h0 : ops[k]? = some o := by simpa using (hl 0).symm
    simp only [List.length_cons, Region.lexFrom, Bool.and_eq_true] at hB
    obtain ⟨⟨hr, hf⟩, hB'⟩ := hB
    obtain ⟨v, hy, hK⟩ := h
    exact wpAnyT_first h0 (Region.noSelect_spec hs) l.length listed a (Region.free_spec h0 hf) (by simpa using hr) hy
      (wpAnyT_lex hs l (k + 1) _ _ (fun j => by have := hl (j + 1); simpa [Nat.add_assoc, Nat.add_comm 1 j] using this) hB' hK)

/-- The law: one walk. -/
theorem region {id : Nat} {Q : Exit → Act → World → Prop} {a : Act} {w : World} {l : List Oper} (S : World → Prop) (hm : P.follows .mixedOrders = true) (hB : Region.lexB .any l.toArray = true) (hS : S w.drew)
    (h : inOrder P l.toArray S (fun a' => ∀ w', S w' → Q .normal a' w') l a) : (Code.region id l.toArray true).wp P Q a w := by
  simp only [Region.lexB, Bool.and_eq_true] at hB
  refine wp_region_any hm (wpAny_of_T (S := S) (Q := fun a' => ∀ w', S w' → Q .normal a' w') (fun a w hS h => h w hS) _ _ _ _ hS ?_)
  have := wpAnyT_lex (P := P) (S := S) (Q := fun a' => ∀ w', S w' → Q .normal a' w') (md := .any) hB.1 l.toArray.toList 0 (Array.replicate l.toArray.size false) a (by simp) (by simpa using hB.2) (by simpa using h)
  simpa using this

theorem step_val {Q : Act → Prop} {o : Oper} {rest : List Oper} {a : Act} {v : Value} (hw : Region.wanted o (yielded ops a.tmps) = true) (hv : ∀ w, S w → (execOp a.eval o).run P w = .ok (.value v) w)
    (h : inOrder P ops S Q rest (a.put o.dst v)) : inOrder P ops S Q (o :: rest) a := ⟨v, .inl ⟨hw, .inl hv⟩, h⟩
theorem step_off {Q : Act → Prop} {o : Oper} {rest : List Oper} {a : Act} (hw : Region.wanted o (yielded ops a.tmps) = false)
    (h : inOrder P ops S Q rest (a.put o.dst undef)) : inOrder P ops S Q (o :: rest) a := ⟨undef, .inr ⟨hw, rfl⟩, h⟩
theorem step_call {Q : Act → Prop} {o : Oper} {rest : List Oper} {a : Act} {v : Value} {f : FuncId} {args : Array Value} (hw : Region.wanted o (yielded ops a.tmps) = true) (hv : ∀ w, S w → (execOp a.eval o).run P w = .ok (.enter f args) w)
    (hc : ∀ w, S w → Calls P f args w (fun e w'' => e = .returned v ∧ S w''))
    (h : inOrder P ops S Q rest (a.put o.dst v)) : inOrder P ops S Q (o :: rest) a := ⟨v, .inl ⟨hw, .inr ⟨f, args, hv, hc⟩⟩, h⟩
theorem step_nil {Q : Act → Prop} {a : Act} (h : Q a) : inOrder P ops S Q [] a := h
end
end Lex
end Go.Proofs.Ytdpmfcfelncbeaa

/-
  keep.Drop; the law's size and same (of equal ones).
-/
namespace Go.Proofs.Ytdpmfcfelncbeaa
open Go.RowKit Base
set_option linter.unusedVariables false
set_option linter.unusedSimpArgs false
namespace Keep
open Plain (drew_more)

theorem eg_am : SlfI.Enters 49 := enters_of Try.func49 (by kernel_rfl) rfl
theorem eg_dr : Enters 31 := enters_of Try.func31 (by kernel_rfl) rfl

/-- Has a list one of some? -/
def meets (l ids : List Int) : Bool := l.any (fun n => decide (n ∈ ids))
def left (l : List Kp) (ids : List Int) : List Kp := l.filter fun k => !meets k.2 ids

set_option maxHeartbeats 1000000 in
theorem among_any (w : World) (a : Option Addr) (n c : Nat) :
    Calls Try.prog 33 #[.slice a n c] w fun e w' => e = .returned (.func (.func 49) #[] #[.pointer (some ⟨w.heap.size, 0, none⟩)]) ∧ w' = w.alloc (.cells #[.slice a n c] 24) := by
  go_enter Try.func33, Try.ntmps33
  go_wp2_with fail
  go_ret
  exact ⟨rfl, rfl⟩

set_option maxHeartbeats 1000000 in
theorem among1_any (w : World) (Bx : Nat) (a : Option Addr) (n c : Nat) (l : List Int) (hc : w.cell? ⟨Bx, 0, none⟩ = some (.slice a n c)) (hs : Sl w a n c (ints l)) (x : Int) :
    Calls Try.prog 49 #[.int .i64 x, .pointer (some ⟨Bx, 0, none⟩)] w fun e w' => e = .returned (.bool (decide (x ∈ l))) ∧ Below w.heap.size w w' := by
  have H := Lib.hid (Cont.contains_any w a n c l hs x)
  clear hs
  generalize hq : decide (x ∈ l) = q at *
  clear hq
  go_enter Try.func49, Try.ntmps49
  go_wp2_with fail
  with_reducible refine H.out.mono ?_
  rintro e w1 ⟨rfl, rfl⟩
  go_wp2_with fail
  go_ret
  exact ⟨rfl, Below.refl _ _⟩

set_option maxHeartbeats 2000000 in
theorem drop1_any (w : World) (Bx : Nat) (a : Option Addr) (n c : Nat) (ids : List Int) (hlt : Bx < w.heap.size) (hc : w.cell? ⟨Bx, 0, none⟩ = some (.slice a n c)) (hs : Sl w a n c (ints ids)) (k : Kp) (a1 : Option Addr) (c1 : Nat) (a2 : Option Addr) (c2 : Nat) (h2 : Sl w a2 k.2.length c2 (ints k.2)) :
    Calls Try.prog 31 #[.agg #[.slice a1 k.1.length c1, .slice a2 k.2.length c2], .pointer (some ⟨Bx, 0, none⟩)] w fun e w' => e = .returned (.bool (meets k.2 ids)) ∧ Below w.heap.size w w' := by
  obtain ⟨U, hU⟩ : ∃ U, w.alloc (.cells #[.slice a1 k.1.length c1, .slice a2 k.2.length c2] 34) = U := ⟨_, rfl⟩
  have hb : Below w.heap.size w U := by rw [← hU]; exact (Below.refl _ _).alloc (Nat.le_refl _) _
  have u0 : U.cell? ⟨w.heap.size, 0, none⟩ = some (.slice a1 k.1.length c1) := by rw [← hU]; simp [go_sem]
  have u1 : U.cell? ⟨w.heap.size, 1, none⟩ = some (.slice a2 k.2.length c2) := by rw [← hU]; simp [go_sem]
  have hc1 := (hb.cell (p := ⟨Bx, 0, none⟩) hlt).trans hc
  obtain ⟨Z, hZ⟩ : ∃ Z, U.alloc (.cells #[.slice a n c] 24) = Z := ⟨_, rfl⟩
  have hbz : Below U.heap.size U Z := by rw [← hZ]; exact (Below.refl _ _).alloc (Nat.le_refl _) _
  have z0 : Z.cell? ⟨U.heap.size, 0, none⟩ = some (.slice a n c) := by rw [← hZ]; simp [go_sem]
  have hzl : U.heap.size < Z.heap.size := by rw [← hZ]; simp
  have hbt := hb.trans (hbz.mono hb.size)
  have CF : ∀ V : World, Below Z.heap.size Z V → Calls Try.prog 32 #[.slice a2 k.2.length c2, .func (.func 49) #[] #[.pointer (some ⟨U.heap.size, 0, none⟩)]] V fun e w' => e = .returned (.bool (meets k.2 ids)) ∧ Below V.heap.size V w' := by
    intro V hV
    have CF := SlfI.containsFunc V a2 k.2.length c2 (ints k.2) 49 #[] #[.pointer (some ⟨U.heap.size, 0, none⟩)] (k.2.map fun x => decide (x ∈ ids)) ((h2.next hbt).next hV) (by rw [List.length_map]) eg_am (by
      intro X hX j y q hy hq
      obtain ⟨hj, rfl⟩ := Base.ints_at hy
      rw [List.getElem?_map, List.getElem?_eq_getElem hj] at hq
      simp only [Option.map_some, Option.some.injEq] at hq
      subst hq
      have hZX := hV.trans (hX.mono hV.size)
      exact among1_any X U.heap.size a n c ids ((hZX.cell (p := ⟨U.heap.size, 0, none⟩) hzl).trans z0) ((hs.next hbt).next hZX) k.2[j])
    have hall : ((k.2.map fun x => decide (x ∈ ids)).any id) = meets k.2 ids := by
      rw [List.any_map]
      rfl
    rw [hall] at CF
    exact CF
  have HCF := Lib.hid CF
  have HBU := Lib.hid hb
  have HZ := Lib.hid hZ
  have HS0 := Lib.hid (fun (V : World) (hV : Below U.heap.size U V) => And.intro hV (And.intro ((hV.cell (p := ⟨w.heap.size, 1, none⟩) (by rw [← hU]; simp)).trans u1) ((hV.cell (p := ⟨Bx, 0, none⟩) (Nat.lt_of_lt_of_le hlt hb.size)).trans hc1)))
  have HUZ : Below U.heap.size U Z.drew := hbz.drew
  have hU0 : Below U.heap.size U U.drew := (Below.refl _ _).drew
  clear hs h2 hb hc CF z0 hzl hbt hbz hZ
  generalize meets k.2 ids = q at *
  go_enter Try.func31, Try.ntmps31
  go_upto_region 1 with fail
  rw [← HZ.out] at HUZ
  go_region_held3 (fun w' => Below U.heap.size U w' ∧ w'.cell? ⟨w.heap.size, 1, none⟩ = some (.slice a2 k.2.length c2) ∧ w'.cell? ⟨Bx, 0, none⟩ = some (.slice a n c)) (first | exact HS0.out _ hU0 | exact HS0.out _ HUZ | exact HS0.out _ (by assumption)) (first
    | (go_at_call 33; refine (among_any U.drew a n c).mono ?_; rintro e w' ⟨rfl, rfl⟩)
    | (go_at_call 32; refine (HCF.out (U.alloc (.cells #[.slice a n c] 24)).drew (by rw [HZ.out]; exact (Below.refl _ _).drew)).mono ?_; rintro e w' ⟨rfl, hb'⟩; have hb'' := HUZ.trans (hb'.mono HUZ.size)))
  all_goals (rename_i hfin; obtain ⟨hfin, _⟩ := hfin)
  go_wp2_with fail
  go_ret
  exact ⟨rfl, HBU.out.trans (hfin.mono HBU.out.size)⟩

set_option maxHeartbeats 2000000 in
theorem drop_any (w : World) (a : Option Addr) (n c : Nat) (vs : List (List Value)) (l : List Kp) (hsl : SlK w a n c vs l) (hn : n * 48 ≤ 140737488355328) (hfit : ∀ k ∈ l, Fit1 k) (ai : Option Addr) (ni ci : Nat) (ids : List Int) (hi : Sl w ai ni ci (ints ids)) :
    Calls Try.prog 18 #[.slice a n c, .slice ai ni ci] w fun e w' => ∃ a' n' c' vs', e = .returned (.slice a' n' c') ∧ KOwn w' w.heap.size a' n' c' vs' (left l ids) ∧ Below w.heap.size w w' := by
  obtain ⟨U, hU⟩ : ∃ U, w.alloc (.cells #[.slice ai ni ci] 24) = U := ⟨_, rfl⟩
  have hb : Below w.heap.size w U := by rw [← hU]; exact (Below.refl _ _).alloc (Nat.le_refl _) _
  have u0 : U.cell? ⟨w.heap.size, 0, none⟩ = some (.slice ai ni ci) := by rw [← hU]; simp [go_sem]
  have hz : w.heap.size < U.heap.size := by rw [← hU]; simp
  have HC := Lib.hid (copied_any U a n c vs l (hsl.next hb) hn hfit)
  have HI := Lib.hid (hi.next hb)
  have HU0 := Lib.hid u0
  have HZ := Lib.hid hz
  have HB := Lib.hid hb
  clear hsl hfit hi hb u0 hz
  go_enter Try.func18, Try.ntmps18
  go_wp2_with fail
  with_reducible refine HC.out.mono ?_
  rintro e w1 ⟨a1, c1, vs1, rfl, hk1, hb1⟩
  have DK := Lib.hid (delK_own w1 U.heap.size a1 n c1 vs1 l hk1 hb1.size 31 #[.pointer (some ⟨w.heap.size, 0, none⟩)] (fun k => meets k.2 ids) eg_dr (by
    intro W hW i k a4 c4 vals a5 c5 hk h4 h5
    have hne : ∀ q, (Value.slice a1 n c1).ownBlock = some q → U.heap.size ≤ q := fun q hq => (hk1.outer.lt q hq).1
    have hbW : Below U.heap.size U W := hb1.grown hW hb1.size hne
    exact drop1_any W w.heap.size ai ni ci ids (Nat.lt_of_lt_of_le HZ.out hbW.size) ((hbW.cell (p := ⟨w.heap.size, 0, none⟩) HZ.out).trans HU0.out) (HI.out.next hbW) k a4 c4 a5 c5 h5))
  have HNE := Lib.hid (fun q (hq : (Value.slice a1 n c1).ownBlock = some q) => (hk1.outer.lt q hq).1)
  have HB1 := Lib.hid hb1
  clear hk1 hb1
  go_wp2_with fail
  with_reducible refine DK.out.mono ?_
  rintro e w2 ⟨n2, vs2, rfl, hk2, hg2⟩
  have HK2 := Lib.hid hk2
  have HB2 := Lib.hid (HB1.out.grown hg2 HB1.out.size HNE.out)
  clear hk2 hg2
  go_wp2_with fail
  go_ret
  exact ⟨a1, n2, c1, vs2, rfl, HK2.out.mono HB.out.size, HB.out.trans (HB2.out.mono HB.out.size)⟩

set_option maxHeartbeats 1000000 in
theorem lawSize_any (w : World) (a : Option Addr) (n c : Nat) (vs : List (List Value)) (l : List Kp) (hsl : SlK w a n c vs l) (hz : sz l ≤ 9223372036854775807) :
    Calls Try.prog 15 #[.slice a n c] w fun e w' => e = .returned (.int .i64 (sz l : Nat)) ∧ Below w.heap.size w w' := by
  have hcap := hsl.sl.cap
  have hbig := hsl.sl.big
  have HS := Lib.hid hsl
  have HZ := Lib.hid hz
  clear hsl hz
  go_enter Try.func15, Try.ntmps15
  go_wp2_with fail
  go_loopw [3, 4] (fun s i wr => ∃ k m : Nat, k ≤ n ∧ i = .int .i64 k ∧ s = .int .i64 m ∧ Hid (sz (l.take k) = m) ∧ Hid (Below w.heap.size w wr)) (fun _ i _ => n - (intOf i).toNat)
  case atStart => exact ⟨0, 0, Nat.zero_le _, rfl, rfl, rfl, Below.refl _ _⟩
  case round =>
    obtain ⟨k, m, hk, rfl, rfl, hm, hB⟩ := hrel
    by_cases hlt : k < n
    · obtain ⟨b, o, a1, c1, vals, a2, c2, hx, rfl, hbs, d0, d1, hs1, hs2, _⟩ := (HS.out.next hB.out).at hlt
      have HT := Lib.hid (sz_take hx)
      have HLE := Lib.hid (Nat.le_trans (sz_le (l := l) (k + 1)) HZ.out)
      generalize l[k] = y at *
      clear hs1 hs2 hx
      have hbd : (m : Int) + (y.1.length : Int) ≤ 9223372036854775807 := by
        have h1 := HT.out
        have h2 := HLE.out
        have h3 := hm.out
        omega
      generalize hL : y.1.length = L at *
      have HL := Lib.hid hL
      clear hL
      go_wp2_with fail
      go_roundw
      case rel =>
        refine ⟨k + 1, m + L, by omega, by go_num, by go_num, ?_, hB⟩
        show _ = _
        rw [HT.out, hm.out]
      case measure => simp [intOf]; omega
    · have HE : Hid (l.take k = l) := List.take_of_length_le (by have := HS.out.len; omega)
      have hm := hm.out
      rw [HE.out] at hm
      subst hm
      go_wp2_with fail
      go_ret
      exact ⟨rfl, hB.out⟩

set_option maxHeartbeats 2000000 in
/-- same, of equal ones. -/
theorem lawSame_any (w : World) (a : Option Addr) (n c : Nat) (vs : List (List Value)) (l : List Kp) (hsl : SlK w a n c vs l) (a' : Option Addr) (n' c' : Nat) (vs' : List (List Value)) (hsl' : SlK w a' n' c' vs' l) :
    Calls Try.prog 17 #[.slice a n c, .slice a' n' c'] w fun e w' => e = .returned (.bool true) ∧ ∃ m, w' = w.drewN m := by
  have hln := hsl.len
  have hln' := hsl'.len
  obtain rfl : n = n' := by omega
  have hb1 := hsl.sl.cap
  have hb2 := hsl.sl.big
  have hb3 := hsl'.sl.cap
  have H1 := Lib.hid hsl
  have H2 := Lib.hid hsl'
  clear hsl hsl' hln hln'
  go_enter Try.func17, Try.ntmps17
  go_wp2_with fail
  go_loopw [5] (fun i wr => ∃ k : Nat, k ≤ n ∧ i = .int .i64 k ∧ Hid (∃ m, wr = w.drewN m)) (fun i _ => n - (intOf i).toNat)
  case atStart => exact ⟨0, Nat.zero_le _, rfl, 0, rfl⟩
  case round =>
    obtain ⟨k, hk, rfl, hdr⟩ := hrel
    have hbr : Below w.heap.size w wr := by obtain ⟨q, rfl⟩ := hdr.out; exact below_drewN (Below.refl _ _) q
    by_cases hlt : k < n
    · obtain ⟨b, o, a1, c1, vals, a2, c2, hx, rfl, hbs, d0, d1, hs1, hs2, _⟩ := (H1.out.next hbr).at hlt
      obtain ⟨b', o', a3, c3, vals', a4, c4, hx', rfl, hbs', d0', d1', hs3, hs4, _⟩ := (H2.out.next hbr).at hlt
      have HQ1 := Lib.hid (fun (m : Nat) => Plain.lists_any (wr.drewN m) a1 a3 _ _ c1 c3 vals vals' l[k].1 l[k].1 (hs1.next (below_drewN (Below.refl _ _) m)) (hs3.next (below_drewN (Below.refl _ _) m)))
      have HQ2 := Lib.hid (fun (m : Nat) => Plain.ints_q (wr.drewN m) a2 a4 _ _ c2 c4 l[k].2 l[k].2 (hs2.next (below_drewN (Below.refl _ _) m)) (hs4.next (below_drewN (Below.refl _ _) m)))
      rw [decide_eq_true rfl] at HQ1 HQ2
      clear hs1 hs2 hs3 hs4
      generalize l[k] = y at *
      obtain ⟨y1, y2⟩ := y
      simp only at *
      generalize y1.length = n1 at *
      generalize y2.length = n2 at *
      clear hbr
      go_wp2_with fail
      go_quiet ((first | (go_at_call 12; exact Calls.quiet_of (HQ1.out _)) | (go_at_call 27; exact Calls.quiet_of (HQ2.out _))))
      go_wp2_with fail
      go_roundw
      case rel => exact ⟨k + 1, by omega, by go_num, drew_more hdr.out _⟩
      case measure => simp [intOf]; omega
    · go_wp2_with fail
      go_ret
      exact ⟨rfl, hdr.out⟩

end Keep
end Go.Proofs.Ytdpmfcfelncbeaa

/-
  Plain: a number into a list that rises, once; a list, sorted so. No program.
-/
namespace Go.Proofs.Ytdpmfcfelncbeaa.RefS
set_option linter.unusedVariables false
open Vals (srt srt_spec)

def ins (n : Int) : List Int → List Int
  | [] => [n]
  | x :: r => if x < n then x :: ins n r else if x = n then n :: r else n :: x :: r

def sorted (l : List Int) : List Int := l.foldl (fun o x => ins x o) []

theorem mem_ins {n y : Int} {l : List Int} : y ∈ ins n l ↔ y = n ∨ y ∈ l := by
  induction l with
  | nil => simp [ins]
  | cons x r ih =>
    unfold ins
    split
    · rw [List.mem_cons, ih, List.mem_cons]
      exact ⟨fun h => h.elim (fun h => .inr (.inl h)) (fun h => h.elim .inl (fun h => .inr (.inr h))), fun h => h.elim (fun h => .inr (.inl h)) (fun h => h.elim .inl (fun h => .inr (.inr h)))⟩
    · split
      · rename_i h
        subst h
        simp
      · simp

theorem ins_sorted {n : Int} {l : List Int} (h : l.Pairwise (· < ·)) : (ins n l).Pairwise (· < ·) := by
  induction l with
  | nil => simp [ins]
  | cons x r ih =>
    obtain ⟨h1, h2⟩ := List.pairwise_cons.1 h
    unfold ins
    split
    · rename_i hx
      refine List.pairwise_cons.2 ⟨fun y hy => ?_, ih h2⟩
      rcases mem_ins.1 hy with rfl | hy
      · exact hx
      · exact h1 y hy
    · split
      · rename_i hx
        subst hx
        exact h
      · refine List.pairwise_cons.2 ⟨fun y hy => ?_, h⟩
        rcases List.mem_cons.1 hy with rfl | hy
        · omega
        · have := h1 y hy
          omega

theorem ins_len (n : Int) (l : List Int) : (ins n l).length ≤ l.length + 1 := by
  induction l with
  | nil => simp [ins]
  | cons x r ih =>
    unfold ins
    split
    · simp; omega
    · split <;> simp

theorem ins_split {n : Int} {l : List Int} {j : Nat} (h : ∀ y ∈ l.take j, y < n) : ins n l = l.take j ++ ins n (l.drop j) := by
  induction l generalizing j with
  | nil => simp
  | cons x r ih =>
    cases j with
    | zero => simp
    | succ j =>
      have hx : x < n := h x (by simp)
      rw [List.take_succ_cons, List.drop_succ_cons, List.cons_append, ← ih (fun y hy => h y (by simp [hy]))]
      show (if x < n then x :: ins n r else _) = _
      rw [if_pos hx]

theorem ins_end {n : Int} {l : List Int} (h : ∀ y ∈ l, y < n) : ins n l = l ++ [n] := by
  have := ins_split (n := n) (l := l) (j := l.length) (by rw [List.take_length]; exact h)
  rw [List.take_length, List.drop_length] at this
  exact this
theorem ins_hit {n : Int} {l : List Int} {j : Nat} (h : ∀ y ∈ l.take j, y < n) (hj : j < l.length) (he : l[j] = n) : ins n l = l.take j ++ [n] ++ l.drop (j + 1) := by
  rw [ins_split h, List.drop_eq_getElem_cons hj, List.append_assoc]
  show l.take j ++ (if l[j] < n then _ else if l[j] = n then n :: l.drop (j + 1) else _) = _
  rw [if_neg (by omega), if_pos he]
  rfl
theorem ins_gap {n : Int} {l : List Int} {j : Nat} (h : ∀ y ∈ l.take j, y < n) (hj : j < l.length) (he : n < l[j]) : ins n l = l.take j ++ [n] ++ l.drop j := by
  rw [ins_split h, List.append_assoc]
  congr 1
  rw [List.drop_eq_getElem_cons hj]
  show (if l[j] < n then _ else if l[j] = n then _ else n :: l[j] :: l.drop (j + 1)) = _
  rw [if_neg (by omega), if_neg (by omega)]
  rfl

theorem fold_spec (l o : List Int) (ho : o.Pairwise (· < ·)) : (l.foldl (fun o x => ins x o) o).Pairwise (· < ·) ∧ (∀ y, y ∈ l.foldl (fun o x => ins x o) o ↔ y ∈ o ∨ y ∈ l) ∧ (l.foldl (fun o x => ins x o) o).length ≤ o.length + l.length := by
  induction l generalizing o with
  | nil => exact ⟨ho, by simp, by simp⟩
  | cons x r ih =>
    obtain ⟨h1, h2, h3⟩ := ih (ins x o) (ins_sorted ho)
    refine ⟨h1, fun y => ?_, ?_⟩
    · rw [List.foldl_cons, h2, mem_ins, List.mem_cons]
      exact ⟨fun h => h.elim (fun h => h.elim (fun h => .inr (.inl h)) .inl) (fun h => .inr (.inr h)), fun h => h.elim (fun h => .inl (.inr h)) (fun h => h.elim (fun h => .inl (.inl h)) .inr)⟩
    · have := ins_len x o
      rw [List.foldl_cons, List.length_cons]
      omega

theorem sorted_spec (l : List Int) : (sorted l).Pairwise (· < ·) ∧ (∀ y, y ∈ sorted l ↔ y ∈ l) ∧ (sorted l).length ≤ l.length := by
  obtain ⟨h1, h2, h3⟩ := fold_spec l [] List.Pairwise.nil
  exact ⟨h1, fun y => by rw [sorted, h2]; simp, by unfold sorted; simpa using h3⟩

theorem strict_ext {a b : List Int} (ha : a.Pairwise (· < ·)) (hb : b.Pairwise (· < ·)) (h : ∀ v, v ∈ a ↔ v ∈ b) : a = b := by
  have na : a.Nodup := ha.imp (fun h => by omega)
  have nb : b.Nodup := hb.imp (fun h => by omega)
  have hp : a.Perm b := (List.perm_ext_iff_of_nodup na nb).2 h
  exact List.Perm.eq_of_pairwise (le := fun a b => a < b) (fun a b _ _ h1 h2 => by omega) ha hb hp

theorem sorted_eq (l : List Int) : sorted l = srt l := strict_ext (sorted_spec l).1 (srt_spec l).1 (fun v => ((sorted_spec l).2.1 v).trans ((srt_spec l).2 v).symm)

theorem sorted_more {l : List Int} {k : Nat} (h : k < l.length) : sorted (l.take (k + 1)) = ins l[k] (sorted (l.take k)) := by
  unfold sorted
  rw [List.take_succ_eq_append_getElem h, List.foldl_append]
  rfl
theorem sorted_take (l : List Int) (k : Nat) : (sorted (l.take k)).length ≤ k := by
  have := (sorted_spec (l.take k)).2.2
  rw [List.length_take] at this
  omega
end Go.Proofs.Ytdpmfcfelncbeaa.RefS

/-
  interlockref01.Put, Sorted.
-/
namespace Go.Proofs.Ytdpmfcfelncbeaa
open Go.RowKit Base
set_option linter.unusedVariables false
set_option linter.unusedSimpArgs false
namespace RefS
open Vals (srt srt_spec)

theorem info_i : (Try.prog.info? 3).map (fun i => (i.zero, i.size, i.bytes)) = some (some (.int .i64 0), 1, 8) := by kernel_rfl
theorem ints_app (xs ys : List Int) : ints xs ++ ints ys = ints (xs ++ ys) := by simp [ints]
theorem sl_drop {w : World} {b o n c : Nat} {l : List Int} (h : Sl w (some ⟨b, o, none⟩) n c (ints l)) {k : Nat} (hk : k ≤ n) :
    Sl w (some ⟨b, o + k, none⟩) (n - k) (c - k) (ints (l.drop k)) := by
  have h2 : ints (l.drop k) = (ints l).drop k := by unfold ints; rw [List.map_drop]
  rw [h2]
  exact ⟨by rw [List.length_drop, h.len], by have := h.cap; omega, by have := h.big; omega, (by intro e; cases e), fun j x hx => by
    rw [List.getElem?_drop] at hx
    obtain ⟨b', o', ha, hs, hc⟩ := h.cell (k + j) x hx
    simp only [Option.some.injEq, Addr.mk.injEq] at ha
    obtain ⟨rfl, rfl, _⟩ := ha
    exact ⟨b, o + k, rfl, hs, by rw [Nat.add_assoc]; exact hc⟩⟩
theorem sl_empty (w : World) (x : Addr) (c : Nat) {n : Nat} (hn : n = 0) (hc : c ≤ 9223372036854775807) : Sl w (some x) n c (ints []) := by
  subst hn
  exact ⟨rfl, Nat.zero_le _, hc, (by intro e; cases e), fun k x h => by simp [ints] at h⟩
theorem take_lt {l : List Int} {n : Int} {j : Nat} (hj : j < l.length) (h : ∀ y ∈ l.take j, y < n) (he : l[j] < n) : ∀ y ∈ l.take (j + 1), y < n := fun y hy => by
  rw [List.take_succ_eq_append_getElem hj] at hy
  rcases List.mem_append.1 hy with hy | hy
  · exact h y hy
  · rw [List.mem_singleton.1 hy]; exact he

set_option maxHeartbeats 4000000 in
theorem put_any (w : World) (a : Option Addr) (n c : Nat) (l : List Int) (hsl : Sl w a n c (ints l)) (hn : (n + 1) * 8 ≤ 140737488355328) (x : Int) :
    Calls Try.prog 29 #[.slice a n c, .int .i64 x] w fun e w' => ∃ a' c', e = .returned (.slice a' (ins x l).length c') ∧ w'.ownsRow w.heap.size 3 1 (.slice a' (ins x l).length c') (ins x l).length (ints (ins x l)) ∧ Below w.heap.size w w' := by
  have HL : Hid (l.length = n) := by have := hsl.len; rwa [ints_len] at this
  have hcap := hsl.cap
  have hbig := hsl.big
  have HSL := Lib.hid hsl
  have HN := Lib.hid hn
  clear hsl hn
  go_enter Try.func29, Try.ntmps29
  go_wp2_with fail
  go_loopw [5, 6] (fun s i wr => ∃ (j : Nat) (a' : Option Addr) (c' : Nat), j ≤ n ∧ i = .int .i64 j ∧ s = .slice a' j c' ∧ Hid (∀ y ∈ l.take j, y < x) ∧ Hid (wr.ownsRow w.heap.size 3 1 (.slice a' j c') j (ints (l.take j))) ∧ Hid (Below w.heap.size w wr)) (fun _ i _ => n - (intOf i).toNat)
  case atStart => exact ⟨0, none, 0, Nat.zero_le _, rfl, rfl, (by intro y hy; simp at hy), World.ownsRow_nil _ _ _ _, Below.refl _ _⟩
  case round =>
    obtain ⟨j, a', c', hj, rfl, rfl, hA, hO, hB⟩ := hrel
    have HJ8 : Hid ((j + 1) * 8 ≤ 140737488355328) := by show _ ≤ _; have := HN.out; omega
    have hbz : w.heap.size ≤ wr.heap.size := hB.out.size
    have HBZ := Lib.hid hbz
    clear hbz
    have hcj : ¬ c < j := by omega
    by_cases hlt : j < n
    · obtain ⟨b, o, hx, rfl, hbs, hcw⟩ := HSL.out.int hlt
      have hc := (hB.out.cell (p := ⟨b, o + j, none⟩) hbs).trans hcw
      have HC3 := Lib.hid (fun (U : World) (hU : Below w.heap.size w U) => (hU.cell (p := ⟨b, o + j, none⟩) hbs).trans hcw)
      have HT := Lib.hid (List.take_succ_eq_append_getElem hx)
      clear hcw
      by_cases hq : l[j] < x
      · have HA2 := Lib.hid (take_lt hx hA.out hq)
        have v0 : decide (l[j] < x) = true := decide_eq_true hq
        generalize l[j] = p at *
        clear hx hq
        go_wp2_with (first | ((with_reducible refine wpL_push w.heap.size wr (.int .i64 p) (.slice a' j c') j (ints (l.take j)) info_i Try.underlying24 rfl ?_ ?_ ?_ rfl hO.out HBZ.out HJ8.out ?_ hB.out ?_); rfl; rfl; rfl; (have := HJ8.out; omega); (intro a3 c3 w3 hown3 hb3 hz3)))
        have HO3 := Lib.hid hown3
        have HB3 := Lib.hid hb3
        clear hown3 hb3 hz3 hc
        go_wp2_with fail
        go_roundw
        case rel => exact ⟨j + 1, a3, c3, by omega, by go_num, rfl, HA2.out, by rw [HT.out, ← ints_app]; exact HO3.out, HB3.out⟩
        case measure => simp [intOf]; omega
      · have v0 : decide (l[j] < x) = false := decide_eq_false hq
        by_cases he : l[j] = x
        · have v1 : (l[j] == x) = true := by simp [he]
          have HI := Lib.hid (ins_hit hA.out hx he)
          generalize l[j] = p at *
          clear hx hq he
          have hcj1 : ¬ c < j + 1 := by omega
          have hnj1 : ¬ n < j + 1 := by omega
          have HDL : Hid (l.drop (j + 1) = l.drop (j + 1)) := rfl
          by_cases hck : c = j + 1
          · have HE := Lib.hid (fun (U : World) => sl_empty U ⟨b, o, none⟩ 0 (n := n - (j + 1)) (by omega) (by omega))
            have HDE : Hid (l.drop (j + 1) = []) := List.drop_of_length_le (by have := HL.out; omega)
            go_wp2_with (first | ((with_reducible refine wpL_push w.heap.size wr (.int .i64 x) (.slice a' j c') j (ints (l.take j)) info_i Try.underlying24 rfl ?_ ?_ ?_ rfl hO.out HBZ.out HJ8.out ?_ hB.out ?_); rfl; rfl; rfl; (have := HJ8.out; omega); (intro a3 c3 w3 hown3 hb3 hz3; have HO3 := Lib.hid hown3; have HB3 := Lib.hid hb3; have HD3 := Lib.hid (HE.out w3); have hc3 := HC3.out w3 hb3; clear hown3 hb3 hz3 hc)) | ((with_reducible refine wpL_app w.heap.size (.slice a3 (j + 1) c3) (j + 1) (ints (l.take j) ++ [.int .i64 x]) (some ⟨b, o, none⟩) (n - (j + 1)) 0 (ints []) info_i Try.underlying24 rfl ?_ ?_ (ints_one _) HO3.out HD3.out HB3.out.size ?_ ?_ HB3.out ?_); rfl; rfl; (have := HN.out; omega); (have := HN.out; omega); (intro a4 c4 w4 hown4 hb4 hz4)))
            have HO4 := Lib.hid hown4
            have HB4 := Lib.hid hb4
            clear hown4 hb4 hz4 hc3
            go_ret
            have hlen : (ins x l).length = j + 1 + (n - (j + 1)) := by
              rw [HI.out]
              have h1 := HL.out
              simp only [List.length_append, List.length_take, List.length_drop, List.length_cons, List.length_nil]
              omega
            have hint : ints (ins x l) = ints (l.take j) ++ [.int .i64 x] ++ (ints []) := by rw [HI.out]; simp [ints, HDE.out]
            exact ⟨a4, c4, by rw [hlen]; rfl, by rw [hlen, hint]; exact HO4.out, HB4.out⟩
          · have HDR := Lib.hid (fun (U : World) (hU : Below w.heap.size w U) => sl_drop (HSL.out.next hU) (k := j + 1) (by omega))
            go_wp2_with (first | ((with_reducible refine wpL_push w.heap.size wr (.int .i64 x) (.slice a' j c') j (ints (l.take j)) info_i Try.underlying24 rfl ?_ ?_ ?_ rfl hO.out HBZ.out HJ8.out ?_ hB.out ?_); rfl; rfl; rfl; (have := HJ8.out; omega); (intro a3 c3 w3 hown3 hb3 hz3; have HO3 := Lib.hid hown3; have HB3 := Lib.hid hb3; have HD3 := Lib.hid (HDR.out w3 hb3); have hc3 := HC3.out w3 hb3; clear hown3 hb3 hz3 hc)) | ((with_reducible refine wpL_app w.heap.size (.slice a3 (j + 1) c3) (j + 1) (ints (l.take j) ++ [.int .i64 x]) (some ⟨b, o + (j + 1), none⟩) (n - (j + 1)) (c - (j + 1)) (ints (l.drop (j + 1))) info_i Try.underlying24 rfl ?_ ?_ (ints_one _) HO3.out HD3.out HB3.out.size ?_ ?_ HB3.out ?_); rfl; rfl; (have := HN.out; omega); (have := HN.out; omega); (intro a4 c4 w4 hown4 hb4 hz4)))
            have HO4 := Lib.hid hown4
            have HB4 := Lib.hid hb4
            clear hown4 hb4 hz4 hc3
            go_ret
            have hlen : (ins x l).length = j + 1 + (n - (j + 1)) := by
              rw [HI.out]
              have h1 := HL.out
              simp only [List.length_append, List.length_take, List.length_drop, List.length_cons, List.length_nil]
              omega
            have hint : ints (ins x l) = ints (l.take j) ++ [.int .i64 x] ++ (ints (l.drop (j + 1))) := by rw [HI.out]; simp [ints, HDL.out]
            exact ⟨a4, c4, by rw [hlen]; rfl, by rw [hlen, hint]; exact HO4.out, HB4.out⟩
        · have v1 : (l[j] == x) = false := by simp [he]
          have HI := Lib.hid (ins_gap hA.out hx (by omega))
          generalize l[j] = p at *
          clear hx hq he
          have hnj1 : ¬ n < j := by omega
          have HDL : Hid (l.drop (j) = l.drop (j)) := rfl
          by_cases hck : c = j
          · exact absurd hck (by omega)
          · have HDR := Lib.hid (fun (U : World) (hU : Below w.heap.size w U) => sl_drop (HSL.out.next hU) (k := j) (by omega))
            go_wp2_with (first | ((with_reducible refine wpL_push w.heap.size wr (.int .i64 x) (.slice a' j c') j (ints (l.take j)) info_i Try.underlying24 rfl ?_ ?_ ?_ rfl hO.out HBZ.out HJ8.out ?_ hB.out ?_); rfl; rfl; rfl; (have := HJ8.out; omega); (intro a3 c3 w3 hown3 hb3 hz3; have HO3 := Lib.hid hown3; have HB3 := Lib.hid hb3; have HD3 := Lib.hid (HDR.out w3 hb3); have hc3 := HC3.out w3 hb3; clear hown3 hb3 hz3 hc)) | ((with_reducible refine wpL_app w.heap.size (.slice a3 (j + 1) c3) (j + 1) (ints (l.take j) ++ [.int .i64 x]) (some ⟨b, o + (j), none⟩) (n - (j)) (c - (j)) (ints (l.drop (j))) info_i Try.underlying24 rfl ?_ ?_ (ints_one _) HO3.out HD3.out HB3.out.size ?_ ?_ HB3.out ?_); rfl; rfl; (have := HN.out; omega); (have := HN.out; omega); (intro a4 c4 w4 hown4 hb4 hz4)))
            have HO4 := Lib.hid hown4
            have HB4 := Lib.hid hb4
            clear hown4 hb4 hz4 hc3
            go_ret
            have hlen : (ins x l).length = j + 1 + (n - (j)) := by
              rw [HI.out]
              have h1 := HL.out
              simp only [List.length_append, List.length_take, List.length_drop, List.length_cons, List.length_nil]
              omega
            have hint : ints (ins x l) = ints (l.take j) ++ [.int .i64 x] ++ (ints (l.drop (j))) := by rw [HI.out]; simp [ints, HDL.out]
            exact ⟨a4, c4, by rw [hlen]; rfl, by rw [hlen, hint]; exact HO4.out, HB4.out⟩
    · have hke : j = n := by omega
      have HI : Hid (ins x l = l.take j ++ [x] ++ l.drop j) := by
        show _ = _
        rw [ins_end (by
          have h := hA.out
          rwa [List.take_of_length_le (by have := HL.out; omega)] at h), List.take_of_length_le (by have := HL.out; omega), List.drop_of_length_le (by have := HL.out; omega), List.append_nil]
      have hnj1 : ¬ n < j := by omega
      clear hke
      by_cases ha : a = none
      · have hbare := HSL.out.bare ha
        subst ha
        obtain ⟨rfl, rfl⟩ := hbare
        obtain rfl : j = 0 := by omega
        have HDL : Hid (l.drop 0 = []) := by show _ = _; rw [List.drop_zero]; exact List.eq_nil_of_length_eq_zero HL.out
        go_wp2_with (first | ((with_reducible refine wpL_push w.heap.size wr (.int .i64 x) (.slice a' 0 c') 0 (ints (l.take 0)) info_i Try.underlying24 rfl ?_ ?_ ?_ rfl hO.out HBZ.out HJ8.out ?_ hB.out ?_); rfl; rfl; rfl; (have := HJ8.out; omega); (intro a3 c3 w3 hown3 hb3 hz3; have HO3 : Hid (w3.ownsRow w.heap.size 3 1 (.slice a3 1 c3) 1 (ints (l.take 0) ++ [.int .i64 x])) := hown3; have HB3 := Lib.hid hb3; have HD3 : Hid (Sl w3 none 0 0 (ints [])) := Sl.nil w3; clear hown3 hb3 hz3)) | ((with_reducible refine wpL_app w.heap.size (.slice a3 1 c3) 1 (ints (l.take 0) ++ [.int .i64 x]) none 0 0 (ints []) info_i Try.underlying24 rfl ?_ ?_ (ints_one _) HO3.out HD3.out HB3.out.size ?_ ?_ HB3.out ?_); rfl; rfl; omega; omega; (intro a4 c4 w4 hown4 hb4 hz4)))
        have HO4 := Lib.hid hown4
        have HB4 := Lib.hid hb4
        clear hown4 hb4 hz4
        go_ret
        have hlen : (ins x l).length = 1 + 0 := by
          rw [HI.out]
          have h1 := HL.out
          simp only [List.length_append, List.length_take, List.length_drop, List.length_cons, List.length_nil]
          omega
        have hint : ints (ins x l) = ints (l.take 0) ++ [.int .i64 x] ++ (ints []) := by rw [HI.out]; simp [ints, HDL.out]
        exact ⟨a4, c4, by rw [hlen]; rfl, by rw [hlen, hint]; exact HO4.out, HB4.out⟩
      · by_cases hn0 : n = 0
        · subst hn0
          obtain rfl : j = 0 := by omega
          obtain ⟨ad, rfl⟩ := Option.ne_none_iff_exists'.1 ha
          have HDL : Hid (l.drop 0 = []) := by show _ = _; rw [List.drop_zero]; exact List.eq_nil_of_length_eq_zero HL.out
          have HE := Lib.hid (fun (U : World) (z : Addr) (d : Nat) (hd : d ≤ 9223372036854775807) => sl_empty U z d (n := 0) rfl hd)
          by_cases hc0 : c = 0
          · go_wp2_with (first | ((with_reducible refine wpL_push w.heap.size wr (.int .i64 x) (.slice a' 0 c') 0 (ints (l.take 0)) info_i Try.underlying24 rfl ?_ ?_ ?_ rfl hO.out HBZ.out HJ8.out ?_ hB.out ?_); rfl; rfl; rfl; (have := HJ8.out; omega); (intro a3 c3 w3 hown3 hb3 hz3; have HO3 : Hid (w3.ownsRow w.heap.size 3 1 (.slice a3 1 c3) 1 (ints (l.take 0) ++ [.int .i64 x])) := hown3; have HB3 := Lib.hid hb3; have HD3 := Lib.hid (HE.out w3 ad 0 (by omega)); clear hown3 hb3 hz3)) | ((with_reducible refine wpL_app w.heap.size (.slice a3 1 c3) 1 (ints (l.take 0) ++ [.int .i64 x]) (some ad) 0 0 (ints []) info_i Try.underlying24 rfl ?_ ?_ (ints_one _) HO3.out HD3.out HB3.out.size ?_ ?_ HB3.out ?_); rfl; rfl; omega; omega; (intro a4 c4 w4 hown4 hb4 hz4)))
            have HO4 := Lib.hid hown4
            have HB4 := Lib.hid hb4
            clear hown4 hb4 hz4
            go_ret
            have hlen : (ins x l).length = 1 + 0 := by
              rw [HI.out]
              have h1 := HL.out
              simp only [List.length_append, List.length_take, List.length_drop, List.length_cons, List.length_nil]
              omega
            have hint : ints (ins x l) = ints (l.take 0) ++ [.int .i64 x] ++ (ints []) := by rw [HI.out]; simp [ints, HDL.out]
            exact ⟨a4, c4, by rw [hlen]; rfl, by rw [hlen, hint]; exact HO4.out, HB4.out⟩
          · have hc0' : ¬ 0 = c := fun h => hc0 h.symm
            go_wp2_with (first | ((with_reducible refine wpL_push w.heap.size wr (.int .i64 x) (.slice a' 0 c') 0 (ints (l.take 0)) info_i Try.underlying24 rfl ?_ ?_ ?_ rfl hO.out HBZ.out HJ8.out ?_ hB.out ?_); rfl; rfl; rfl; (have := HJ8.out; omega); (intro a3 c3 w3 hown3 hb3 hz3; have HO3 : Hid (w3.ownsRow w.heap.size 3 1 (.slice a3 1 c3) 1 (ints (l.take 0) ++ [.int .i64 x])) := hown3; have HB3 := Lib.hid hb3; have HD3 := Lib.hid (HE.out w3 (ad.add 0) c hbig); clear hown3 hb3 hz3)) | ((with_reducible refine wpL_app w.heap.size (.slice a3 1 c3) 1 (ints (l.take 0) ++ [.int .i64 x]) (some (ad.add 0)) 0 c (ints []) info_i Try.underlying24 rfl ?_ ?_ (ints_one _) HO3.out HD3.out HB3.out.size ?_ ?_ HB3.out ?_); rfl; rfl; omega; omega; (intro a4 c4 w4 hown4 hb4 hz4)))
            have HO4 := Lib.hid hown4
            have HB4 := Lib.hid hb4
            clear hown4 hb4 hz4
            go_ret
            have hlen : (ins x l).length = 1 + 0 := by
              rw [HI.out]
              have h1 := HL.out
              simp only [List.length_append, List.length_take, List.length_drop, List.length_cons, List.length_nil]
              omega
            have hint : ints (ins x l) = ints (l.take 0) ++ [.int .i64 x] ++ (ints []) := by rw [HI.out]; simp [ints, HDL.out]
            exact ⟨a4, c4, by rw [hlen]; rfl, by rw [hlen, hint]; exact HO4.out, HB4.out⟩
        · obtain ⟨b, o, _, hab, _⟩ := HSL.out.int (k := 0) (by omega)
          subst hab
          have HDL : Hid (l.drop (j) = l.drop (j)) := rfl
          by_cases hck : c = j
          · have HE := Lib.hid (fun (U : World) => sl_empty U ⟨b, o, none⟩ 0 (n := n - (j)) (by omega) (by omega))
            have HDE : Hid (l.drop (j) = []) := List.drop_of_length_le (by have := HL.out; omega)
            go_wp2_with (first | ((with_reducible refine wpL_push w.heap.size wr (.int .i64 x) (.slice a' j c') j (ints (l.take j)) info_i Try.underlying24 rfl ?_ ?_ ?_ rfl hO.out HBZ.out HJ8.out ?_ hB.out ?_); rfl; rfl; rfl; (have := HJ8.out; omega); (intro a3 c3 w3 hown3 hb3 hz3; have HO3 := Lib.hid hown3; have HB3 := Lib.hid hb3; have HD3 := Lib.hid (HE.out w3); clear hown3 hb3 hz3)) | ((with_reducible refine wpL_app w.heap.size (.slice a3 (j + 1) c3) (j + 1) (ints (l.take j) ++ [.int .i64 x]) (some ⟨b, o, none⟩) (n - (j)) 0 (ints []) info_i Try.underlying24 rfl ?_ ?_ (ints_one _) HO3.out HD3.out HB3.out.size ?_ ?_ HB3.out ?_); rfl; rfl; (have := HN.out; omega); (have := HN.out; omega); (intro a4 c4 w4 hown4 hb4 hz4)))
            have HO4 := Lib.hid hown4
            have HB4 := Lib.hid hb4
            clear hown4 hb4 hz4
            go_ret
            have hlen : (ins x l).length = j + 1 + (n - (j)) := by
              rw [HI.out]
              have h1 := HL.out
              simp only [List.length_append, List.length_take, List.length_drop, List.length_cons, List.length_nil]
              omega
            have hint : ints (ins x l) = ints (l.take j) ++ [.int .i64 x] ++ (ints []) := by rw [HI.out]; simp [ints, HDE.out]
            exact ⟨a4, c4, by rw [hlen]; rfl, by rw [hlen, hint]; exact HO4.out, HB4.out⟩
          · have HDR := Lib.hid (fun (U : World) (hU : Below w.heap.size w U) => sl_drop (HSL.out.next hU) (k := j) (by omega))
            go_wp2_with (first | ((with_reducible refine wpL_push w.heap.size wr (.int .i64 x) (.slice a' j c') j (ints (l.take j)) info_i Try.underlying24 rfl ?_ ?_ ?_ rfl hO.out HBZ.out HJ8.out ?_ hB.out ?_); rfl; rfl; rfl; (have := HJ8.out; omega); (intro a3 c3 w3 hown3 hb3 hz3; have HO3 := Lib.hid hown3; have HB3 := Lib.hid hb3; have HD3 := Lib.hid (HDR.out w3 hb3); clear hown3 hb3 hz3)) | ((with_reducible refine wpL_app w.heap.size (.slice a3 (j + 1) c3) (j + 1) (ints (l.take j) ++ [.int .i64 x]) (some ⟨b, o + (j), none⟩) (n - (j)) (c - (j)) (ints (l.drop (j))) info_i Try.underlying24 rfl ?_ ?_ (ints_one _) HO3.out HD3.out HB3.out.size ?_ ?_ HB3.out ?_); rfl; rfl; (have := HN.out; omega); (have := HN.out; omega); (intro a4 c4 w4 hown4 hb4 hz4)))
            have HO4 := Lib.hid hown4
            have HB4 := Lib.hid hb4
            clear hown4 hb4 hz4
            go_ret
            have hlen : (ins x l).length = j + 1 + (n - (j)) := by
              rw [HI.out]
              have h1 := HL.out
              simp only [List.length_append, List.length_take, List.length_drop, List.length_cons, List.length_nil]
              omega
            have hint : ints (ins x l) = ints (l.take j) ++ [.int .i64 x] ++ (ints (l.drop (j))) := by rw [HI.out]; simp [ints, HDL.out]
            exact ⟨a4, c4, by rw [hlen]; rfl, by rw [hlen, hint]; exact HO4.out, HB4.out⟩

set_option maxHeartbeats 4000000 in
theorem sorted_any (w : World) (a : Option Addr) (n c : Nat) (l : List Int) (hsl : Sl w a n c (ints l)) (hn : (n + 1) * 8 ≤ 140737488355328) :
    Calls Try.prog 14 #[.slice a n c] w fun e w' => ∃ a' c', e = .returned (.slice a' (sorted l).length c') ∧ w'.ownsRow w.heap.size 3 1 (.slice a' (sorted l).length c') (sorted l).length (ints (sorted l)) ∧ Below w.heap.size w w' := by
  have HL : Hid (l.length = n) := by have := hsl.len; rwa [ints_len] at this
  have hcap := hsl.cap
  have hbig := hsl.big
  have HSL := Lib.hid hsl
  have HN := Lib.hid hn
  clear hsl hn
  go_enter Try.func14, Try.ntmps14
  go_wp2_with fail
  go_loopw [3, 4] (fun s i wr => ∃ (j m : Nat) (a' : Option Addr) (c' : Nat), j ≤ n ∧ i = .int .i64 j ∧ s = .slice a' m c' ∧ Hid ((sorted (l.take j)).length = m) ∧ Hid (wr.ownsRow w.heap.size 3 1 (.slice a' m c') m (ints (sorted (l.take j)))) ∧ Hid (Below w.heap.size w wr)) (fun _ i _ => n - (intOf i).toNat)
  case atStart => exact ⟨0, 0, none, 0, Nat.zero_le _, rfl, rfl, rfl, World.ownsRow_nil _ _ _ _, Below.refl _ _⟩
  case round =>
    obtain ⟨j, m, a', c', hj, rfl, rfl, hm, hO, hB⟩ := hrel
    by_cases hlt : j < n
    · obtain ⟨b, o, hx, rfl, hbs, hc⟩ := (HSL.out.next hB.out).int hlt
      have HT := Lib.hid (sorted_more hx)
      have hmj : m ≤ j := by have := sorted_take l j; have := hm.out; omega
      have hos : Sl wr a' m c' (ints (sorted (l.take j))) := by
        obtain ⟨a9, c9, e9, hs9⟩ := own_sl hO.out
        simp only [Value.slice.injEq] at e9
        obtain ⟨rfl, _, rfl⟩ := e9
        exact hs9
      have HP := Lib.hid (put_any wr a' m c' (sorted (l.take j)) hos (by have := HN.out; omega) l[j])
      generalize l[j] = p at *
      clear hos hx
      generalize sorted (l.take j) = L at *
      generalize hM : (ins p L).length = M at *
      have HM := Lib.hid hM
      clear hM
      go_wp2_with fail
      with_reducible refine HP.out.mono ?_
      rintro e w1 ⟨a1, c1, rfl, hown, hb⟩
      have HO1 := Lib.hid (own_mono hown hB.out.size)
      have HB1 := Lib.hid (hB.out.trans (hb.mono hB.out.size))
      clear hown hb
      go_wp2_with fail
      go_roundw
      case rel => exact ⟨j + 1, M, a1, c1, by omega, by go_num, rfl, by rw [HT.out]; exact HM, by rw [HT.out]; exact HO1.out, HB1.out⟩
      case measure => simp [intOf]; omega
    · have HE : Hid (l.take j = l) := List.take_of_length_le (by have := HL.out; omega)
      go_wp2_with fail
      go_ret
      have hm := hm.out
      rw [HE.out] at hm hO
      exact ⟨a', c', by rw [hm]; rfl, by rw [hm]; exact hO.out, hB.out⟩

end RefS
end Go.Proofs.Ytdpmfcfelncbeaa

/-
  Is every literal of a clause one of another clause? As plain lists.
-/
namespace Go.Proofs.Ytdpmfcfelncbeaa
open Go.RowKit Base
set_option linter.unusedVariables false
set_option linter.unusedSimpArgs false
namespace Clause

def subs (a b : List Int) : Bool := a.all fun x => decide (x ∈ b)

theorem subs_iff {a b : List Int} : subs a b = true ↔ ∀ x ∈ a, x ∈ b := by simp [subs]

theorem subs_any (a b : List Int) : (!((a.map fun x => !decide (x ∈ b)).any id)) = subs a b := by
  unfold subs
  rw [List.any_map]
  simp [List.all_eq_not_any_not]

end Clause
end Go.Proofs.Ytdpmfcfelncbeaa

/-
  The reference's Subsumes.
-/
namespace Go.Proofs.Ytdpmfcfelncbeaa
open Go.RowKit Base
set_option linter.unusedVariables false
set_option linter.unusedSimpArgs false
namespace RefC

theorem all_more {α : Type} {xs : List α} {p : α → Bool} {k : Nat} (hk : k < xs.length) (h : (xs.take k).all p = true) (hp : p xs[k] = true) : (xs.take (k + 1)).all p = true := by
  rw [List.take_succ_eq_append_getElem hk, List.all_append, h]; simp [hp]

theorem all_miss {α : Type} {xs : List α} {p : α → Bool} {k : Nat} (hk : k < xs.length) (hp : p xs[k] = false) : xs.all p = false :=
  List.all_eq_false.2 ⟨_, List.getElem_mem hk, by rw [hp]; decide⟩

set_option maxHeartbeats 1000000 in
theorem subs_any (w : World) (a : Option Addr) (n c : Nat) (xs : List Int) (hsl : Sl w a n c (ints xs)) (a2 : Option Addr) (n2 c2 : Nat) (ys : List Int) (hsl2 : Sl w a2 n2 c2 (ints ys)) :
    Calls Try.prog 28 #[.slice a n c, .slice a2 n2 c2] w fun e w' => e = .returned (.bool (Clause.subs xs ys)) ∧ w = w' := by
  have HL : Hid (xs.length = n) := by have := hsl.len; rwa [ints_len] at this
  have hcap := hsl.cap
  have hbig := hsl.big
  have HSL := Lib.hid hsl
  have HH := Lib.hid (fun x => has_any w a2 n2 c2 ys hsl2 x)
  clear hsl hsl2
  go_enter Try.func28, Try.ntmps28
  go_wp2_with fail
  go_loop [5] (fun i => ∃ k : Nat, k ≤ n ∧ i = .int .i64 k ∧ Hid ((xs.take k).all (fun x => decide (x ∈ ys)) = true)) (fun i => n - (intOf i).toNat)
  case atStart => exact ⟨0, Nat.zero_le _, rfl, rfl⟩
  case round =>
    obtain ⟨k, hk, rfl, hI⟩ := hrel
    by_cases hlt : k < n
    · obtain ⟨b, o, hx, rfl, hbs, hc⟩ := HSL.out.int hlt
      have H := Lib.hid (HH.out xs[k])
      have HM := Lib.hid (fun h => all_more (p := fun x => decide (x ∈ ys)) hx hI.out h)
      have HS := Lib.hid (fun h => all_miss (p := fun x => decide (x ∈ ys)) hx h)
      generalize xs[k] = p at *
      cases hq : decide (p ∈ ys)
      · rw [hq] at H
        have HB : Hid (Clause.subs xs ys = false) := HS.out hq
        clear hq
        go_wp2_with fail
        refine H.out.mono ?_; rintro e w1 ⟨rfl, rfl⟩
        go_wp2_with fail
        go_ret
        exact ⟨ret_bool HB.out.symm, rfl⟩
      · rw [hq] at H
        have HB := Lib.hid (HM.out hq)
        clear hq
        go_wp2_with fail
        refine H.out.mono ?_; rintro e w1 ⟨rfl, rfl⟩
        go_wp2_with fail
        go_round
        case rel => exact ⟨k + 1, by omega, by go_num, HB.out⟩
        case measure => simp [intOf]; omega
    · have HB : Hid (Clause.subs xs ys = true) := by
        show _ = _
        have h := hI.out
        rwa [List.take_of_length_le (by rw [HL.out]; omega)] at h
      go_wp2_with fail
      go_ret
      exact ⟨ret_bool HB.out.symm, rfl⟩
end RefC
end Go.Proofs.Ytdpmfcfelncbeaa

/-
  Cells that hold rows of integers.
-/
namespace Go.Proofs.Ytdpmfcfelncbeaa
open Go.RowKit
set_option linter.unusedVariables false
namespace Base

/-- Cells that hold such rows. -/
def RowsV (w : World) (vs : List Value) (L : List (List Int)) : Prop := vs.length = L.length ∧ ∀ (k : Nat) (v : Value) (l : List Int), vs[k]? = some v → L[k]? = some l → IntsV w v l

theorem RowsV.nil (w : World) : RowsV w [] [] := ⟨rfl, fun k v l h => by simp at h⟩

theorem RowsV.snoc {w : World} {us : List Value} {L : List (List Int)} (h : RowsV w us L) {v : Value} {l : List Int} (hv : IntsV w v l) : RowsV w (us ++ [v]) (L ++ [l]) := by
  refine ⟨by simp [h.1], fun k v' l' hk hl => ?_⟩
  by_cases hkk : k < us.length
  · rw [List.getElem?_append_left hkk] at hk
    rw [List.getElem?_append_left (by rw [← h.1]; exact hkk)] at hl
    exact h.2 k v' l' hk hl
  · rw [List.getElem?_append_right (by omega)] at hk
    rw [List.getElem?_append_right (by rw [← h.1]; omega), ← h.1] at hl
    have e : k - us.length = 0 := by
      have := (List.getElem?_eq_some_iff.1 hk).1
      simpa using this
    rw [e] at hk hl
    simp at hk hl
    subst hk; subst hl
    exact hv

theorem RowsV.of {w : World} {a : Option Addr} {n c : Nat} {vs : List Value} {L : List (List Int)} (h : Sl2 w a n c vs L) : RowsV w vs L := ⟨by rw [h.sl.len, h.len], h.row⟩

theorem RowsV.sl2 {w w' : World} {a : Option Addr} {n c : Nat} {vs : List Value} {L : List (List Int)} (h : RowsV w vs L) (hb : Below w.heap.size w w') (hs : Sl w' a n c vs) : Sl2 w' a n c vs L :=
  ⟨hs, by rw [← h.1]; exact hs.len, fun k v l hv hl => (h.2 k v l hv hl).below hb (Nat.le_refl _)⟩

end Base
end Go.Proofs.Ytdpmfcfelncbeaa

/-
  A slice of the call's own whose elements are slices of integers: each of the call's own, or lying below.
-/
namespace Go.Proofs.Ytdpmfcfelncbeaa
open Go.RowKit
set_option linter.unusedVariables false
set_option linter.unusedSimpArgs false
namespace Base

/-- x is a slice that holds xs: of the call's own from N on, or below N. -/
def RowOk (w : World) (N : Nat) (e0 : TypeId) (x : Value) (xs : List Int) : Prop :=
  ∃ a c, x = .slice a xs.length c ∧ Sl w a xs.length c (ints xs) ∧ ((∀ b o, a = some ⟨b, o, none⟩ → xs ≠ [] → b < N) ∨ w.ownsRow N e0 1 x xs.length (ints xs))

theorem RowOk.next {w w' : World} {N : Nat} {e0 : TypeId} {x : Value} {xs : List Int} (h : RowOk w N e0 x xs) (hb : Below w.heap.size w w') : RowOk w' N e0 x xs := by
  obtain ⟨a, c, rfl, hs, h⟩ := h
  refine ⟨a, c, rfl, hs.next hb, ?_⟩
  rcases h with h | h
  · exact .inl h
  · exact .inr (own_next h hb)

theorem RowOk.one {w : World} {N : Nat} {e0 : TypeId} {x : Value} {xs : List Int} (h : RowOk w N e0 x xs) : x.oneCell' = true := by
  obtain ⟨a, c, rfl, _⟩ := h; rfl

theorem RowOk.ints {w : World} {N : Nat} {e0 : TypeId} {x : Value} {xs : List Int} (h : RowOk w N e0 x xs) : IntsV w x xs := by
  obtain ⟨a, c, e, hs, _⟩ := h; exact ⟨a, c, e, hs⟩

theorem RowOk.of_own {w : World} {N : Nat} {e0 : TypeId} {a : Option Addr} {c : Nat} {xs : List Int} (h : w.ownsRow N e0 1 (.slice a xs.length c) xs.length (Base.ints xs)) : RowOk w N e0 (.slice a xs.length c) xs := by
  obtain ⟨a', c', hv, hsl⟩ := own_sl h
  simp only [Value.slice.injEq] at hv
  obtain ⟨rfl, _, rfl⟩ := hv
  exact ⟨a, c, rfl, hsl, .inr h⟩

/-- What lies there already, lies below. -/
theorem RowOk.of_sl {w : World} {N : Nat} {e0 : TypeId} {x : Value} {xs : List Int} (h : IntsV w x xs) (hN : w.heap.size ≤ N) : RowOk w N e0 x xs := by
  obtain ⟨a, c, rfl, hs⟩ := h
  refine ⟨a, c, rfl, hs, .inl fun b o ha hne => ?_⟩
  have hl : 0 < xs.length := List.length_pos_iff.2 hne
  obtain ⟨b', o', _, ha', hlt, _⟩ := hs.int hl
  rw [ha] at ha'
  simp only [Option.some.injEq, Addr.mk.injEq] at ha'
  obtain ⟨rfl, _, _⟩ := ha'
  omega

/-- .. is so from any number on that is no less. -/
theorem RowOk.low {w : World} {N N' : Nat} {e0 : TypeId} {x : Value} {xs : List Int} (h : RowOk w N e0 x xs) (hN : w.heap.size ≤ N') : RowOk w N' e0 x xs := RowOk.of_sl h.ints hN

/-- Behind an append to a row of the call's own of another type. -/
theorem RowOk.kept {w w1 : World} {N : Nat} {e0 e1 : TypeId} {x v : Value} {xs : List Int} {n : Nat} {vals : List Value} (h : RowOk w N e0 x xs) (hown : w.ownsRow N e1 1 v n vals) (he : e0 ≠ e1) (hg : w.grownBy w1 v.ownBlock) : RowOk w1 N e0 x xs := by
  obtain ⟨a, c, rfl, hs, h⟩ := h
  rcases h with h | h
  · refine ⟨a, c, rfl, ⟨hs.len, hs.cap, hs.big, hs.bare, fun k u hu => ?_⟩, .inl h⟩
    obtain ⟨b, o, ha, hlt, hc⟩ := hs.cell k u hu
    have hne : xs ≠ [] := by
      rintro rfl
      simp [Base.ints] at hu
    have hbN := h b o ha hne
    have hblk : w1.heap[b]? = w.heap[b]? := hg.block b hlt (fun e => by have := (hown.lt b e.symm).1; omega)
    exact ⟨b, o, ha, Nat.lt_of_lt_of_le hlt hg.size, (World.cell?_of_block (w := w) (a := ⟨b, o + k, none⟩) hblk).trans hc⟩
  · exact RowOk.of_own (h.kept hg (own_apart h hown he))

structure Mix (w : World) (N : Nat) (e1 e0 : TypeId) (v : Value) (n : Nat) (vals : List Value) (xss : List (List Int)) : Prop where
  outer : w.ownsRow N e1 1 v n vals
  len : xss.length = n
  row : ∀ (i : Nat) (x : Value) (xs : List Int), vals[i]? = some x → xss[i]? = some xs → RowOk w N e0 x xs

theorem Mix.nil (w : World) (N : Nat) (e1 e0 : TypeId) : Mix w N e1 e0 (.slice none 0 0) 0 [] [] := ⟨World.ownsRow_nil _ _ _ _, rfl, fun i x xs h => by simp at h⟩

theorem Mix.next {w w' : World} {N : Nat} {e1 e0 : TypeId} {v : Value} {n : Nat} {vals : List Value} {xss : List (List Int)} (h : Mix w N e1 e0 v n vals xss) (hb : Below w.heap.size w w') : Mix w' N e1 e0 v n vals xss :=
  ⟨own_next h.outer hb, h.len, fun i x xs hx hxs => (h.row i x xs hx hxs).next hb⟩

theorem Mix.sl2 {w : World} {N : Nat} {e1 e0 : TypeId} {v : Value} {n : Nat} {vals : List Value} {xss : List (List Int)} (h : Mix w N e1 e0 v n vals xss) : ∃ a c, v = .slice a n c ∧ Sl2 w a n c vals xss := by
  obtain ⟨a, c, rfl, hs⟩ := own_sl h.outer
  exact ⟨a, c, rfl, hs, h.len, fun k x xs hx hxs => (h.row k x xs hx hxs).ints⟩

theorem Mix.sl2' {w : World} {N : Nat} {e1 e0 : TypeId} {a : Option Addr} {n c : Nat} {vals : List Value} {xss : List (List Int)} (h : Mix w N e1 e0 (.slice a n c) n vals xss) : Sl2 w a n c vals xss := by
  obtain ⟨a', c', hv, hs⟩ := h.sl2
  simp only [Value.slice.injEq] at hv
  obtain ⟨rfl, _, rfl⟩ := hv
  exact hs

theorem Mix.vlen {w : World} {N : Nat} {e1 e0 : TypeId} {v : Value} {n : Nat} {vals : List Value} {xss : List (List Int)} (h : Mix w N e1 e0 v n vals xss) : vals.length = n := by have := h.outer.1; omega

theorem Mix.push {w w1 : World} {N : Nat} {e1 e0 : TypeId} {v v' x : Value} {n : Nat} {vals : List Value} {xss : List (List Int)} (h : Mix w N e1 e0 v n vals xss) (he : e0 ≠ e1) {xs : List Int}
    (hx : RowOk w N e0 x xs) (hown : w1.ownsRow N e1 1 v' (n + 1) (vals ++ [x])) (hg : w.grownBy w1 v.ownBlock) : Mix w1 N e1 e0 v' (n + 1) (vals ++ [x]) (xss ++ [xs]) := by
  have hl := h.vlen
  refine ⟨hown, by simp [h.len], fun i y ys hi hys => ?_⟩
  by_cases hin : i < n
  · rw [List.getElem?_append_left (by omega)] at hi
    rw [List.getElem?_append_left (by rw [h.len]; exact hin)] at hys
    exact (h.row i y ys hi hys).kept h.outer he hg
  · rw [List.getElem?_append_right (by omega)] at hi
    rw [List.getElem?_append_right (by rw [h.len]; omega)] at hys
    have e : i - vals.length = 0 := by
      have := (List.getElem?_eq_some_iff.1 hi).1
      simpa using this
    rw [e] at hi
    rw [h.len, ← hl, e] at hys
    simp only [List.getElem?_cons_zero, Option.some.injEq] at hi hys
    subst hi; subst hys
    exact hx.kept h.outer he hg

/-- append of one slice to such a slice. -/
theorem wpL_pushM {P : Program} {w : World} {ops : Array Oper} {rest : List Oper} {dst : Option Tmp} {ty : TypeId} {pos : String} {af : Array Edge} {a : Act} {Q : Exit → Act → World → Prop}
    {s x : Operand} {t e1 e0 : TypeId} {bytes : Nat} (B : Nat) (w0 : World) (u : Value) (xs : List Int) (v : Value) (n : Nat) (vals : List Value) (xss : List (List Int))
    (hinfo : (P.info? e1).map (fun i => (i.zero, i.size, i.bytes)) = some (some (.slice none 0 0), 1, bytes)) (ht : P.underlying t = some (.slice e1)) (he : e0 ≠ e1)
    (hw : w = w0.alloc (.cells #[u] e1)) (hs : a.eval s = v) (hx : a.eval x = .slice (some ⟨w0.heap.size, 0, none⟩) 1 1)
    (hmix : Mix w0 B e1 e0 v n vals xss) (hu : RowOk w0 B e0 u xs) (hB : B ≤ w0.heap.size) (hn : (n + 1) * bytes ≤ 140737488355328) (hn' : n + 1 ≤ 9223372036854775807) {W : World} (hb : Below B W w0)
    (hK : ∀ a' c w1, Mix w1 B e1 e0 (.slice a' (n + 1) c) (n + 1) (vals ++ [u]) (xss ++ [xs]) → Below B W w1 → w0.heap.size + 1 ≤ w1.heap.size → wpList P ops Q rest (a.put dst (.slice a' (n + 1) c)) w1) :
    wpList P ops Q (⟨dst, .call { callee := .builtin .append, args := #[s, x], argTypes := #[t, t] }, ty, pos, af, none⟩ :: rest) a w := by
  obtain ⟨i, hi, hz0, hz1, hz2⟩ := info_parts hinfo
  subst hw
  refine wpList_append_own _ rfl s x t rfl B e1 i (.slice none 0 0) 1 bytes ht hi hz0 hz1 hz2 rfl (by decide) v n vals hs (hmix.outer.alloc _) ⟨w0.heap.size, 0, none⟩ 1 1 [u] hx rfl (cell_one_new _ _ _) (by intro q hq; simp at hq; subst hq; exact hu.one)
    (by unfold maxLen; omega) hn (by simp; omega) ?_
  intro v' w1 hown' hgrow _
  obtain ⟨a', c, rfl, _⟩ := own_sl hown'
  have hal : Below w0.heap.size w0 (w0.alloc (.cells #[u] e1)) := (Below.refl _ _).alloc (Nat.le_refl _) _
  refine hK a' c w1 ((hmix.next hal).push he (hu.next hal) hown' hgrow) (below_own (hmix.outer.alloc _) hgrow (hb.alloc (by omega) _) (by simp; omega)) ?_
  have := hgrow.size
  simpa using this

/-- From behind a draw. -/
theorem undrew {B : Nat} {w w' : World} (h : Below B w.drew w') : Below B w w' := ⟨h.os, h.tape, h.output, h.size, h.block⟩

/-! ### All of the call's own. -/
theorem Own2.sl2' {w : World} {N : Nat} {e1 e0 : TypeId} {a : Option Addr} {n c : Nat} {vals : List Value} {xss : List (List Int)} (h : Own2 w N e1 e0 (.slice a n c) n vals xss) : Sl2 w a n c vals xss := by
  obtain ⟨a', c', hv, hs⟩ := h.sl2
  simp only [Value.slice.injEq] at hv
  obtain ⟨rfl, _, rfl⟩ := hv
  exact hs

theorem Own2.vlen {w : World} {N : Nat} {e1 e0 : TypeId} {v : Value} {n : Nat} {vals : List Value} {xss : List (List Int)} (h : Own2 w N e1 e0 v n vals xss) : vals.length = n := by have := h.outer.1; omega

theorem Own2.mono {w : World} {N N' : Nat} {e1 e0 : TypeId} {v : Value} {n : Nat} {vals : List Value} {xss : List (List Int)} (h : Own2 w N e1 e0 v n vals xss) (hN : N' ≤ N) : Own2 w N' e1 e0 v n vals xss :=
  ⟨own_mono h.outer hN, h.len, fun i x xs hx hxs => by
    obtain ⟨a, c, rfl, ho⟩ := h.row i x xs hx hxs
    exact ⟨a, c, rfl, own_mono ho hN⟩⟩

theorem Own2.mix {w : World} {N : Nat} {e1 e0 : TypeId} {v : Value} {n : Nat} {vals : List Value} {xss : List (List Int)} (h : Own2 w N e1 e0 v n vals xss) : Mix w N e1 e0 v n vals xss :=
  ⟨h.outer, h.len, fun i x xs hx hxs => by
    obtain ⟨a, c, rfl, ho⟩ := h.row i x xs hx hxs
    exact RowOk.of_own ho⟩

/-- append of one slice of the call's own to such a slice. -/
theorem wpL_pushO {P : Program} {w : World} {ops : Array Oper} {rest : List Oper} {dst : Option Tmp} {ty : TypeId} {pos : String} {af : Array Edge} {a : Act} {Q : Exit → Act → World → Prop}
    {s x : Operand} {t e1 e0 : TypeId} {bytes : Nat} (B : Nat) (w0 : World) (ua : Option Addr) (uc : Nat) (xs : List Int) (ul : Nat) (hul : xs.length = ul) (v : Value) (n : Nat) (vals : List Value) (xss : List (List Int))
    (hinfo : (P.info? e1).map (fun i => (i.zero, i.size, i.bytes)) = some (some (.slice none 0 0), 1, bytes)) (ht : P.underlying t = some (.slice e1)) (he : e0 ≠ e1)
    (hw : w = w0.alloc (.cells #[.slice ua ul uc] e1)) (hs : a.eval s = v) (hx : a.eval x = .slice (some ⟨w0.heap.size, 0, none⟩) 1 1)
    (hmix : Own2 w0 B e1 e0 v n vals xss) (hu : w0.ownsRow B e0 1 (.slice ua ul uc) ul (ints xs)) (hB : B ≤ w0.heap.size) (hn : (n + 1) * bytes ≤ 140737488355328) (hn' : n + 1 ≤ 9223372036854775807) {W : World} (hb : Below B W w0)
    (hK : ∀ a' c w1, Own2 w1 B e1 e0 (.slice a' (n + 1) c) (n + 1) (vals ++ [.slice ua ul uc]) (xss ++ [xs]) → Below B W w1 → w0.heap.size + 1 ≤ w1.heap.size → wpList P ops Q rest (a.put dst (.slice a' (n + 1) c)) w1) :
    wpList P ops Q (⟨dst, .call { callee := .builtin .append, args := #[s, x], argTypes := #[t, t] }, ty, pos, af, none⟩ :: rest) a w := by
  obtain ⟨i, hi, hz0, hz1, hz2⟩ := info_parts hinfo
  subst hw
  subst hul
  refine wpList_append_own _ rfl s x t rfl B e1 i (.slice none 0 0) 1 bytes ht hi hz0 hz1 hz2 rfl (by decide) v n vals hs (hmix.outer.alloc _) ⟨w0.heap.size, 0, none⟩ 1 1 [.slice ua xs.length uc] hx rfl (cell_one_new _ _ _) (by intro q hq; simp at hq; subst hq; rfl)
    (by unfold maxLen; omega) hn (by simp; omega) ?_
  intro v' w1 hown' hgrow _
  obtain ⟨a', c, rfl, _⟩ := own_sl hown'
  have hal : Below w0.heap.size w0 (w0.alloc (.cells #[.slice ua xs.length uc] e1)) := (Below.refl _ _).alloc (Nat.le_refl _) _
  refine hK a' c w1 ((hmix.next hal).push he (own_next hu hal) hown' hgrow) (below_own (hmix.outer.alloc _) hgrow (hb.alloc (by omega) _) (by simp; omega)) ?_
  have := hgrow.size
  simpa using this

theorem own_ints {w : World} {B : Nat} {e : TypeId} {a : Option Addr} {n c : Nat} {xs : List Int} (h : w.ownsRow B e 1 (.slice a n c) n (ints xs)) : Sl w a n c (ints xs) := by
  obtain ⟨a', c', hv, hsl⟩ := own_sl h
  simp only [Value.slice.injEq] at hv
  obtain ⟨rfl, _, rfl⟩ := hv
  exact hsl

end Base
end Go.Proofs.Ytdpmfcfelncbeaa

/-
  interlocklaw30.KeepTells: the walk: what is kept of any clauses, what is known of it, and what is left without some, are as the page says.
-/
namespace Go.Proofs.Ytdpmfcfelncbeaa.keepTells
open Go.RowKit Base Keep keepAgain keepMore
open Vals (srt)
set_option linter.unusedVariables false
set_option linter.unusedSimpArgs false

theorem subs_beyond (l s : List Int) : Clause.subs l s = !beyond l s := by
  show l.all (fun x => decide (x ∈ s)) = !(l.any fun n => !decide (n ∈ s))
  rw [List.all_eq_not_any_not]

theorem lacks_take {k : Kp} {inv : List (List Int)} {j : Nat} (hj : j < inv.length) : (inv.take (j + 1)).all (fun x => hasC k.1 x) = ((inv.take j).all (fun x => hasC k.1 x) && hasC k.1 inv[j]) := by
  rw [List.take_succ_eq_append_getElem hj, List.all_append]
  simp

theorem says_all (k : Kp) (inv : List (List Int)) (tags : List Int) : (Clause.subs k.2 tags && inv.all (fun x => hasC k.1 x)) = says k inv tags := by
  unfold says lacks
  rw [subs_beyond, List.all_eq_not_any_not]

theorem said_take {l : List Kp} {inv : List (List Int)} {tags : List Int} {j : Nat} (hj : j < l.length) : said (l.take (j + 1)) inv tags = (said (l.take j) inv tags || says l[j] inv tags) := by
  unfold said
  rw [List.take_succ_eq_append_getElem hj, List.any_append]
  simp

theorem meets_take {t act : List Int} {j : Nat} (hj : j < t.length) : meets (t.take (j + 1)) act = (meets (t.take j) act || decide (t[j] ∈ act)) := by
  unfold meets
  rw [List.take_succ_eq_append_getElem hj, List.any_append]
  simp

theorem left_take {l : List Kp} {act : List Int} {j : Nat} (hj : j < l.length) : left (l.take (j + 1)) act = left (l.take j) act ++ (if meets l[j].2 act = true then [] else [l[j]]) := by
  unfold left
  rw [List.take_succ_eq_append_getElem hj, List.filter_append]
  cases h : meets l[j].2 act <;> simp [h]

set_option maxHeartbeats 1000000 in
theorem within_any (w : World) (a : Option Addr) (n c : Nat) (xs : List Int) (hsl : Sl w a n c (ints xs)) (a2 : Option Addr) (n2 c2 : Nat) (ys : List Int) (hsl2 : Sl w a2 n2 c2 (ints ys)) :
    Calls Try.prog 13 #[.slice a n c, .slice a2 n2 c2] w fun e w' => e = .returned (.bool (Clause.subs xs ys)) ∧ w = w' := by
  have H := Lib.hid (RefC.subs_any w a n c xs hsl a2 n2 c2 ys hsl2)
  clear hsl hsl2
  generalize Clause.subs xs ys = q at *
  go_enter Try.func13, Try.ntmps13
  go_wp2_with fail
  with_reducible refine H.out.mono ?_
  rintro e w1 ⟨rfl, rfl⟩
  go_wp2_with fail
  go_ret
  exact ⟨rfl, rfl⟩

/-- Elements of an elder world in a slice of the call's own. -/
structure KView (w0 w : World) (B : Nat) (a : Option Addr) (n c : Nat) (vs : List (List Value)) (l : List Kp) : Prop where
  outer : w.ownsRow B 34 2 (.slice a n c) n vs.flatten
  two : ∀ r ∈ vs, r.length = 2
  vlen : vs.length = n
  len : l.length = n
  row : ∀ (i : Nat) (v : List Value) (k : Kp), vs[i]? = some v → l[i]? = some k → KeptIn w0 v k

theorem KView.nil (w0 w : World) (B : Nat) : KView w0 w B none 0 0 [] [] := ⟨World.ownsRow_nil _ _ _ _, by simp, rfl, rfl, fun i v k h => by simp at h⟩

theorem KView.slK {w0 w : World} {B : Nat} {a : Option Addr} {n c : Nat} {vs : List (List Value)} {l : List Kp} (h : KView w0 w B a n c vs l) (hb : Below w0.heap.size w0 w) : SlK w a n c vs l := by
  obtain ⟨a', c', hv, hs⟩ := own_slT (by decide) h.two h.vlen h.outer
  simp only [Value.slice.injEq, true_and] at hv
  obtain ⟨rfl, rfl⟩ := hv
  exact ⟨hs, h.len, fun i v k hv hk => (h.row i v k hv hk).next hb⟩

theorem KView.next {w0 w w' : World} {B : Nat} {a : Option Addr} {n c : Nat} {vs : List (List Value)} {l : List Kp} (h : KView w0 w B a n c vs l) (hb : Below w.heap.size w w') : KView w0 w' B a n c vs l :=
  ⟨own_next h.outer hb, h.two, h.vlen, h.len, h.row⟩

theorem KView.push {w0 w w1 : World} {B : Nat} {a : Option Addr} {n c : Nat} {vs : List (List Value)} {l : List Kp} (h : KView w0 w B a n c vs l) {v : List Value} {k : Kp} (hv : KeptIn w0 v k) {a' : Option Addr} {c' : Nat} (hown : w1.ownsRow B 34 2 (.slice a' (n + 1) c') (n + 1) (vs ++ [v]).flatten) : KView w0 w1 B a' (n + 1) c' (vs ++ [v]) (l ++ [k]) := by
  have h2 : v.length = 2 := by obtain ⟨_, _, _, _, _, rfl, _⟩ := hv; rfl
  refine ⟨hown, fun r hr => ?_, by rw [List.length_append, h.vlen]; rfl, by rw [List.length_append, h.len]; rfl, fun i u y hu hy => ?_⟩
  · rcases List.mem_append.1 hr with hr | hr
    · exact h.two r hr
    · rw [List.mem_singleton] at hr; rw [hr]; exact h2
  · by_cases hin : i < n
    · rw [List.getElem?_append_left (by rw [h.vlen]; exact hin)] at hu
      rw [List.getElem?_append_left (by rw [h.len]; exact hin)] at hy
      exact h.row i u y hu hy
    · rw [List.getElem?_append_right (by rw [h.vlen]; omega)] at hu
      rw [List.getElem?_append_right (by rw [h.len]; omega)] at hy
      have e : i - vs.length = 0 := by
        have := (List.getElem?_eq_some_iff.1 hu).1
        simpa using this
      rw [e] at hu
      rw [h.len, ← h.vlen, e] at hy
      simp only [List.getElem?_cons_zero, Option.some.injEq] at hu hy
      subst hu; subst hy
      exact hv

/-- A slice without its first one. -/
theorem slK_tail {w : World} {b o n c : Nat} {v : List Value} {vs : List (List Value)} {k : Kp} {l : List Kp} (h : SlK w (some ⟨b, o, none⟩) (n + 1) c (v :: vs) (k :: l)) : SlK w (some ⟨b, o + 2, none⟩) n (c - 1) vs l := by
  refine ⟨⟨?_, ?_, ?_, (fun h => by cases h), fun i r hr => ?_⟩, ?_, fun i u y hu hy => h.row (i + 1) u y (by simpa using hu) (by simpa using hy)⟩
  · have := h.sl.len; simp at this; exact this
  · have := h.sl.cap; omega
  · have := h.sl.big; omega
  · obtain ⟨h1, b', o', ha, hb, hc⟩ := h.sl.cell (i + 1) r (by simpa using hr)
    simp only [Option.some.injEq, Addr.mk.injEq, and_true] at ha
    obtain ⟨rfl, rfl⟩ := ha
    refine ⟨h1, b, o + 2, rfl, hb, fun j x hx => ?_⟩
    have := hc j x hx
    have e : o + (i + 1) * 2 + j = o + 2 + i * 2 + j := by omega
    rw [e] at this
    exact this
  · have := h.len; simp at this; exact this

/-- What Put told, in one word. -/
theorem put_view {w : World} {B : Nat} {r : Option (List Kp)} {e : Ending} (h : PutOut B r e w) : ∃ a' c' vs', e = .returned (.tuple #[.slice a' (r.getD []).length c', .bool r.isSome]) ∧ SlK w a' (r.getD []).length c' vs' (r.getD []) := by
  cases r with
  | none => exact ⟨none, 0, [], h, SlK.nil w⟩
  | some m =>
    obtain ⟨a', c', vs', he, hk⟩ := h
    exact ⟨a', c', vs', he, hk.slK⟩

theorem one_subs (act : List Int) (k : Kp) (out : List (List Int)) (x : List Int) : Keep.one act k out x = if (Clause.subs k.2 act && !hasC out x) = true then out ++ [x] else out := by
  unfold Keep.one
  rw [subs_beyond]
  cases beyond k.2 act <;> cases hasC out x <;> rfl

theorem short_fold {act : List Int} {l : List Kp} (h : ∀ k ∈ l, Short k.1) : Short (l.foldl (knownK act) []) := fun x hx => by
  rcases known_from l hx with h0 | ⟨k, hk, hx, _⟩
  · cases h0
  · exact h k hk x hx
theorem short_one {act : List Int} {k : Kp} {xs out : List (List Int)} (h1 : Short xs) (h2 : Short out) : Short (xs.foldl (Keep.one act k) out) := fun x hx => by
  rcases fold_from _ hx with h | ⟨h, _⟩
  · exact h2 x h
  · exact h1 x h

/-- append of one value to a slice of the call's own (elements of one cell), the block that it grew in told. -/
theorem wpL_pushH {P : Program} {w : World} {ops : Array Oper} {rest : List Oper} {dst : Option Tmp} {ty : TypeId} {pos : String} {af : Array Edge} {a : Act} {Q : Exit → Act → World → Prop}
    {s x : Operand} {t e : TypeId} {z : Value} {bytes : Nat} (B : Nat) (w0 : World) (u : Value) (v : Value) (n : Nat) (vs : List Value)
    (hinfo : (P.info? e).map (fun i => (i.zero, i.size, i.bytes)) = some (some z, 1, bytes)) (ht : P.underlying t = some (.slice e)) (hzs : z.cells.size = 1)
    (hw : w = w0.alloc (.cells #[u] e)) (hs : a.eval s = v) (hx : a.eval x = .slice (some ⟨w0.heap.size, 0, none⟩) 1 1) (hu : u.oneCell' = true)
    (hown : w0.ownsRow B e 1 v n vs) (hB : B ≤ w0.heap.size) (hn : (n + 1) * bytes ≤ 140737488355328) (hn' : n + 1 ≤ 9223372036854775807)
    (hK : ∀ a' c w1, w1.ownsRow B e 1 (.slice a' (n + 1) c) (n + 1) (vs ++ [u]) → w.grownBy w1 v.ownBlock → wpList P ops Q rest (a.put dst (.slice a' (n + 1) c)) w1) :
    wpList P ops Q (⟨dst, .call { callee := .builtin .append, args := #[s, x], argTypes := #[t, t] }, ty, pos, af, none⟩ :: rest) a w := by
  obtain ⟨i, hi, hz0, hz1, hz2⟩ := info_parts hinfo
  subst hw
  refine wpList_append_own _ rfl s x t rfl B e i z 1 bytes ht hi hz0 hz1 hz2 hzs (by decide) v n vs hs (hown.alloc _) ⟨w0.heap.size, 0, none⟩ 1 1 [u] hx rfl (cell_one_new _ _ _) (by intro q hq; simp at hq; subst hq; exact hu)
    (by unfold maxLen; omega) hn (by simp; omega) ?_
  intro v' w1 hown' hgrow _
  obtain ⟨a', c, rfl, _⟩ := own_sl hown'
  exact hK a' c w1 hown' hgrow

theorem slK_one {w : World} {a : Option Addr} {n c : Nat} {vs : List (List Value)} {l : List Kp} (h : SlK w a n c vs l) : (∀ r ∈ vs, r.length = 2) ∧ ∀ u ∈ vs.flatten, u.oneCell' = true := by
  have hrow : ∀ r ∈ vs, ∃ k, KeptIn w r k := fun r hr => by
    obtain ⟨i, hi, rfl⟩ := List.mem_iff_getElem.1 hr
    have hl : i < l.length := by rw [h.len, ← h.sl.len]; exact hi
    exact ⟨_, h.row i _ _ (List.getElem?_eq_getElem hi) (List.getElem?_eq_getElem hl)⟩
  refine ⟨fun r hr => ?_, fun u hu => ?_⟩
  · obtain ⟨k, _, _, _, _, _, rfl, _⟩ := hrow r hr
    rfl
  · obtain ⟨r, hr, hu⟩ := List.mem_flatten.1 hu
    obtain ⟨k, _, _, _, _, _, rfl, _⟩ := hrow r hr
    simp only [List.mem_cons, List.not_mem_nil, or_false] at hu
    rcases hu with rfl | rfl <;> rfl

/-- What was put together: the elder ones, and one more. -/
theorem slK_more {w w2 : World} {a : Option Addr} {n c : Nat} {vs : List (List Value)} {l : List Kp} (h : SlK w a n c vs l) (hb : Below w.heap.size w w2) {B : Nat} {v : List Value} {k : Kp} (hv : KeptIn w2 v k) (hv2 : v.length = 2) {a' : Option Addr} {c' : Nat} (hown : w2.ownsRow B 34 2 (.slice a' (n + 1) c') (n + 1) (vs ++ [v]).flatten) : SlK w2 a' (n + 1) c' (vs ++ [v]) (l ++ [k]) := by
  have h2 := (slK_one h).1
  obtain ⟨a9, c9, hv9, hs⟩ := own_slT (by decide) (by intro r hr; rcases List.mem_append.1 hr with hr | hr; exact h2 r hr; rw [List.mem_singleton] at hr; rw [hr]; exact hv2) (by rw [List.length_append, h.sl.len]; rfl) hown
  simp only [Value.slice.injEq, true_and] at hv9
  obtain ⟨rfl, rfl⟩ := hv9
  refine ⟨hs, by rw [List.length_append, h.len]; rfl, fun i u y hu hy => ?_⟩
  by_cases hin : i < n
  · rw [List.getElem?_append_left (by rw [h.sl.len]; exact hin)] at hu
    rw [List.getElem?_append_left (by rw [h.len]; exact hin)] at hy
    exact (h.row i u y hu hy).next hb
  · rw [List.getElem?_append_right (by rw [h.sl.len]; omega)] at hu
    rw [List.getElem?_append_right (by rw [h.len]; omega)] at hy
    have e : i - vs.length = 0 := by
      have := (List.getElem?_eq_some_iff.1 hu).1
      simpa using this
    rw [e] at hu
    rw [h.len, ← h.sl.len, e] at hy
    simp only [List.getElem?_cons_zero, Option.some.injEq] at hu hy
    subst hu; subst hy
    exact hv

set_option maxRecDepth 8000 in
set_option maxHeartbeats 16000000 in
theorem walk {w : World} (a0 : Option Addr) (c0 : Nat) (l : List Kp) (y0 : List (List Value)) (s0 : SlK w a0 l.length c0 y0 l) (w0 : ∀ k ∈ l, (∀ x ∈ k.1, Clause.Wf x) ∧ Clause.Wf k.2) (z0 : Open.bulkKept l ≤ 1048576)
    (a1 : Option Addr) (c1 : Nat) (inv : List (List Int)) (y1 : List Value) (s1 : Sl2 w a1 inv.length c1 y1 inv) (w1 : ∀ x ∈ inv, Clause.Wf x) (z1 : Open.bulkRows inv ≤ 1048576)
    (a2 : Option Addr) (c2 : Nat) (tags : List Int) (s2 : Sl w a2 tags.length c2 (ints tags)) (w2 : Clause.Wf tags) (z2 : Open.bulkInts tags ≤ 1048576)
    (a3 : Option Addr) (c3 : Nat) (act : List Int) (s3 : Sl w a3 act.length c3 (ints act)) (w3 : Clause.Wf act) (z3 : Open.bulkInts act ≤ 1048576) (W : World) (hW : W = w) :
    Calls Try.prog 6 #[.slice a0 l.length c0, .slice a1 inv.length c1, .slice a2 tags.length c2, .slice a3 act.length c3] W fun e W' => e = .returned (.bool true) ∧ Below W.heap.size W W' := by
  subst hW
  have hok := kept_ok w0 z0
  have hfit := kept_fit z0
  have hri := rows_ok w1 z1
  have hbl := Open.bulkKept_len l
  have hbr := Open.bulkRows_len inv
  have hshl : ∀ k ∈ l, Short k.1 := fun k hk x hx => by have := (hbl.2.2 k hk).2.2 x hx; omega
  have hshi : Short inv := fun x hx => by have := hbr.2 x hx; omega
  have ht : tags.length ≤ 1048576 := by have := z2; rw [Open.bulkInts_eq] at this; omega
  have hm : act.length ≤ 1048576 := by have := z3; rw [Open.bulkInts_eq] at this; omega
  have hll : l.length ≤ 1048576 := by omega
  have hil : inv.length ≤ 1048576 := by omega
  have hsz : sz l ≤ 1048576 := by omega
  have HAL := Lib.hid (fun (U : World) => alive_any U)
  have HP1 := Lib.hid (fun (U : World) (hU : Below W.heap.size W U) => put_any U a0 l.length c0 y0 l (s0.next hU) hok hfit (by omega) a1 inv.length c1 y1 inv (s1.next hU) hri a2 tags.length c2 tags (s2.next hU) (by omega) (by omega))
  have HKA := Lib.hid (fun (U : World) (hU : Below W.heap.size W U) => known_any U a0 l.length c0 y0 l (s0.next hU) hok (by omega) a3 act.length c3 act (s3.next hU))
  have HDR := Lib.hid (fun (U : World) (hU : Below W.heap.size W U) => drop_any U a0 l.length c0 y0 l (s0.next hU) (by omega) hfit a3 act.length c3 act (s3.next hU))
  have HSZ := Lib.hid (fun (U : World) (hU : Below W.heap.size W U) => size_any U a0 l.length c0 y0 l (s0.next hU) (by omega))
  have HLZ := Lib.hid (fun (U : World) (hU : Below W.heap.size W U) => lawSize_any U a0 l.length c0 y0 l (s0.next hU) (by omega))
  have HSO := Lib.hid (fun (U : World) (hU : Below W.heap.size W U) => RefS.sorted_any U a2 tags.length c2 tags (s2.next hU) (by omega))
  rw [RefS.sorted_eq] at HSO
  have HT := Lib.hid (fun (U : World) (hU : Below W.heap.size W U) => s2.next hU)
  have HM := Lib.hid (fun (U : World) (hU : Below W.heap.size W U) => s3.next hU)
  have HI := Lib.hid (fun (U : World) (hU : Below W.heap.size W U) => s1.next hU)
  have HS := Lib.hid (fun (U : World) (hU : Below W.heap.size W U) => s0.next hU)
  have HOK := Lib.hid hok
  have HRI := Lib.hid hri
  have HSHI := Lib.hid hshi
  have HSHL := Lib.hid hshl
  have HTL := Lib.hid ht
  have HML := Lib.hid hm
  have HLL := Lib.hid hll
  have HIL := Lib.hid hil
  have HSZL := Lib.hid hsz
  have hca := s0.sl.cap
  have hba := s0.sl.big
  have hci := s1.sl.cap
  have hbi := s1.sl.big
  have HSB := Lib.hid (fun (U : World) (k : Kp) (a7 : Option Addr) (c7 : Nat) (h7 : Sl U a7 k.2.length c7 (ints k.2)) (a8 : Option Addr) (n8 c8 : Nat) (ys : List Int) (h8 : Sl U a8 n8 c8 (ints ys)) => within_any U a7 _ c7 k.2 h7 a8 n8 c8 ys h8)
  clear s0 w0 z0 s1 w1 z1 s2 w2 z2 s3 w3 z3 hok hfit hri hbl hbr hsz hshl hshi ht hm hll hil
  go_enter Try.func6, Try.ntmps6
  go_wp2_with fail
  go_loopw [9, 10] (fun s i wr => ∃ (k : Nat) (q : Bool), k ≤ l.length ∧ i = .int .i64 k ∧ s = .bool q ∧ Hid (said (l.take k) inv tags = q) ∧ Hid (Below W.heap.size W wr)) (fun _ i _ => l.length - (intOf i).toNat)
  case atStart => exact ⟨0, false, Nat.zero_le _, rfl, rfl, rfl, Below.refl _ _⟩
  case round =>
    obtain ⟨k, q, hk, rfl, rfl, hq, hB⟩ := hrel
    by_cases hlt : k < l.length
    · obtain ⟨b, o, a7, c7, vals, a8, c8, hx, hae, hbs, d0, d1, hs1, hs2, _⟩ := (HS.out wr hB.out).at hlt
      subst hae
      have HTK := Lib.hid (said_take (inv := inv) (tags := tags) hx)
      have HSA := Lib.hid (says_all l[k] inv tags)
      have HKO := Lib.hid (HOK.out _ (List.getElem_mem hx))
      have HKS := Lib.hid (HSHL.out _ (List.getElem_mem hx))
      have HW1 := Lib.hid (HSB.out wr l[k] a8 c8 hs2 a2 tags.length c2 tags (HT.out wr hB.out))
      generalize l[k] = y at *
      have HS1 := Lib.hid hs1
      have HD0 := Lib.hid (fun (U : World) (hU : Below wr.heap.size wr U) => (hU.cell (p := ⟨b, o + k * 2, none⟩) hbs).trans d0)
      have HBS := Lib.hid hbs
      clear hs1 hs2 hbs
      generalize hsq : Clause.subs y.2 tags = sq at *
      have HSQ := Lib.hid hsq
      clear hsq
      go_wp2_with fail
      with_reducible refine HW1.out.mono ?_
      rintro e w5 ⟨rfl, rfl⟩
      clear d0 d1
      go_wp2_with fail
      generalize wr = wo at *
      go_loopw [11, 12] (fun s i wq => ∃ (j : Nat) (p : Bool), j ≤ inv.length ∧ i = .int .i64 j ∧ s = .bool p ∧ Hid ((sq && (inv.take j).all (fun x => hasC y.1 x)) = p) ∧ Hid (Below wo.heap.size wo wq)) (fun _ i _ => inv.length - (intOf i).toNat)
      case atStart => exact ⟨0, sq, Nat.zero_le _, rfl, rfl, (by show _ = _; simp), Below.refl _ _⟩
      case round =>
        generalize wr = wq at *
        obtain ⟨j, p, hj, rfl, rfl, hp, hbq⟩ := hrel
        by_cases hjl : j < inv.length
        · have HBW := Lib.hid (hB.out.trans (hbq.out.mono hB.out.size))
          obtain ⟨b2, o2, ax, cx, hx2, hae2, hbs2, e0, hsx, _⟩ := (HI.out wq HBW.out).at hjl
          subst hae2
          have HT2 := Lib.hid (lacks_take (k := y) hx2)
          have d0 := HD0.out wq hbq.out
          cases p
          · clear hsx
            go_upto_region 9 with fail
            refine Lex.region (fun w' : World => Below wq.heap.size wq w') (by kernel_rfl) (by kernel_rfl) ((Below.refl _ _).drew) ?_
            repeat (first
              | (refine Lex.step_val (v := ?_) ?_ (fun w' hSw => ?_) ?_; rotate_left; (focus (go_simp; done)); (focus (clear hSw; go_simp; (try with_reducible rfl); done)); (try simp only [Act.put, List.setIfInBounds_toArray, List.set_cons_zero, List.set_cons_succ]))
              | (refine Lex.step_off ?_ ?_; (focus (first | (go_simp; done) | (simp [Region.wanted, yielded, undef]; done) | rfl)); (try simp only [Act.put, List.setIfInBounds_toArray, List.set_cons_zero, List.set_cons_succ]))
              | fail)
            refine Lex.step_nil ?_
            intro wz hz
            go_wp2_with fail
            go_roundw
            case rel =>
              refine ⟨j + 1, false, by omega, by go_num, rfl, ?_, hbq.out.trans (hz.mono hbq.out.size)⟩
              show _ = _
              rw [HT2.out, ← Bool.and_assoc, hp.out]
              rfl
            case measure => simp [intOf]; omega
          · have HC : ∀ U : World, Below wq.heap.size wq U → Below wq.heap.size wq U ∧ U.cell? ⟨b, o + k * 2, none⟩ = some (.slice a7 y.1.length c7) ∧ U.cell? ⟨b2, o2 + j, none⟩ = some (.slice ax inv[j].length cx) := fun U hU => ⟨hU, (hU.cell (p := ⟨b, o + k * 2, none⟩) (Nat.lt_of_lt_of_le HBS.out hbq.out.size)).trans d0, (hU.cell (p := ⟨b2, o2 + j, none⟩) hbs2).trans e0⟩
            have HLH := fun (U : World) (hU : Below wq.heap.size wq U ∧ U.cell? ⟨b, o + k * 2, none⟩ = some (.slice a7 y.1.length c7) ∧ U.cell? ⟨b2, o2 + j, none⟩ = some (.slice ax inv[j].length cx)) => (lawHas_any U a7 _ c7 vals y.1 ((HS1.out.next hbq.out).next hU.1) HKO.out HKS.out ax _ cx inv[j] (hsx.next hU.1) (HRI.out _ (List.getElem_mem hx2)).1 (HSHI.out _ (List.getElem_mem hx2))).mono (fun e w' h => (⟨h.1, HC w' (hU.1.trans (h.2.mono hU.1.size))⟩ : e = .returned (.bool (hasC y.1 inv[j])) ∧ _))
            have HF := Lib.hid (HC wq.drew (Below.refl _ _).drew)
            have HH := Lib.hid HLH
            clear HLH HC hsx d0
            generalize hhq : hasC y.1 inv[j] = hq' at *
            have HHQ := Lib.hid hhq
            clear hhq
            generalize inv[j] = x at *
            clear hx2 e0 hbs2
            go_upto_region 9 with fail
            go_region_held3 (fun w' => Below wq.heap.size wq w' ∧ w'.cell? ⟨b, o + k * 2, none⟩ = some (.slice a7 y.1.length c7) ∧ w'.cell? ⟨b2, o2 + j, none⟩ = some (.slice ax x.length cx)) (first | exact HF.out | assumption) (first
              | (go_at_call 9; refine (HH.out _ (by assumption)).mono ?_; rintro e w' ⟨rfl, hS'⟩))
            rename_i wz hz
            have HBZ := Lib.hid (hbq.out.trans (hz.1.mono hbq.out.size))
            clear hz
            go_wp2_with fail
            go_roundw
            case rel =>
              refine ⟨j + 1, hq', by omega, by go_num, rfl, ?_, HBZ.out⟩
              show _ = _
              rw [HT2.out, ← Bool.and_assoc, hp.out]
              rfl
            case measure => simp [intOf]; omega
        · have hje : j = inv.length := by omega
          subst hje
          have HPP : Hid (says y inv tags = p) := by
            have h := hp.out
            rw [List.take_length] at h
            show _ = _
            rw [← HSA.out]
            exact h
          cases q
          all_goals
            go_wp2_with fail
            go_roundw
            case rel =>
              refine ⟨k + 1, _, by omega, by go_num, rfl, ?_, hB.out.trans (hbq.out.mono hB.out.size)⟩
              show _ = _
              rw [HTK.out, hq.out, HPP.out]
              first | rfl | simp
            case measure => simp [intOf]; omega
    · have hke : k = l.length := by omega
      subst hke
      rw [List.take_length] at hq
      have HPD : Hid (put l inv tags = if inv.length = 0 ∨ 256 < inv.length ∨ said l inv tags = true then none else some (trim (l ++ [(inv, srt tags)]))) := rfl
      rw [hq.out] at HPD
      clear hlt hq
      generalize wr = wo at *
      go_upto_region 12 with fail
      go_cut [14] (fun s wx => s = .bool (put l inv tags).isSome ∧ Below wo.heap.size wo wx)
      case first =>
        by_cases h1 : inv.length = 0
        · have hd1 : decide ((0 : Int) < (inv.length : Int)) = false := decide_eq_false (by omega)
          have hd1n : decide (0 < inv.length) = false := decide_eq_false (by omega)
          have hd1m : ¬ 0 < inv.length := by omega
          have HR : Hid ((put l inv tags).isSome = false) := by show _ = _; rw [HPD.out, if_pos (.inl h1)]; rfl
          clear h1
          go_wp2_with fail
          go_meet
          exact ⟨by rw [HR.out]; first | done | rfl, Below.refl _ _⟩
        · have hd1 : decide ((0 : Int) < (inv.length : Int)) = true := decide_eq_true (by omega)
          have hd1n : decide (0 < inv.length) = true := decide_eq_true (by omega)
          by_cases h2 : 256 < inv.length
          · have hd2 : decide ((inv.length : Int) ≤ 256) = false := decide_eq_false (by omega)
            have HR : Hid ((put l inv tags).isSome = false) := by show _ = _; rw [HPD.out, if_pos (.inr (.inl h2))]; rfl
            clear h1 h2
            go_wp2_with fail
            go_meet
            exact ⟨by rw [HR.out]; first | done | rfl, Below.refl _ _⟩
          · have hd2 : decide ((inv.length : Int) ≤ 256) = true := decide_eq_true (by omega)
            cases q
            · have HR : Hid ((put l inv tags).isSome = true) := by show _ = _; rw [HPD.out, if_neg (by rintro (h | h | h); exact h1 h; exact h2 h; cases h)]; rfl
              clear h1 h2
              go_wp2_with fail
              go_meet
              exact ⟨by rw [HR.out]; first | done | rfl, Below.refl _ _⟩
            · have HR : Hid ((put l inv tags).isSome = false) := by show _ = _; rw [HPD.out, if_pos (.inr (.inr rfl))]; rfl
              clear h1 h2
              go_wp2_with fail
              go_meet
              exact ⟨by rw [HR.out]; first | done | rfl, Below.refl _ _⟩
      case rest =>
        obtain ⟨rfl, hbc⟩ := hcut
        have HBC := Lib.hid (hB.out.trans (hbc.mono hB.out.size))
        clear hbc hB
        have HOC := Lib.hid (fun (U : World) (hU : Below W.heap.size W U) => (HP1.out U hU).mono (fun e w' h => (⟨put_view h.1, h.2⟩ : (∃ a' c' vs', e = .returned (.tuple #[.slice a' ((put l inv tags).getD []).length c', .bool (put l inv tags).isSome]) ∧ SlK w' a' ((put l inv tags).getD []).length c' vs' ((put l inv tags).getD [])) ∧ Below U.heap.size U w')))
        have HGD : Hid ((put l inv tags).isSome = true → (put l inv tags).getD [] = trim (l ++ [(inv, srt tags)]) ∧ inv.length ≤ 256) := fun h => by
          have h2 := HPD.out
          by_cases hc : inv.length = 0 ∨ 256 < inv.length ∨ q = true
          · rw [if_pos hc] at h2
            rw [h2] at h
            cases h
          · rw [if_neg hc] at h2
            rw [h2]
            exact ⟨rfl, by omega⟩
        have HGN : Hid ((put l inv tags).isSome = false → (put l inv tags).getD [] = []) := fun h => by
          cases hp : put l inv tags with
          | none => rfl
          | some m => rw [hp] at h; cases h
        clear HP1 HPD
        generalize (put l inv tags).getD [] = R at *
        generalize (put l inv tags).isSome = pb at *
        go_upto_if 71 with fail
        go_cut [13] (fun s wx => ∃ a' c' vs', s = .slice a' R.length c' ∧ Hid (SlK wx a' R.length c' vs' R) ∧ Hid (Below wc.heap.size wc wx))
        case first =>
          cases pb
          · have HRE := Lib.hid (HGN.out rfl)
            go_wp2_with fail
            go_meet
            exact ⟨none, 0, [], by rw [HRE.out]; rfl, by rw [HRE.out]; exact SlK.nil _, Below.refl _ _⟩
          · obtain ⟨hRT, h256⟩ := HGD.out rfl
            have HRT := Lib.hid hRT
            have H256 := Lib.hid h256
            have hsc := HS.out wc HBC.out
            have HSC := Lib.hid hsc
            have HO1 := Lib.hid (slK_one hsc).1
            have HO2 := Lib.hid (slK_one hsc).2
            have HN0 : Hid (wc.ownsRow wc.heap.size 34 2 (.slice none 0 0) 0 ([] : List (List Value)).flatten) := World.ownsRow_nil _ _ _ _
            have HSL : Hid (SlT wc 2 a0 l.length c0 y0) := hsc.sl
            clear hRT h256 hsc
            go_wp2_with (first
              | ((with_reducible refine wpL_appK (k := 2) (by decide) wc.heap.size (.slice none 0 0) 0 [] a0 l.length c0 y0 info_kept Try.underlying22 rfl ?_ ?_ HO2.out HO1.out HN0.out HSL.out (Nat.le_refl _) ?_ ?_ (Below.refl _ _) ?_); rfl; rfl; (have := HLL.out; omega); (have := HLL.out; omega); (rw [Nat.zero_add, List.nil_append]; intro a5 c5 w5 hown5 hb5 hz5)))
            have HO5 := Lib.hid hown5
            have HB5 := Lib.hid hb5
            have HS5 := Lib.hid (HSO.out w5 (HBC.out.trans (hb5.mono HBC.out.size)))
            clear hown5 hb5 hz5
            with_reducible refine HS5.out.mono ?_
            rintro e w6 ⟨a6, c6, rfl, hown6, hb6⟩
            generalize hst : srt tags = st at *
            have HST := Lib.hid hst
            clear hst
            obtain ⟨W7, hW7⟩ : ∃ U, w6.alloc (.cells #[.slice a1 inv.length c1, .slice a6 st.length c6] 34) = U := ⟨_, rfl⟩
            have hb7 : Below w6.heap.size w6 W7 := by rw [← hW7]; exact (Below.refl _ _).alloc (Nat.le_refl _) _
            have x7 := BoxN.new w6 #[.slice a1 inv.length c1, .slice a6 st.length c6] 34
            rw [hW7] at x7
            have hb57 := hb6.trans (hb7.mono hb6.size)
            have HO7 := Lib.hid (own_next HO5.out hb57)
            have HB7 := Lib.hid (HB5.out.trans (hb57.mono HB5.out.size))
            have HX7 := Lib.hid x7
            have HT7 := Lib.hid (own_next hown6 hb7)
            have HNN : Hid ((l.length + 1) * 48 ≤ 140737488355328) := by show _ ≤ _; have := HLL.out; omega
            clear hown6 hb6 hb7 x7 hb57
            go_wp2_with ((with_reducible refine wpL_pushK (k := 2) (by decide) wc.heap.size (.slice a5 l.length c5) l.length y0 ⟨w6.heap.size, 0, none⟩ 1 [.slice a1 inv.length c1, .slice a6 st.length c6] info_kept Try.underlying22 rfl ?_ ?_ ?_ rfl HO7.out ?_ HB7.out.size HNN.out ?_ ?_); rfl; rfl; (intro u hu; simp only [List.mem_cons, List.not_mem_nil, or_false] at hu; rcases hu with rfl | rfl <;> rfl); (intro j y hy; rw [Addr.add_lit, Nat.zero_add]; exact HX7.out.at' j y hy); (have := HNN.out; omega); (intro a8 c8 w8 hown8 hg8))
            have hb8 : Below wc.heap.size wc w8 := HB7.out.grown hg8 HB7.out.size (fun q hq => (HO7.out.lt q hq).1)
            have ht8 := HT7.out.kept hg8 (own_apart HT7.out HO7.out (by decide))
            have hk8 : SlK w8 a8 (l.length + 1) c8 (y0 ++ [[.slice a1 inv.length c1, .slice a6 st.length c6]]) (l ++ [(inv, st)]) :=
              slK_more (k := (inv, st)) HSC.out hb8 ⟨a1, c1, y1, a6, c6, rfl, HI.out w8 (HBC.out.trans (hb8.mono HBC.out.size)), own_slI ht8⟩ rfl hown8
            have HK8 := Lib.hid hk8
            have HB8 := Lib.hid hb8
            clear hk8 hb8 ht8 hown8 hg8 hW7
            have HR0 : Hid (R = trim (l ++ [(inv, st)])) := by show _ = _; rw [HRT.out]
            have HZ0 : Hid (sz (l ++ [(inv, st)]) ≤ sz l + inv.length) := by
              show _ ≤ _
              unfold sz
              rw [List.map_append, List.sum_append]
              simp
            have HL0 : Hid ((l ++ [(inv, st)]).length = l.length + 1) := by show _ = _; simp
            clear HRT
            go_wp2_with fail
            go_loopw [13] (fun s wr => ∃ (l' : List Kp) (a' : Option Addr) (c' : Nat) (vs' : List (List Value)), s = .slice a' l'.length c' ∧ Hid (SlK wr a' l'.length c' vs' l') ∧ Hid (trim (l ++ [(inv, st)]) = trim l') ∧ Hid (∃ m, l' = m ++ [(inv, st)]) ∧ Hid (sz l' ≤ sz l + inv.length) ∧ Hid (Below wc.heap.size wc wr)) (fun s _ => lenOf s)
            case atStart => exact ⟨l ++ [(inv, st)], a8, c8, _, by rw [HL0.out], by rw [HL0.out]; exact HK8, rfl, ⟨l, rfl⟩, HZ0, HB8⟩
            case round =>
              obtain ⟨l', a', c', vs', rfl, hM, hT, hL, hZ, hB⟩ := hrel
              have HLS := Lib.hid (lawSize_any wr a' l'.length c' vs' l' hM.out (by have := hZ.out; have := HSZL.out; have := H256.out; omega))
              have hcx := hM.out.sl.cap
              have hcy := hM.out.sl.big
              by_cases hbig : 256 < sz l'
              · have hd2 : decide ((256 : Int) < ((sz l' : Nat) : Int)) = true := decide_eq_true (by omega)
                have HBG := Lib.hid hbig
                clear hbig
                cases l' with
                | nil => exact absurd hL.out (by rintro ⟨m, hm⟩; simp at hm)
                | cons k r =>
                  have HTT := Lib.hid (trim_tail HBG.out)
                  have hrn : r ≠ [] := fun h => by
                    subst h
                    obtain ⟨m, hm⟩ := hL.out
                    have hk : k = (inv, st) := by
                      cases m with
                      | nil => simpa using hm
                      | cons x m => simp at hm
                    have h1 := HBG.out
                    rw [hk] at h1
                    have h2 := H256.out
                    simp [sz] at h1
                    omega
                  obtain ⟨b, o, hae⟩ : ∃ b o, a' = some ⟨b, o, none⟩ := by
                    obtain ⟨b, o, _, _, _, _, _, _, ha, _⟩ := hM.out.at (i := 0) (by simp)
                    exact ⟨b, o, ha⟩
                  subst hae
                  obtain ⟨m, hm⟩ : ∃ m, r.length = m + 1 := ⟨r.length - 1, by have := List.length_pos_iff.2 hrn; omega⟩
                  have HM2 := Lib.hid hm
                  have HRN := Lib.hid hrn
                  generalize hsz : sz (k :: r) = z at *
                  have HQZ := Lib.hid hsz
                  rw [List.length_cons] at hM hcx HLS ⊢
                  rw [hm] at hM hcx HLS ⊢
                  clear hsz hm hrn
                  go_wp2_with fail
                  with_reducible refine HLS.out.mono ?_
                  rintro e w9 ⟨rfl, hb9⟩
                  have HB9 := Lib.hid hb9
                  clear hb9
                  go_wp2_with fail
                  go_roundw
                  case rel =>
                    obtain ⟨v0, vt, hv⟩ : ∃ v0 vt, vs' = v0 :: vt := by
                      have := hM.out.sl.len
                      cases vs' with
                      | nil => simp at this
                      | cons x y => exact ⟨x, y, rfl⟩
                    subst hv
                    refine ⟨r, some ⟨b, o + 2, none⟩, c' - 1, vt, by rw [HM2.out], ?_, hT.out.trans HTT.out, drop_last hL.out HRN.out, ?_, hB.out.trans (HB9.out.mono hB.out.size)⟩
                    · show SlK _ _ _ _ _ _
                      rw [HM2.out]
                      exact (slK_tail hM.out).next HB9.out
                    · show _ ≤ _
                      refine Nat.le_trans ?_ hZ.out
                      rw [← HQZ.out]
                      unfold sz
                      simp
                  case measure => show m + 1 < m + 1 + 1; omega
              · have hd2 : decide ((256 : Int) < ((sz l' : Nat) : Int)) = false := decide_eq_false (by omega)
                have HTE := Lib.hid (HR0.out.trans (hT.out.trans (trim_eq (Nat.not_lt.1 hbig))))
                clear hbig
                generalize sz l' = z at *
                go_wp2_with fail
                with_reducible refine HLS.out.mono ?_
                rintro e w9 ⟨rfl, hb9⟩
                have HB9 := Lib.hid hb9
                clear hb9
                go_wp2_with fail
                go_meet
                exact ⟨a', c', vs', by rw [HTE.out]; first | done | rfl, by rw [HTE.out]; exact hM.out.next HB9.out, hB.out.trans (HB9.out.mono hB.out.size)⟩
        case rest =>
          obtain ⟨aR, cR, vR, rfl, hR, hbR⟩ := hcut
          have HBR := Lib.hid (HBC.out.trans (hbR.out.mono HBC.out.size))
          clear hbR HSO HGD HGN HBC
          go_wp2_with fail
          go_loopw [15, 16, 17] (fun s5 s6 i wr => ∃ (k m5 m6 : Nat) (a5 : Option Addr) (c5 : Nat) (us : List Value) (a6 : Option Addr) (c6 : Nat) (vs : List (List Value)), k ≤ l.length ∧ i = .int .i64 k ∧ s5 = .slice a5 m5 c5 ∧ s6 = .slice a6 m6 c6 ∧ Hid (((l.take k).foldl (knownK act) []).length = m5) ∧ Hid (wr.ownsRow wc.heap.size 24 1 (.slice a5 m5 c5) m5 us) ∧ Hid (RowsV wc us ((l.take k).foldl (knownK act) [])) ∧ Hid (KView wc wr wc.heap.size a6 m6 c6 vs (left (l.take k) act)) ∧ Hid (Below wc.heap.size wc wr)) (fun _ _ i _ => l.length - (intOf i).toNat)
          case atStart => exact ⟨0, 0, 0, none, 0, [], none, 0, [], Nat.zero_le _, rfl, rfl, rfl, rfl, World.ownsRow_nil _ _ _ _, RowsV.nil _, KView.nil _ _ _, Below.refl _ _⟩
          case round =>
            obtain ⟨k, m5, m6, a5, c5, us5, a6, c6, vs6, hk, rfl, rfl, rfl, hm5, ho5, hv5, hk6, hB⟩ := hrel
            by_cases hlt : k < l.length
            · obtain ⟨b, o, a7, c7, vals, a8, c8, hx, hae, hbs, e0, e1, hs1, hs2, hvk⟩ := (HS.out wc HBR.out).at hlt
              subst hae
              have HD0 := Lib.hid (fun (U : World) (hU : Below wc.heap.size wc U) => (hU.cell (p := ⟨b, o + k * 2, none⟩) hbs).trans e0)
              have HD1 := Lib.hid (fun (U : World) (hU : Below wc.heap.size wc U) => (hU.cell (p := ⟨b, o + k * 2 + 1, none⟩) hbs).trans e1)
              have HTN := Lib.hid (known_take (act := act) (out := []) hx)
              have HLT := Lib.hid (left_take (act := act) hx)
              have HKO := Lib.hid (HOK.out _ (List.getElem_mem hx))
              have HKS := Lib.hid (HSHL.out _ (List.getElem_mem hx))
              have HKO0 : Hid (RowsOk ((l.take k).foldl (knownK act) [])) := known_ok (fun y hy => HOK.out y (List.mem_of_mem_take hy)) (fun y hy => by cases hy)
              have HSO0 : Hid (Short ((l.take k).foldl (knownK act) [])) := short_fold (fun y hy => HSHL.out y (List.mem_of_mem_take hy))
              have hkl : ((l.take k).foldl (knownK act) []).length ≤ sz (l.take k) := by have := known_len act (l.take k) []; simpa using this
              have HLE := Lib.hid (Nat.le_trans (Nat.add_le_add_right hkl _) (sz_more hx))
              have HLF : Hid ((left (l.take k) act).length ≤ 1048576) := by
                show _ ≤ _
                have h1 := List.length_filter_le (fun k : Kp => !meets k.2 act) (l.take k)
                rw [List.length_take] at h1
                have h2 := HLL.out
                unfold left
                omega
              have HIN : Hid (KeptIn wc [.slice a7 l[k].1.length c7, .slice a8 l[k].2.length c8] l[k]) := ⟨a7, c7, vals, a8, c8, rfl, hs1, hs2⟩
              have d1 := HD1.out wr hB.out
              clear hkl e0 e1 hvk hbs
              have HS1 := Lib.hid hs1
              have HS2 := Lib.hid hs2
              clear hs1 hs2
              generalize hO0 : (l.take k).foldl (knownK act) [] = O0 at *
              clear hO0
              generalize l[k] = y at *
              have hcy2 := HS2.out.cap
              have hby2 := HS2.out.big
              go_wp2_with fail
              generalize wr = wo at *
              go_loopw [18, 19] (fun s i wq => ∃ (j : Nat) (q : Bool), j ≤ y.2.length ∧ i = .int .i64 j ∧ s = .bool q ∧ Hid (meets (y.2.take j) act = q) ∧ Hid (Below wo.heap.size wo wq)) (fun _ i _ => y.2.length - (intOf i).toNat)
              case atStart => exact ⟨0, false, Nat.zero_le _, rfl, rfl, rfl, Below.refl _ _⟩
              case round =>
                generalize wr = wq at *
                obtain ⟨j, q, hj, rfl, rfl, hq, hbq⟩ := hrel
                have HBQ := Lib.hid (hB.out.trans (hbq.out.mono hB.out.size))
                have d1 := HD1.out wq HBQ.out
                by_cases hjl : j < y.2.length
                · obtain ⟨b2, o2, hx2, hae2, hbs2, e2⟩ := (HS2.out.next HBQ.out).int hjl
                  subst hae2
                  have HMT := Lib.hid (meets_take (act := act) hx2)
                  have HHA := Lib.hid (RefC.has_any wq a3 act.length c3 act (HM.out wq (HBR.out.trans (HBQ.out.mono HBR.out.size))) y.2[j])
                  generalize y.2[j] = t at *
                  generalize hdt : decide (t ∈ act) = dt at *
                  clear hdt hx2
                  cases q
                  · go_wp2_with fail
                    with_reducible refine HHA.out.mono ?_
                    rintro e wz ⟨rfl, rfl⟩
                    clear d1 e2
                    go_wp2_with fail
                    go_roundw
                    case rel =>
                      refine ⟨j + 1, dt, by omega, by go_num, rfl, ?_, hbq⟩
                      show _ = _
                      rw [HMT.out, hq.out]
                      rfl
                    case measure => simp [intOf]; omega
                  · clear e2
                    go_wp2_with fail
                    go_roundw
                    case rel =>
                      refine ⟨j + 1, true, by omega, by go_num, rfl, ?_, hbq⟩
                      show _ = _
                      rw [HMT.out, hq.out]
                      rfl
                    case measure => simp [intOf]; omega
                · have hje : j = y.2.length := by omega
                  subst hje
                  rw [List.take_length] at hq
                  have HOW5 := Lib.hid (own_next ho5.out hbq.out)
                  have HBW5 := HBQ
                  have HKQ := Lib.hid (hk6.out.next hbq.out)
                  clear hjl
                  cases q
                  · have HLX : Hid (left (l.take (k + 1)) act = left (l.take k) act ++ [y]) := by show _ = _; rw [HLT.out, hq.out]; rfl
                    have d0 := HD0.out wq HBQ.out
                    have HM6 := Lib.hid hk6.out.len
                    obtain ⟨W7, hW7⟩ : ∃ U, wq.alloc (.cells #[.slice a7 y.1.length c7, .slice a8 y.2.length c8] 34) = U := ⟨_, rfl⟩
                    have hb7 : Below wq.heap.size wq W7 := by rw [← hW7]; exact (Below.refl _ _).alloc (Nat.le_refl _) _
                    have x7 := BoxN.new wq #[.slice a7 y.1.length c7, .slice a8 y.2.length c8] 34
                    rw [hW7] at x7
                    have HX7 := Lib.hid x7
                    have HB7 := Lib.hid (HBQ.out.trans (hb7.mono HBQ.out.size))
                    have HK7 := Lib.hid (HKQ.out.next hb7)
                    have HO7 := Lib.hid (own_next HOW5.out hb7)
                    have HNN : Hid ((m6 + 1) * 48 ≤ 140737488355328) := by show _ ≤ _; have := HLF.out; have := HM6.out; omega
                    clear x7 hb7
                    go_wp2_with ((with_reducible refine wpL_pushK (k := 2) (by decide) wc.heap.size (.slice a6 m6 c6) m6 vs6 ⟨wq.heap.size, 0, none⟩ 1 [.slice a7 y.1.length c7, .slice a8 y.2.length c8] info_kept Try.underlying22 rfl ?_ ?_ ?_ rfl HK7.out.outer ?_ HB7.out.size HNN.out ?_ ?_); rfl; rfl; (intro u hu; simp only [List.mem_cons, List.not_mem_nil, or_false] at hu; rcases hu with rfl | rfl <;> rfl); (intro j y hy; rw [Addr.add_lit, Nat.zero_add]; exact HX7.out.at' j y hy); (have := HNN.out; omega); (intro a9 c9 w9 hown9 hg9))
                    have hb9 : Below wc.heap.size wc w9 := HB7.out.grown hg9 HB7.out.size (fun q hq => (HK7.out.outer.lt q hq).1)
                    have HKV : Hid (KView wc w9 wc.heap.size a9 (m6 + 1) c9 (vs6 ++ [[.slice a7 y.1.length c7, .slice a8 y.2.length c8]]) (left (l.take (k + 1)) act)) := by
                      show KView _ _ _ _ _ _ _ _
                      rw [HLX.out]
                      exact HK7.out.push HIN.out hown9
                    have HOW5 := Lib.hid (HO7.out.kept hg9 (own_apart HO7.out HK7.out.outer (by decide)))
                    have HBW5 := Lib.hid hb9
                    clear hb9 hown9 hg9 d0 d1 hW7
                    go_wp2_with fail
                    go_loopw [15, 20] (fun s i wq => ∃ (j m5 : Nat) (a5 : Option Addr) (c5 : Nat) (us : List Value), j ≤ y.1.length ∧ i = .int .i64 j ∧ s = .slice a5 m5 c5 ∧ Hid (((y.1.take j).foldl (Keep.one act y) O0).length = m5) ∧ Hid (wq.ownsRow wc.heap.size 24 1 (.slice a5 m5 c5) m5 us) ∧ Hid (RowsV wc us ((y.1.take j).foldl (Keep.one act y) O0)) ∧ Hid (KView wc wq wc.heap.size a9 (m6 + 1) c9 (vs6 ++ [[.slice a7 y.1.length c7, .slice a8 y.2.length c8]]) (left (l.take (k + 1)) act)) ∧ Hid (Below wc.heap.size wc wq)) (fun _ i _ => y.1.length - (intOf i).toNat)
                    case atStart => exact ⟨0, m5, a5, c5, us5, Nat.zero_le _, rfl, rfl, hm5, HOW5.out, hv5, HKV, HBW5.out⟩
                    case round =>
                      generalize wr = wq at *
                      obtain ⟨j, mj, aj, cj, uj, hj, rfl, rfl, hmj, hoj, hvj, hkv, hbj⟩ := hrel
                      have HBWJ := Lib.hid (HBR.out.trans (hbj.out.mono HBR.out.size))
                      have d0 := HD0.out wq hbj.out
                      have d1 := HD1.out wq hbj.out
                      have hcy := HS1.out.sl.cap
                      have hby := HS1.out.sl.big
                      by_cases hjl : j < y.1.length
                      · obtain ⟨b2, o2, ax, cx, hx2, hae2, hbs2, e0, hsx, hvx⟩ := (HS1.out.next hbj.out).at hjl
                        rw [hae2] at d0
                        have HAE := Lib.hid hae2
                        clear hae2
                        have HVX := Lib.hid (fun v (hv : vals[j]? = some v) => HS1.out.row j v y.1[j] hv (List.getElem?_eq_getElem hx2))
                        have HIV := Lib.hid (HVX.out _ hvx)
                        have HT2 := Lib.hid (fold_take (act := act) (k := y) (out := O0) hx2)
                        have HRX := Lib.hid (HKO.out _ (List.getElem_mem hx2))
                        have HSX := Lib.hid (HKS.out _ (List.getElem_mem hx2))
                        have HKJ : Hid (RowsOk ((y.1.take j).foldl (Keep.one act y) O0)) := fold_ok (fun x hx => HKO.out x (List.mem_of_mem_take hx)) HKO0.out
                        have HSJ : Hid (Short ((y.1.take j).foldl (Keep.one act y) O0)) := short_one (fun x hx => HKS.out x (List.mem_of_mem_take hx)) HSO0.out
                        have HLJ : Hid (((y.1.take j).foldl (Keep.one act y) O0).length ≤ 1048576) := by
                          show _ ≤ _
                          have h := fold_len act y (y.1.take j) O0
                          rw [List.length_take] at h
                          have h1 := HLE.out
                          have h2 := HSZL.out
                          omega
                        have HWI := Lib.hid (HSB.out wq y a8 c8 (HS2.out.next hbj.out) a3 act.length c3 act (HM.out wq HBWJ.out))
                        have HSL2 := Lib.hid (hvj.out.sl2 hbj.out (own_slI hoj.out))
                        have HHS := Lib.hid (fun (U : World) (hU : Below wq.heap.size wq U) => lawHas_any U aj mj cj uj _ (HSL2.out.next hU) HKJ.out HSJ.out ax _ cx y.1[j] (hsx.next hU) HRX.out.1 HSX.out)
                        have HON := Lib.hid (one_subs act y ((y.1.take j).foldl (Keep.one act y) O0) y.1[j])
                        generalize (y.1.take j).foldl (Keep.one act y) O0 = OJ at *
                        generalize y.1[j] = x at *
                        clear hsx hvx HVX
                        generalize Clause.subs y.2 act = sb at *
                        generalize hasC OJ x = ha at *
                        cases sb
                        · have HR : Hid (Keep.one act y OJ x = OJ) := by show _ = _; rw [HON.out]; rfl
                          go_wp2_with fail
                          with_reducible refine HWI.out.mono ?_
                          rintro e wz ⟨rfl, rfl⟩
                          clear d0 d1 e0
                          go_wp2_with fail
                          go_roundw
                          case rel => exact ⟨j + 1, mj, aj, cj, uj, by omega, by go_num, rfl, by rw [HT2.out, HR.out]; exact hmj, hoj, by rw [HT2.out, HR.out]; exact hvj, hkv, hbj⟩
                          case measure => simp [intOf]; omega
                        · cases ha
                          · have HR : Hid (Keep.one act y OJ x = OJ ++ [x]) := by show _ = _; rw [HON.out]; rfl
                            have HN24 : Hid ((mj + 1) * 24 ≤ 140737488355328) := by show _ ≤ _; have := HLJ.out; have := hmj.out; omega
                            have HZJ := Lib.hid hbj.out.size
                            go_wp2_with fail
                            with_reducible refine HWI.out.mono ?_
                            rintro e wz ⟨rfl, rfl⟩
                            go_wp2_with fail
                            with_reducible refine (HHS.out wq (Below.refl _ _)).mono ?_
                            rintro e w4 ⟨rfl, hb4⟩
                            have HB4 := Lib.hid hb4
                            have g0 := HD0.out w4 (hbj.out.trans (hb4.mono hbj.out.size))
                            rw [HAE.out] at g0
                            have e4 := (hb4.cell (p := ⟨b2, o2 + j, none⟩) hbs2).trans e0
                            have HO4 := Lib.hid (own_next hoj.out hb4)
                            have HK4 := Lib.hid (hkv.out.next hb4)
                            have HBW4 := Lib.hid (hbj.out.trans (hb4.mono hbj.out.size))
                            clear hb4 d0 d1 e0
                            go_wp2_with ((with_reducible refine wpL_pushH wc.heap.size w4 (.slice ax x.length cx) (.slice aj mj cj) mj uj info_ints Try.underlying23 rfl ?_ ?_ ?_ rfl HO4.out HBW4.out.size HN24.out ?_ ?_); rfl; rfl; rfl; (have := HN24.out; omega); (intro ap cp w6 hown6 hg6))
                            have hal : Below w4.heap.size w4 (w4.alloc (.cells #[.slice ax x.length cx] 24)) := (Below.refl _ _).alloc (Nat.le_refl _) _
                            have hoA := own_next HO4.out hal
                            have hkA := HK4.out.next hal
                            have hbx := (HBW4.out.trans (hal.mono HBW4.out.size)).grown hg6 (Nat.le_trans HBW4.out.size hal.size) (fun r hr => (hoA.lt r hr).1)
                            have HK6 : Hid (KView wc w6 wc.heap.size a9 (m6 + 1) c9 (vs6 ++ [[.slice a7 y.1.length c7, .slice a8 y.2.length c8]]) (left (l.take (k + 1)) act)) := ⟨hkA.outer.kept hg6 (own_apart hkA.outer hoA (by decide)), hkA.two, hkA.vlen, hkA.len, hkA.row⟩
                            have HB6 := Lib.hid hbx
                            have HO6 := Lib.hid hown6
                            clear hown6 hg6 hal hoA hkA hbx e4 g0
                            go_wp2_with fail
                            go_roundw
                            case rel =>
                              refine ⟨j + 1, mj + 1, ap, cp, uj ++ [.slice ax x.length cx], by omega, by go_num, rfl, ?_, HO6, ?_, HK6, HB6⟩
                              · show _ = _
                                rw [HT2.out, HR.out, List.length_append, hmj.out]
                                rfl
                              · show RowsV _ _ _
                                rw [HT2.out, HR.out]
                                exact hvj.out.snoc HIV.out
                            case measure => simp [intOf]; omega
                          · have HR : Hid (Keep.one act y OJ x = OJ) := by show _ = _; rw [HON.out]; rfl
                            go_wp2_with fail
                            with_reducible refine HWI.out.mono ?_
                            rintro e wz ⟨rfl, rfl⟩
                            go_wp2_with fail
                            with_reducible refine (HHS.out wq (Below.refl _ _)).mono ?_
                            rintro e w4 ⟨rfl, hb4⟩
                            have HB4 := Lib.hid hb4
                            clear hb4 d0 d1 e0
                            go_wp2_with fail
                            go_roundw
                            case rel => exact ⟨j + 1, mj, aj, cj, uj, by omega, by go_num, rfl, by rw [HT2.out, HR.out]; exact hmj, own_next hoj.out HB4.out, by rw [HT2.out, HR.out]; exact hvj, hkv.out.next HB4.out, hbj.out.trans (HB4.out.mono hbj.out.size)⟩
                            case measure => simp [intOf]; omega
                      · have hje : j = y.1.length := by omega
                        subst hje
                        rw [List.take_length] at hmj hvj
                        go_wp2_with fail
                        go_roundw
                        case rel => exact ⟨k + 1, mj, (m6 + 1), aj, cj, uj, a9, c9, (vs6 ++ [[.slice a7 y.1.length c7, .slice a8 y.2.length c8]]), by omega, by go_num, rfl, rfl, by rw [HTN.out]; exact hmj, hoj, by rw [HTN.out]; exact hvj, hkv, hbj⟩
                        case measure => simp [intOf]; omega
                  · have HLX : Hid (left (l.take (k + 1)) act = left (l.take k) act) := by show _ = _; rw [HLT.out, hq.out]; simp
                    have HKV : Hid (KView wc wq wc.heap.size a6 m6 c6 vs6 (left (l.take (k + 1)) act)) := by
                      show KView _ _ _ _ _ _ _ _
                      rw [HLX.out]
                      exact HKQ.out
                    go_wp2_with fail
                    go_loopw [15, 20] (fun s i wq => ∃ (j m5 : Nat) (a5 : Option Addr) (c5 : Nat) (us : List Value), j ≤ y.1.length ∧ i = .int .i64 j ∧ s = .slice a5 m5 c5 ∧ Hid (((y.1.take j).foldl (Keep.one act y) O0).length = m5) ∧ Hid (wq.ownsRow wc.heap.size 24 1 (.slice a5 m5 c5) m5 us) ∧ Hid (RowsV wc us ((y.1.take j).foldl (Keep.one act y) O0)) ∧ Hid (KView wc wq wc.heap.size a6 m6 c6 vs6 (left (l.take (k + 1)) act)) ∧ Hid (Below wc.heap.size wc wq)) (fun _ i _ => y.1.length - (intOf i).toNat)
                    case atStart => exact ⟨0, m5, a5, c5, us5, Nat.zero_le _, rfl, rfl, hm5, HOW5.out, hv5, HKV, HBW5.out⟩
                    case round =>
                      generalize wr = wq at *
                      obtain ⟨j, mj, aj, cj, uj, hj, rfl, rfl, hmj, hoj, hvj, hkv, hbj⟩ := hrel
                      have HBWJ := Lib.hid (HBR.out.trans (hbj.out.mono HBR.out.size))
                      have d0 := HD0.out wq hbj.out
                      have d1 := HD1.out wq hbj.out
                      have hcy := HS1.out.sl.cap
                      have hby := HS1.out.sl.big
                      by_cases hjl : j < y.1.length
                      · obtain ⟨b2, o2, ax, cx, hx2, hae2, hbs2, e0, hsx, hvx⟩ := (HS1.out.next hbj.out).at hjl
                        rw [hae2] at d0
                        have HAE := Lib.hid hae2
                        clear hae2
                        have HVX := Lib.hid (fun v (hv : vals[j]? = some v) => HS1.out.row j v y.1[j] hv (List.getElem?_eq_getElem hx2))
                        have HIV := Lib.hid (HVX.out _ hvx)
                        have HT2 := Lib.hid (fold_take (act := act) (k := y) (out := O0) hx2)
                        have HRX := Lib.hid (HKO.out _ (List.getElem_mem hx2))
                        have HSX := Lib.hid (HKS.out _ (List.getElem_mem hx2))
                        have HKJ : Hid (RowsOk ((y.1.take j).foldl (Keep.one act y) O0)) := fold_ok (fun x hx => HKO.out x (List.mem_of_mem_take hx)) HKO0.out
                        have HSJ : Hid (Short ((y.1.take j).foldl (Keep.one act y) O0)) := short_one (fun x hx => HKS.out x (List.mem_of_mem_take hx)) HSO0.out
                        have HLJ : Hid (((y.1.take j).foldl (Keep.one act y) O0).length ≤ 1048576) := by
                          show _ ≤ _
                          have h := fold_len act y (y.1.take j) O0
                          rw [List.length_take] at h
                          have h1 := HLE.out
                          have h2 := HSZL.out
                          omega
                        have HWI := Lib.hid (HSB.out wq y a8 c8 (HS2.out.next hbj.out) a3 act.length c3 act (HM.out wq HBWJ.out))
                        have HSL2 := Lib.hid (hvj.out.sl2 hbj.out (own_slI hoj.out))
                        have HHS := Lib.hid (fun (U : World) (hU : Below wq.heap.size wq U) => lawHas_any U aj mj cj uj _ (HSL2.out.next hU) HKJ.out HSJ.out ax _ cx y.1[j] (hsx.next hU) HRX.out.1 HSX.out)
                        have HON := Lib.hid (one_subs act y ((y.1.take j).foldl (Keep.one act y) O0) y.1[j])
                        generalize (y.1.take j).foldl (Keep.one act y) O0 = OJ at *
                        generalize y.1[j] = x at *
                        clear hsx hvx HVX
                        generalize Clause.subs y.2 act = sb at *
                        generalize hasC OJ x = ha at *
                        cases sb
                        · have HR : Hid (Keep.one act y OJ x = OJ) := by show _ = _; rw [HON.out]; rfl
                          go_wp2_with fail
                          with_reducible refine HWI.out.mono ?_
                          rintro e wz ⟨rfl, rfl⟩
                          clear d0 d1 e0
                          go_wp2_with fail
                          go_roundw
                          case rel => exact ⟨j + 1, mj, aj, cj, uj, by omega, by go_num, rfl, by rw [HT2.out, HR.out]; exact hmj, hoj, by rw [HT2.out, HR.out]; exact hvj, hkv, hbj⟩
                          case measure => simp [intOf]; omega
                        · cases ha
                          · have HR : Hid (Keep.one act y OJ x = OJ ++ [x]) := by show _ = _; rw [HON.out]; rfl
                            have HN24 : Hid ((mj + 1) * 24 ≤ 140737488355328) := by show _ ≤ _; have := HLJ.out; have := hmj.out; omega
                            have HZJ := Lib.hid hbj.out.size
                            go_wp2_with fail
                            with_reducible refine HWI.out.mono ?_
                            rintro e wz ⟨rfl, rfl⟩
                            go_wp2_with fail
                            with_reducible refine (HHS.out wq (Below.refl _ _)).mono ?_
                            rintro e w4 ⟨rfl, hb4⟩
                            have HB4 := Lib.hid hb4
                            have g0 := HD0.out w4 (hbj.out.trans (hb4.mono hbj.out.size))
                            rw [HAE.out] at g0
                            have e4 := (hb4.cell (p := ⟨b2, o2 + j, none⟩) hbs2).trans e0
                            have HO4 := Lib.hid (own_next hoj.out hb4)
                            have HK4 := Lib.hid (hkv.out.next hb4)
                            have HBW4 := Lib.hid (hbj.out.trans (hb4.mono hbj.out.size))
                            clear hb4 d0 d1 e0
                            go_wp2_with ((with_reducible refine wpL_pushH wc.heap.size w4 (.slice ax x.length cx) (.slice aj mj cj) mj uj info_ints Try.underlying23 rfl ?_ ?_ ?_ rfl HO4.out HBW4.out.size HN24.out ?_ ?_); rfl; rfl; rfl; (have := HN24.out; omega); (intro ap cp w6 hown6 hg6))
                            have hal : Below w4.heap.size w4 (w4.alloc (.cells #[.slice ax x.length cx] 24)) := (Below.refl _ _).alloc (Nat.le_refl _) _
                            have hoA := own_next HO4.out hal
                            have hkA := HK4.out.next hal
                            have hbx := (HBW4.out.trans (hal.mono HBW4.out.size)).grown hg6 (Nat.le_trans HBW4.out.size hal.size) (fun r hr => (hoA.lt r hr).1)
                            have HK6 : Hid (KView wc w6 wc.heap.size a6 m6 c6 vs6 (left (l.take (k + 1)) act)) := ⟨hkA.outer.kept hg6 (own_apart hkA.outer hoA (by decide)), hkA.two, hkA.vlen, hkA.len, hkA.row⟩
                            have HB6 := Lib.hid hbx
                            have HO6 := Lib.hid hown6
                            clear hown6 hg6 hal hoA hkA hbx e4 g0
                            go_wp2_with fail
                            go_roundw
                            case rel =>
                              refine ⟨j + 1, mj + 1, ap, cp, uj ++ [.slice ax x.length cx], by omega, by go_num, rfl, ?_, HO6, ?_, HK6, HB6⟩
                              · show _ = _
                                rw [HT2.out, HR.out, List.length_append, hmj.out]
                                rfl
                              · show RowsV _ _ _
                                rw [HT2.out, HR.out]
                                exact hvj.out.snoc HIV.out
                            case measure => simp [intOf]; omega
                          · have HR : Hid (Keep.one act y OJ x = OJ) := by show _ = _; rw [HON.out]; rfl
                            go_wp2_with fail
                            with_reducible refine HWI.out.mono ?_
                            rintro e wz ⟨rfl, rfl⟩
                            go_wp2_with fail
                            with_reducible refine (HHS.out wq (Below.refl _ _)).mono ?_
                            rintro e w4 ⟨rfl, hb4⟩
                            have HB4 := Lib.hid hb4
                            clear hb4 d0 d1 e0
                            go_wp2_with fail
                            go_roundw
                            case rel => exact ⟨j + 1, mj, aj, cj, uj, by omega, by go_num, rfl, by rw [HT2.out, HR.out]; exact hmj, own_next hoj.out HB4.out, by rw [HT2.out, HR.out]; exact hvj, hkv.out.next HB4.out, hbj.out.trans (HB4.out.mono hbj.out.size)⟩
                            case measure => simp [intOf]; omega
                      · have hje : j = y.1.length := by omega
                        subst hje
                        rw [List.take_length] at hmj hvj
                        go_wp2_with fail
                        go_roundw
                        case rel => exact ⟨k + 1, mj, m6, aj, cj, uj, a6, c6, vs6, by omega, by go_num, rfl, rfl, by rw [HTN.out]; exact hmj, hoj, by rw [HTN.out]; exact hvj, hkv, hbj⟩
                        case measure => simp [intOf]; omega
            · have hke : k = l.length := by omega
              subst hke
              rw [List.take_length] at hm5 hv5 hk6
              have hkn : l.foldl (knownK act) [] = known l act := rfl
              rw [hkn] at hm5 hv5
              have HLL2 : Hid (left (l.take l.length) act = left l act) := by show _ = _; rw [List.take_length]
              rw [List.take_length] at HLL2
              generalize wr = wo at *
              have HBW := Lib.hid (HBR.out.trans (hB.out.mono HBR.out.size))
              have HPP := Lib.hid (HOC.out wo HBW.out)
              have HRV := Lib.hid (hR.out.next hB.out)
              have HL6 := Lib.hid hk6.out.len
              have HK6 := Lib.hid (hk6.out.slK hB.out)
              have HN5 := Lib.hid (hv5.out.sl2 hB.out (own_slI ho5.out))
              clear hkn hlt ho5 hv5 hk6 hR hB
              generalize known l act = KN at *
              generalize left l act = LF at *
              generalize sz l = z at *
              go_wp2_with fail
              with_reducible refine HPP.out.mono ?_
              rintro e w1 ⟨⟨aP, cP, vP, rfl, hkP⟩, hb1⟩
              have HS1 := Lib.hid (lawSame_any w1 aP R.length cP vP R hkP aR R.length cR vR (HRV.out.next hb1))
              have HB1 := Lib.hid hb1
              clear hb1 hkP
              go_wp2_with fail
              with_reducible refine HS1.out.mono ?_
              rintro e w2 ⟨rfl, hmm⟩
              have hb2 : Below w1.heap.size w1 w2 := by obtain ⟨m, rfl⟩ := hmm; exact below_drewN (Below.refl _ _) m
              have HB2 := Lib.hid (HB1.out.trans (hb2.mono HB1.out.size))
              have HK2 := Lib.hid (HKA.out w2 (HBW.out.trans (HB2.out.mono HBW.out.size)))
              clear hmm hb2
              go_wp2_with fail
              with_reducible refine HK2.out.mono ?_
              rintro e w3 ⟨aK, cK, vK, rfl, hoK, hb3⟩
              have HB3 := Lib.hid (HB2.out.trans (hb3.mono HB2.out.size))
              have HLS := Lib.hid (Plain.lists_any w3 aK a5 KN.length m5 cK c5 vK us5 KN KN (own2_sl2 hoK) (HN5.out.next HB3.out))
              rw [decide_eq_true rfl] at HLS
              clear hoK hb3
              go_wp2_with fail
              with_reducible refine HLS.out.mono ?_
              rintro e w4 ⟨rfl, hmm⟩
              have hb4 : Below w3.heap.size w3 w4 := by obtain ⟨m, rfl⟩ := hmm; exact below_drewN (Below.refl _ _) m
              have HB4 := Lib.hid (HB3.out.trans (hb4.mono HB3.out.size))
              have HD4 := Lib.hid (HDR.out w4 (HBW.out.trans (HB4.out.mono HBW.out.size)))
              clear hmm hb4
              go_wp2_with fail
              with_reducible refine HD4.out.mono ?_
              rintro e w5 ⟨aD, nD, cD, vD, rfl, hkD, hb5⟩
              have HB5 := Lib.hid (HB4.out.trans (hb5.mono HB4.out.size))
              have HS5 := Lib.hid (lawSame_any w5 aD nD cD vD LF hkD.slK a6 m6 c6 vs6 (HK6.out.next HB5.out))
              clear hkD hb5
              go_wp2_with fail
              with_reducible refine HS5.out.mono ?_
              rintro e w6 ⟨rfl, hmm⟩
              have hb6 : Below w5.heap.size w5 w6 := by obtain ⟨m, rfl⟩ := hmm; exact below_drewN (Below.refl _ _) m
              have HB6 := Lib.hid (HB5.out.trans (hb6.mono HB5.out.size))
              have HZ6 := Lib.hid (HSZ.out w6 (HBW.out.trans (HB6.out.mono HBW.out.size)))
              clear hmm hb6
              go_wp2_with fail
              with_reducible refine HZ6.out.mono ?_
              rintro e w7 ⟨rfl, hb7⟩
              have HB7 := Lib.hid (HB6.out.trans (hb7.mono HB6.out.size))
              have HZ7 := Lib.hid (HLZ.out w7 (HBW.out.trans (HB7.out.mono HBW.out.size)))
              clear hb7
              go_wp2_with fail
              with_reducible refine HZ7.out.mono ?_
              rintro e w8 ⟨rfl, hb8⟩
              have HB8 := Lib.hid (HB7.out.trans (hb8.mono HB7.out.size))
              clear hb8
              go_wp2_with fail
              with_reducible refine (HAL.out w8).mono ?_
              rintro e w9 ⟨rfl, hb9⟩
              have HB9 := Lib.hid (HB8.out.trans (hb9.mono HB8.out.size))
              clear hb9
              go_wp2_with fail
              go_ret
              exact ⟨rfl, HBW.out.trans (HB9.out.mono HBW.out.size)⟩
end Go.Proofs.Ytdpmfcfelncbeaa.keepTells
