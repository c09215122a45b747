/-
  Several texts in one (written by merge2.py): XRowsK XDelN XSlfL XDelL XSlfA XDelA XCoiRed XSortedN XPlainInts XCoiNeed XCoiAlive XCoiNeedNo XEqR XSameR XTellsNo XCoiSame
-/
import Derived.Test.YtninglnchengeaaGreatCoiSameM1
import Derived.Lib.SliceRun
import Derived.Test.YtninglnchengeaaGreatSlfI
import Derived.Test.YtninglnchengeaaGreatCoiSameM2
import Derived.Test.YtninglnchengeaaGreatCirc
import Derived.Shelf.Abstract
import Derived.Shelf.SlIterI.Nil
import Derived.Shelf.SortM.Plain
import Derived.Shelf.SortM.SortNone
import Derived.Ground.GgzProg
import Derived.Ground.SlgmProg
import Derived.Test.YtninglnchengeaaGreatLaws
import Derived.Deep.QuietTactic
import Derived.BigQuiet
import Derived.Test.YtninglnchengeaaGreatCBox
import Derived.Deep.DeepCutAuto
import Derived.Test.YtninglnchengeaaGreatLex
import Derived.Test.YtninglnchengeaaGreatOpenCirc
/-
  Rows of k cells in a block of one's own: read, written, cleared. No program's function.
-/
namespace Go.Proofs.YtninglnchengeaaGreat
open Go.RowKit Base
set_option linter.unusedVariables false
set_option linter.unusedSimpArgs false
namespace RowsK

theorem grown_below {w w1 w2 : World} {ob : Option Nat} (h : w.grownBy w1 ob) (hb : Below w1.heap.size w1 w2) : w.grownBy w2 ob :=
  ⟨hb.os.trans h.os, hb.tape.trans h.tape, hb.output.trans h.output, Nat.le_trans h.size hb.size, fun k hk hne => (hb.block k (Nat.lt_of_lt_of_le hk h.size)).trans (h.block k hk hne)⟩

theorem grown_of_below {w w1 : World} {ob : Option Nat} (hb : Below w.heap.size w w1) : w.grownBy w1 ob :=
  ⟨hb.os, hb.tape, hb.output, hb.size, fun k hk _ => hb.block k hk⟩

theorem grown_set {w w1 : World} {G : Nat} (h : w.grownBy w1 (some G)) (i : Nat) (u : Value) : w.grownBy (w1.setCell ⟨G, i, none⟩ u) (some G) := by
  refine ⟨h.os, h.tape, h.output, by simpa [World.setCell] using h.size, fun k hk hne => ?_⟩
  have hk' : G ≠ k := fun e => hne (by rw [e])
  rw [← h.block k hk hne]
  simp [World.setCell, Array.getElem?_modify, hk']

theorem grown_sets {w : World} {G : Nat} : ∀ (vs : List Value) (w1 : World) (o : Nat), w.grownBy w1 (some G) → w.grownBy (w1.setCells G o vs) (some G) := by
  intro vs
  induction vs with
  | nil => intro w1 o h; exact h
  | cons v r ih => intro w1 o h; exact ih _ _ (grown_set h o v)

def chunk (k : Nat) : Nat → List Value → List (List Value)
  | 0, _ => []
  | c + 1, l => l.take k :: chunk k c (l.drop k)

theorem chunk_len (k c : Nat) (l : List Value) : (chunk k c l).length = c := by
  induction c generalizing l with
  | zero => rfl
  | succ c ih => simp [chunk, ih]

theorem chunk_row {k c : Nat} {l : List Value} (h : l.length = c * k) : ∀ r ∈ chunk k c l, r.length = k := by
  induction c generalizing l with
  | zero => intro r hr; cases hr
  | succ c ih =>
    rw [Nat.succ_mul] at h
    intro r hr
    rcases List.mem_cons.1 hr with rfl | hr
    · rw [List.length_take]; omega
    · exact ih (by rw [List.length_drop]; omega) r hr

theorem chunk_flat {k c : Nat} {l : List Value} (h : l.length = c * k) : (chunk k c l).flatten = l := by
  induction c generalizing l with
  | zero => rw [Nat.zero_mul] at h; rw [List.eq_nil_of_length_eq_zero h]; rfl
  | succ c ih =>
    rw [Nat.succ_mul] at h
    show l.take k ++ (chunk k c (l.drop k)).flatten = l
    rw [ih (by rw [List.length_drop]; omega), List.take_append_drop]

theorem chunk_take {k c n : Nat} {l : List Value} {vs : List (List Value)} (h : l.length = c * k) (hn : n ≤ c) (hr : ∀ r ∈ vs, r.length = k) (hv : vs.length = n) (ht : l.take (n * k) = vs.flatten) : (chunk k c l).take n = vs := by
  induction vs generalizing n c l with
  | nil => subst hv; rfl
  | cons x r ih =>
    cases n with
    | zero => simp at hv
    | succ n =>
      cases c with
      | zero => omega
      | succ c =>
        have hx := hr x List.mem_cons_self
        rw [Nat.succ_mul] at h ht
        rw [List.flatten_cons] at ht
        have h1 : l.take k = x := by
          have h2 := congrArg (List.take k) ht
          rw [List.take_take, Nat.min_eq_left (Nat.le_add_left _ _)] at h2
          rw [h2, List.take_append_of_le_length (Nat.le_of_eq hx.symm), List.take_of_length_le (Nat.le_of_eq hx)]
        have h3 : (l.drop k).take (n * k) = r.flatten := by
          have h2 := congrArg (List.drop k) ht
          rw [List.drop_take, Nat.add_sub_cancel] at h2
          rw [h2, List.drop_append_of_le_length (Nat.le_of_eq hx.symm), List.drop_of_length_le (Nat.le_of_eq hx), List.nil_append]
        show l.take k :: (chunk k c (l.drop k)).take n = x :: r
        rw [h1, ih (by rw [List.length_drop]; omega) (by omega) (fun y hy => hr y (List.mem_cons_of_mem _ hy)) (by simpa using hv) h3]

theorem flat_take {k : Nat} {vs : List (List Value)} (h : ∀ r ∈ vs, r.length = k) (i : Nat) (hi : i ≤ vs.length) : (vs.take i).flatten = vs.flatten.take (i * k) := by
  induction vs generalizing i with
  | nil => simp
  | cons x r ih =>
    have hx := h x List.mem_cons_self
    cases i with
    | zero => simp
    | succ i =>
      rw [List.take_succ_cons, List.flatten_cons, List.flatten_cons, ih (fun y hy => h y (List.mem_cons_of_mem _ hy)) i (by simpa using hi), List.take_append, hx, Nat.succ_mul, Nat.add_sub_cancel, List.take_of_length_le (l := x) (by omega)]

/-- Cells written, one behind another. -/
def write : List Value → Nat → List Value → List Value
  | l, _, [] => l
  | l, o, v :: r => write (l.set o v) (o + 1) r

theorem write_len (u : List Value) : ∀ (l : List Value) (o : Nat), (write l o u).length = l.length := by
  induction u with
  | nil => intro l o; rfl
  | cons v r ih => intro l o; show (write (l.set o v) (o + 1) r).length = _; rw [ih]; simp

theorem write_take (u : List Value) : ∀ (l : List Value) (o p : Nat), p ≤ o → (write l o u).take p = l.take p := by
  induction u with
  | nil => intro l o p h; rfl
  | cons v r ih =>
    intro l o p h
    show (write (l.set o v) (o + 1) r).take p = _
    rw [ih _ _ _ (by omega), List.take_set_of_le h]

theorem write_pre (u : List Value) : ∀ (pre x rest : List Value), x.length = u.length → write (pre ++ x ++ rest) pre.length u = pre ++ u ++ rest := by
  induction u with
  | nil =>
    intro pre x rest h
    rw [List.eq_nil_of_length_eq_zero h]
    rfl
  | cons v r ih =>
    intro pre x rest h
    cases x with
    | nil => simp at h
    | cons y x =>
      show write ((pre ++ (y :: x) ++ rest).set pre.length v) (pre.length + 1) r = _
      have e : (pre ++ (y :: x) ++ rest).set pre.length v = (pre ++ [v]) ++ x ++ rest := by
        rw [List.append_assoc, List.set_append_right _ _ (Nat.le_refl _), Nat.sub_self]
        simp
      have h2 := ih (pre ++ [v]) x rest (by simpa using h)
      rw [List.length_append] at h2
      rw [e]
      refine h2.trans ?_
      simp

theorem write_row {k : Nat} {u : List Value} (hu : u.length = k) : ∀ (arr : List (List Value)) (i : Nat), (∀ r ∈ arr, r.length = k) → i < arr.length → write arr.flatten (i * k) u = (arr.set i u).flatten := by
  intro arr i hr hi
  have h1 : arr.flatten = (arr.take i).flatten ++ arr[i] ++ (arr.drop (i + 1)).flatten := by
    conv => lhs; rw [← List.take_append_drop i arr, List.drop_eq_getElem_cons hi, List.flatten_append, List.flatten_cons, ← List.append_assoc]
  have h2 : (arr.take i).flatten.length = i * k := by
    rw [flat_len (k := k) (fun r h => hr r (List.mem_of_mem_take h)), List.length_take, Nat.min_eq_left (Nat.le_of_lt hi)]
  have h3 := write_pre u (arr.take i).flatten arr[i] (arr.drop (i + 1)).flatten (by rw [hr _ (List.getElem_mem hi), hu])
  rw [h2, ← h1] at h3
  rw [h3, List.set_eq_take_append_cons_drop, if_pos hi, List.flatten_append, List.flatten_cons, List.append_assoc]

/-- A block that is a row of rows. -/
def RowsAt (w : World) (G : Nat) (e : TypeId) (k c : Nat) (arr : List (List Value)) : Prop :=
  ∃ cur : Array Value, w.heap[G]? = some (.cells cur e (0, 0)) ∧ cur.toList = arr.flatten ∧ arr.length = c ∧ ∀ r ∈ arr, r.length = k

theorem RowsAt.len {w : World} {G : Nat} {e : TypeId} {k c : Nat} {arr : List (List Value)} (h : RowsAt w G e k c arr) : arr.length = c := by
  obtain ⟨_, _, _, h, _⟩ := h; exact h
theorem RowsAt.row {w : World} {G : Nat} {e : TypeId} {k c : Nat} {arr : List (List Value)} (h : RowsAt w G e k c arr) : ∀ r ∈ arr, r.length = k := by
  obtain ⟨_, _, _, _, h⟩ := h; exact h
theorem RowsAt.lt {w : World} {G : Nat} {e : TypeId} {k c : Nat} {arr : List (List Value)} (h : RowsAt w G e k c arr) : G < w.heap.size := by
  obtain ⟨cur, hh, _⟩ := h
  exact (Array.getElem?_eq_some_iff.1 hh).1
theorem RowsAt.cell {w : World} {G : Nat} {e : TypeId} {k c : Nat} {arr : List (List Value)} (h : RowsAt w G e k c arr) {i : Nat} {r : List Value} (hr : arr[i]? = some r) {j : Nat} {x : Value} (hx : r[j]? = some x) : w.cell? ⟨G, i * k + j, none⟩ = some x := by
  obtain ⟨cur, hh, hf, hl, hk⟩ := h
  have hj : j < k := by
    have h1 := (List.getElem?_eq_some_iff.1 hx).1
    rw [hk r (List.mem_of_getElem? hr)] at h1
    exact h1
  rw [cell_of_row _ G (i * k + j) cur e _ hh, ← Array.getElem?_toList, hf, flat_at hk i j hj, hr]
  exact hx
theorem RowsAt.isSome {w : World} {G : Nat} {e : TypeId} {k c : Nat} {arr : List (List Value)} (h : RowsAt w G e k c arr) {t : Nat} (ht : t < c * k) : (w.cell? ⟨G, t, none⟩).isSome = true := by
  obtain ⟨cur, hh, hf, hl, hk⟩ := h
  rw [cell_of_row _ G t cur e _ hh, ← Array.getElem?_toList, hf, List.getElem?_eq_getElem (by rw [flat_len hk, hl]; exact ht)]
  rfl
theorem RowsAt.frozen {w : World} {G : Nat} {e : TypeId} {k c : Nat} {arr : List (List Value)} (h : RowsAt w G e k c arr) (i : Nat) : w.frozen? ⟨G, i, none⟩ = false := by
  obtain ⟨cur, hh, _⟩ := h
  simp [World.frozen?, hh]
theorem RowsAt.next {w w' : World} {G : Nat} {e : TypeId} {k c : Nat} {arr : List (List Value)} (h : RowsAt w G e k c arr) (hb : Below w.heap.size w w') : RowsAt w' G e k c arr := by
  have hl := h.lt
  obtain ⟨cur, hh, h2⟩ := h
  exact ⟨cur, by rw [hb.block G hl]; exact hh, h2⟩

theorem sets_block {G : Nat} {e : TypeId} : ∀ (u : List Value) (w : World) (o : Nat) (cur : Array Value), w.heap[G]? = some (.cells cur e (0, 0)) → ∃ cur', (w.setCells G o u).heap[G]? = some (.cells cur' e (0, 0)) ∧ cur'.toList = write cur.toList o u := by
  intro u
  induction u with
  | nil => intro w o cur h; exact ⟨cur, h, rfl⟩
  | cons v r ih =>
    intro w o cur h
    have h1 : (w.setCell ⟨G, o, none⟩ v).heap[G]? = .some (.cells (cur.setIfInBounds o v) e (0, 0)) := by
      simp [World.setCell, Array.getElem?_modify, h]
    obtain ⟨cur', h2, h3⟩ := ih (w.setCell ⟨G, o, none⟩ v) (o + 1) _ h1
    refine ⟨cur', h2, ?_⟩
    rw [h3]
    simp [write]

theorem RowsAt.set {w : World} {G : Nat} {e : TypeId} {k c : Nat} {arr : List (List Value)} (h : RowsAt w G e k c arr) {i : Nat} (hi : i < c) {u : List Value} (hu : u.length = k) : RowsAt (w.setCells G (i * k) u) G e k c (arr.set i u) := by
  obtain ⟨cur, hh, hf, hl, hk⟩ := h
  obtain ⟨cur', h1, h2⟩ := sets_block u w (i * k) cur hh
  refine ⟨cur', h1, ?_, by simpa using hl, fun r hr => ?_⟩
  · rw [h2, hf, write_row hu arr i hk (by omega)]
  · rcases List.mem_or_eq_of_mem_set hr with hr | rfl
    · exact hk r hr
    · exact hu

theorem RowsAt.wipe {w : World} {G : Nat} {e : TypeId} {k c : Nat} {arr : List (List Value)} (h : RowsAt w G e k c arr) {i : Nat} (hi : i ≤ c) (u : List Value) : ∃ arr', RowsAt (w.setCells G (i * k) u) G e k c arr' ∧ arr'.take i = arr.take i := by
  obtain ⟨cur, hh, hf, hl, hk⟩ := h
  obtain ⟨cur', h1, h2⟩ := sets_block u w (i * k) cur hh
  have hlen : cur'.toList.length = c * k := by rw [h2, write_len, hf, flat_len hk, hl]
  refine ⟨chunk k c cur'.toList, ⟨cur', h1, (chunk_flat hlen).symm, chunk_len _ _ _, chunk_row hlen⟩, ?_⟩
  refine chunk_take hlen hi (fun r hr => hk r (List.mem_of_mem_take hr)) (by rw [List.length_take, hl]; omega) ?_
  rw [h2, write_take _ _ _ _ (Nat.le_refl _), hf, flat_take hk i (by omega)]

/-- What is owned, as rows. -/
theorem of_own {w : World} {B : Nat} {e : TypeId} {k : Nat} {a : Option Addr} {n c : Nat} {vs : List (List Value)} (h : w.ownsRow B e k (.slice a n c) n vs.flatten) (hr : ∀ r ∈ vs, r.length = k) (hv : vs.length = n) :
    (a = none ∧ n = 0 ∧ c = 0) ∨ ∃ G arr, a = some ⟨G, 0, none⟩ ∧ B ≤ G ∧ n ≤ c ∧ c ≤ maxLen ∧ RowsAt w G e k c arr ∧ arr.take n = vs := by
  rcases h.2 with ⟨hv', hnil⟩ | ⟨g, cap, cur, hv', hgB, hh, q1, q2, q3, q4⟩
  · simp only [Value.slice.injEq] at hv'
    exact .inl hv'
  · simp only [Value.slice.injEq, true_and] at hv'
    obtain ⟨rfl, rfl⟩ := hv'
    have hlen : cur.toList.length = c * k := by rw [Array.length_toList, q3]
    exact .inr ⟨g, chunk k c cur.toList, rfl, hgB, q1, q2, ⟨cur, hh, (chunk_flat hlen).symm, chunk_len _ _ _, chunk_row hlen⟩, chunk_take hlen q1 hr hv q4⟩

theorem RowsAt.own {w : World} {G : Nat} {e : TypeId} {k c : Nat} {arr : List (List Value)} (h : RowsAt w G e k c arr) {B i : Nat} (hB : B ≤ G) (hi : i ≤ c) (hc : c ≤ maxLen) : w.ownsRow B e k (.slice (some ⟨G, 0, none⟩) i c) i (arr.take i).flatten := by
  obtain ⟨cur, hh, hf, hl, hk⟩ := h
  have h1 := flat_take hk i (by omega)
  refine ⟨?_, .inr ⟨G, c, cur, rfl, hB, hh, hi, hc, ?_, ?_⟩⟩
  · rw [flat_len (k := k) (fun r hr => hk r (List.mem_of_mem_take hr)), List.length_take, hl, Nat.min_eq_left hi]
  · rw [← Array.length_toList, hf, flat_len hk, hl]
  · rw [hf, h1]

/-- 'clear' of a slice of structs. -/
theorem run_clear {P : Program} (w : World) (t e ty : TypeId) (z : Value) (ht : P.underlying t = some (.slice e)) (hv : ∀ w, (zeroValue e).run P w = .ok z w) (k : Nat) (hz : z.cells.size = k) (h1 : ∀ v ∈ z.cells.toList, v.oneCell' = true) (hk : 0 < k) (b o n c : Nat) (hn : 0 < n)
    (hc : ∀ j, j < n * k → (w.cell? ⟨b, o + j, none⟩).isSome = true) (hf : ∀ j, j < n * k → w.frozen? ⟨b, o + j, none⟩ = false) :
    (Builtin.clear_ #[t] ty #[.slice (some ⟨b, o, none⟩) n c]).run P w = .ok (.tuple #[]) (w.setCells b o (Builtin.zeroCells z.cells n).toList) := by
  have hlen : (Builtin.zeroCells z.cells n).toList.length = n * k := by simp [Builtin.zeroCells, hz]
  have hst := run_storeCells_cells (P := P) b o (Builtin.zeroCells z.cells n).toList 0 w (by rw [hlen]; simpa using hc) (by rw [hlen]; simpa using hf) (by
    intro v hv'
    simp only [Builtin.zeroCells, Array.toList_map, List.mem_map] at hv'
    obtain ⟨i, _, rfl⟩ := hv'
    have hi : i % z.cells.size < z.cells.size := Nat.mod_lt _ (by omega)
    rw [getElem!_pos z.cells (i % z.cells.size) hi]
    exact h1 _ (Array.getElem_mem_toList hi))
  simp only [Nat.add_zero] at hst
  obtain ⟨m, rfl⟩ : ∃ m, n = m + 1 := ⟨n - 1, by omega⟩
  simp [Builtin.clear_, run_underlying ht, hv, hst]

/-! ### What is kept. -/
/-- What is kept of the first j. -/
def kp {α : Type} (p : α → Bool) (ps : List (List Value × α)) (j : Nat) : List (List Value × α) := (ps.take j).filter fun q => !p q.2

theorem kp_more {α : Type} {p : α → Bool} {ps : List (List Value × α)} {j : Nat} (hj : j < ps.length) : kp p ps (j + 1) = kp p ps j ++ (if p ps[j].2 = true then [] else [ps[j]]) := by
  unfold kp
  rw [List.take_succ_eq_append_getElem hj, List.filter_append]
  cases h : p ps[j].2 <;> simp [h]

theorem kp_len {α : Type} (p : α → Bool) (ps : List (List Value × α)) (j : Nat) : (kp p ps j).length ≤ j := by
  have := List.length_filter_le (fun q : List Value × α => !p q.2) (ps.take j)
  rw [List.length_take] at this
  unfold kp
  omega

theorem kp_snd {α : Type} {p : α → Bool} {vals : List (List Value)} {xs : List α} (h : vals.length = xs.length) : (kp p (vals.zip xs) xs.length).map Prod.snd = xs.filter fun x => !p x := by
  unfold kp
  rw [List.take_of_length_le (by rw [List.length_zip]; omega)]
  induction vals generalizing xs with
  | nil => cases xs with
    | nil => rfl
    | cons y r => simp at h
  | cons x r ih =>
    cases xs with
    | nil => simp at h
    | cons y q =>
      have := ih (xs := q) (by simpa using h)
      cases hp : p y <;> simp [List.filter_cons, hp, this]

theorem kp_first {α : Type} {p : α → Bool} {vals : List (List Value)} {xs : List α} {k0 : Nat} (h : vals.length = xs.length) (hk0 : k0 < xs.length) (ht : p xs[k0] = true) (hall : ∀ b ∈ (xs.map p).take k0, b = false) : kp p (vals.zip xs) (k0 + 1) = (vals.zip xs).take k0 := by
  have hkz : k0 < (vals.zip xs).length := by rw [List.length_zip]; omega
  rw [kp_more hkz]
  have hp0 : p (vals.zip xs)[k0].2 = true := by
    rw [List.getElem_zip]
    simpa using ht
  rw [if_pos hp0, List.append_nil]
  unfold kp
  rw [List.filter_eq_self]
  intro q hq
  obtain ⟨i, hi, rfl⟩ := List.getElem_of_mem hq
  rw [List.length_take] at hi
  rw [List.getElem_take, List.getElem_zip]
  have hm : p (xs[i]'(by omega)) ∈ (xs.map p).take k0 := by
    refine List.mem_iff_getElem.2 ⟨i, by rw [List.length_take, List.length_map]; omega, ?_⟩
    rw [List.getElem_take, List.getElem_map]
  rw [hall _ hm]
  rfl

theorem idx_cases (ps : List Bool) : ∀ k, (idx id ps k = -1 ∧ ∀ b ∈ ps, b = false) ∨ ∃ i, ∃ h : i < ps.length, idx id ps k = ((k + i : Nat) : Int) ∧ ps[i] = true ∧ ∀ b ∈ ps.take i, b = false := by
  induction ps with
  | nil => intro k; exact .inl ⟨rfl, by simp⟩
  | cons b r ih =>
    intro k
    cases hb : b
    · rcases ih (k + 1) with ⟨h1, h2⟩ | ⟨i, hi, h1, h2, h3⟩
      · exact .inl ⟨by unfold idx; simpa using h1, by intro c hc; rcases List.mem_cons.1 hc with rfl | hc; rfl; exact h2 c hc⟩
      · refine .inr ⟨i + 1, by simpa using hi, ?_, by simpa using h2, ?_⟩
        · unfold idx
          simp only [id_eq, Bool.false_eq_true, if_false]
          rw [h1]; congr 1; omega
        · intro c hc
          rw [List.take_succ_cons] at hc
          rcases List.mem_cons.1 hc with rfl | hc
          · rfl
          · exact h3 c hc
    · exact .inr ⟨0, by simp, by unfold idx; simp, rfl, by simp⟩

theorem kp_all {α : Type} {p : α → Bool} {xs : List α} (hall : ∀ b ∈ xs.map p, b = false) : xs.filter (fun x => !p x) = xs := by
  rw [List.filter_eq_self]
  intro x hx
  rw [hall (p x) (List.mem_map.2 ⟨x, hx, rfl⟩)]
  rfl

/-- A row that was kept is one of those that were there. -/
theorem kp_mem {α : Type} {p : α → Bool} {vals : List (List Value)} {xs : List α} {j k : Nat} {v : List Value} {x : α} (hv : ((kp p (vals.zip xs) j).map Prod.fst)[k]? = some v) (hx : ((kp p (vals.zip xs) j).map Prod.snd)[k]? = some x) : ∃ i : Nat, vals[i]? = some v ∧ xs[i]? = some x := by
  rw [List.getElem?_map, Option.map_eq_some_iff] at hv hx
  obtain ⟨q, hq, rfl⟩ := hv
  obtain ⟨q', hq', rfl⟩ := hx
  rw [hq] at hq'
  simp only [Option.some.injEq] at hq'
  subst hq'
  have hm : q ∈ vals.zip xs := List.mem_of_mem_take (List.mem_filter.1 (List.mem_of_getElem? hq)).1
  obtain ⟨i, hi, hqe⟩ := List.getElem_of_mem hm
  rw [List.getElem_zip] at hqe
  rw [List.length_zip] at hi
  refine ⟨i, ?_, ?_⟩
  · rw [List.getElem?_eq_getElem (by omega), ← hqe]
  · rw [List.getElem?_eq_getElem (by omega), ← hqe]
end RowsK
end Go.Proofs.YtninglnchengeaaGreat

/-
  slices.DeleteFunc of []int, on a slice of the call's own; the predicate is told of its elements alone.
-/
namespace Go.Proofs.YtninglnchengeaaGreat
open Go.RowKit Base RowsK
set_option linter.unusedVariables false
set_option linter.unusedSimpArgs false
namespace DelN

def tris (l : List Int) : List (List Value) := l.map fun x => [.int .i64 x]
theorem tris_row (l : List Int) : ∀ r ∈ tris l, r.length = 1 := by
  intro r hr
  obtain ⟨x, _, rfl⟩ := List.mem_map.1 hr
  rfl
theorem tris_flat (l : List Int) : (tris l).flatten = ints l := by
  induction l with
  | nil => rfl
  | cons x r ih => show _ :: (tris r).flatten = _; rw [ih]; rfl

def fl (p : Int → Bool) (l : List Int) : List Int := l.filter fun x => !p x
theorem fl_more {p : Int → Bool} {l : List Int} {j : Nat} (hj : j < l.length) : fl p (l.take (j + 1)) = fl p (l.take j) ++ (if p l[j] = true then [] else [l[j]]) := by
  unfold fl
  rw [List.take_succ_eq_append_getElem hj, List.filter_append]
  cases h : p l[j] <;> simp [h]
theorem fl_all {p : Int → Bool} {l : List Int} (hall : ∀ b ∈ l.map p, b = false) : fl p l = l := kp_all hall

set_option maxRecDepth 4000 in
set_option maxHeartbeats 8000000 in
theorem del_own (w : World) (B : Nat) (a : Option Addr) (n c : Nat) (l : List Int) (hn : l.length = n) (hown : w.ownsRow B 3 1 (.slice a n c) n (tris l).flatten) (hB : B ≤ w.heap.size)
    (g : FuncId) (lb : Array Value) (p : Int → Bool) (eg : SlfI.Enters g)
    (hg : ∀ W, w.grownBy W (Value.slice a n c).ownBlock → ∀ t ∈ l, Calls Tryz.prog g (#[.int .i64 t] ++ lb) W fun e w' => e = .returned (.bool (p t)) ∧ Below W.heap.size W w') :
    Calls Tryz.prog 22 #[.slice a n c, .func (.func g) #[] lb] w fun e w' => ∃ n', e = .returned (.slice a n' c) ∧ n' = (fl p l).length ∧ w'.ownsRow B 3 1 (.slice a n' c) n' (tris (fl p l)).flatten ∧ w.grownBy w' (Value.slice a n c).ownBlock := by
  have hsl : Sl w a n c (ints l) := Circuit.own_sl' (by rw [← tris_flat]; exact hown)
  have IF := SlfI.indexFunc w a n c (ints l) g #[] lb (l.map p) hsl (by rw [List.length_map]; exact hn) eg (by
    intro W hW k v b hv hb
    obtain ⟨hk, rfl⟩ := Base.ints_at hv
    rw [List.getElem?_map, List.getElem?_eq_getElem hk] at hb
    simp only [Option.map_some, Option.some.injEq] at hb
    subst hb
    exact hg W (grown_of_below hW) _ (List.getElem_mem hk))
  have hcap := hsl.cap
  have hbig := hsl.big
  have HOW := Lib.hid hown
  have HG := Lib.hid hg
  have HL := Lib.hid hn
  have hmf : ∀ args W, (callFunc g args).run Tryz.prog W = .ok (.enter g args) W := eg
  rcases idx_cases (l.map p) 0 with ⟨h1, hall⟩ | ⟨k0, hk0, h1, ht, hall⟩
  · rw [h1] at IF
    have HF := Lib.hid IF
    have HE : Hid (fl p l = l) := fl_all hall
    clear hown hg hsl hn IF h1 hall
    go_enter Tryz.func22, Tryz.ntmps22
    go_wp2_with fail
    refine HF.out.mono ?_
    rintro e w1 ⟨rfl, hb1⟩
    have HB := Lib.hid hb1
    clear hb1
    go_wp2_with fail
    go_ret
    exact ⟨n, rfl, by rw [HE.out, HL.out], by rw [HE.out]; exact own_next HOW.out HB.out, grown_of_below HB.out⟩
  · rw [h1, Nat.zero_add] at IF
    have HF := Lib.hid IF
    have hk0n : k0 < n := by rw [List.length_map] at hk0; omega
    rcases of_own hown (tris_row l) (by unfold tris; rw [List.length_map]; exact hn) with ⟨_, hv, _⟩ | ⟨G, arr0, rfl, hGB, q1, q2, hR, htk0⟩
    · omega
    · have HR := Lib.hid hR
      have HQ := Lib.hid (And.intro hGB (And.intro q1 q2))
      have hcv : ∀ k, k < n → arr0[k]? = (tris l)[k]? := by
        intro k hk
        have := congrArg (fun l : List (List Value) => l[k]?) htk0
        rwa [List.getElem?_take_of_lt hk] at this
      have HCV := Lib.hid hcv
      have HK0 : Hid (fl p (l.take (k0 + 1)) = l.take k0) := by
        show _ = _
        rw [List.length_map] at hk0
        rw [fl_more hk0]
        have hp0 : p l[k0] = true := by simpa using ht
        rw [if_pos hp0, List.append_nil]
        exact fl_all (by rw [List.map_take]; exact hall)
      have hob : (Value.slice (some ⟨G, 0, none⟩) n c).ownBlock = some G := rfl
      rw [hob] at HG
      clear hown hg hsl IF h1 hall ht hR hGB q1 q2 hcv hob
      go_enter Tryz.func22, Tryz.ntmps22
      clear hn
      have HT0 := Lib.hid htk0
      clear htk0
      go_wp2_with fail
      refine HF.out.mono ?_
      rintro e w1 ⟨rfl, hb1⟩
      have HB := Lib.hid hb1
      clear hb1
      have hkm : ((k0 : Int) == -1) = false := beq_eq_false_iff_ne.2 (by omega)
      go_wp2_with fail
      go_loopw [5, 6] (fun s5 s6 wr => ∃ (i j : Nat) (arr : List (List Value)), s5 = .int .i64 i ∧ s6 = .int .i64 j ∧ j ≤ n ∧ i < j ∧ Hid ((fl p (l.take j)).length = i) ∧ Hid (RowsAt wr G 3 1 c arr) ∧ Hid (arr.take i = tris (fl p (l.take j))) ∧
        Hid (∀ k, j ≤ k → k < n → arr[k]? = (tris l)[k]?) ∧ Hid (w.grownBy wr (some G))) (fun _ s6 _ => n - (intOf s6).toNat)
      case atStart =>
        refine ⟨k0, k0 + 1, arr0, rfl, by go_num, by omega, by omega, ?_, HR.out.next HB.out, ?_, fun k h1 h2 => HCV.out k h2, grown_of_below HB.out⟩
        · show _ = _
          rw [HK0.out, List.length_take, HL.out]; omega
        · show _ = _
          rw [HK0.out]
          have := congrArg (fun l : List (List Value) => l.take k0) HT0.out
          rw [List.take_take, Nat.min_eq_left (Nat.le_of_lt hk0n)] at this
          rw [this]
          unfold tris
          rw [List.map_take]
      case round =>
        obtain ⟨i, j, arr, rfl, rfl, hjn, hij, hlen, hrow, htk, hrest, hgr⟩ := hrel
        by_cases hlt : j < n
        · have hjl : j < l.length := by rw [HL.out]; exact hlt
          have hvt : (tris l)[j]? = some [.int .i64 l[j]] := by unfold tris; rw [List.getElem?_map, List.getElem?_eq_getElem hjl]; rfl
          have hvj := (hrest.out j (Nat.le_refl _) hlt).trans hvt
          have d0 := hrow.out.cell hvj (j := 0) rfl
          rw [Nat.add_zero, Nat.mul_one] at d0
          have HKM := Lib.hid (fl_more (p := p) hjl)
          have HMEM : Hid (l[j] ∈ l) := List.getElem_mem _
          generalize l[j] = t at *
          have CALL := Lib.hid (HG.out wr hgr.out t HMEM.out)
          have hal := hrow.out.len
          have HAL := Lib.hid hal
          have HR5 := hrow
          have HG5 := hgr
          clear hvt hvj hal hjl
          have hjlt : (j : Int) < (n : Int) := by omega
          cases hp : p t
          · rw [hp] at CALL HKM
            clear hp
            go_wp2_with fail
            refine CALL.out.mono ?_
            rintro e w2 ⟨rfl, hb2⟩
            have hr2 := HR5.out.next hb2
            have hic : i < c := by omega
            obtain ⟨y0, hy0⟩ := Option.isSome_iff_exists.1 (hr2.isSome (t := i) (by omega))
            have f0 := hr2.frozen i
            have hst := hr2.set hic (u := [.int .i64 t]) rfl
            rw [Nat.mul_one] at hst
            have HR2 := Lib.hid hst
            have HG2 := Lib.hid (grown_sets [.int .i64 t] w2 i (grown_below HG5.out hb2))
            clear hb2 hr2 d0 hst
            go_wp2_with fail
            go_roundw
            case rel =>
              refine ⟨i + 1, j + 1, arr.set i [.int .i64 t], by go_num, by go_num, by omega, by omega, ?_, HR2.out, ?_, ?_, HG2.out⟩
              · show _ = _
                rw [HKM.out]; simp [hlen.out]
              · show _ = _
                rw [HKM.out]
                simp only [Bool.false_eq_true, if_false]
                rw [List.take_succ_eq_append_getElem (by rw [List.length_set, HAL.out]; exact hic), List.getElem_set_self, List.take_set_of_le (Nat.le_refl _), htk.out]
                unfold tris
                rw [List.map_append]
                rfl
              · intro k h1 h2
                rw [List.getElem?_set_ne (by omega)]
                exact hrest.out k (by omega) h2
            case measure => simp [intOf]; omega
          · rw [hp] at CALL HKM
            clear hp
            go_wp2_with fail
            refine CALL.out.mono ?_
            rintro e w2 ⟨rfl, hb2⟩
            have HR2 := Lib.hid (HR5.out.next hb2)
            have HG2 := Lib.hid (grown_below HG5.out hb2)
            clear hb2 d0
            go_wp2_with fail
            go_roundw
            case rel =>
              refine ⟨i, j + 1, arr, rfl, by go_num, by omega, by omega, ?_, HR2.out, ?_, fun k h1 h2 => hrest.out k (by omega) h2, HG2.out⟩
              · show _ = _
                rw [HKM.out]; simp [hlen.out]
              · show _ = _
                rw [HKM.out]; simp [htk.out]
            case measure => simp [intOf]; omega
        · obtain rfl : j = n := by omega
          have hal := hrow.out.len
          have hjc := HQ.out.2.1
          have hci : ¬ c = i := by omega
          have hin : i ≤ j := by omega
          have hcl : ∀ ty, (Builtin.clear_ #[22] ty #[.slice (some ⟨G, i, none⟩) (j - i) (c - i)]).run Tryz.prog wr = .ok (.tuple #[]) (wr.setCells G i (Builtin.zeroCells (Value.int .i64 0).cells (j - i)).toList) :=
            fun ty => RowsK.run_clear wr _ _ ty _ Tryz.underlying22 Tryz.zeroValue3 1 rfl (by intro v hv; simp [Value.cells] at hv; subst hv; rfl) (by decide) G i _ _ (by omega) (fun t ht => hrow.out.isSome (by omega)) (fun t ht => hrow.out.frozen _)
          obtain ⟨arr', hR', hT'⟩ := hrow.out.wipe (i := i) (by omega) (Builtin.zeroCells (Value.int .i64 0).cells (j - i)).toList
          rw [Nat.mul_one] at hR'
          have HRR := Lib.hid hR'
          have HTT := Lib.hid (hT'.trans htk.out)
          have HGG := Lib.hid (grown_sets (Builtin.zeroCells (Value.int .i64 0).cells (j - i)).toList wr i hgr.out)
          have HLI := hlen
          clear hR' hT' hrow htk hrest hgr hlen hal
          have hji : ¬ (j : Int) < (j : Int) := by omega
          go_wp2_with fail
          go_ret
          have hfin : l.take j = l := List.take_of_length_le (Nat.le_of_eq HL.out)
          have h1 := HLI.out
          have h2 := HTT.out
          rw [hfin] at h1 h2
          exact ⟨i, rfl, h1.symm, by rw [← h2]; exact HRR.out.own HQ.out.1 (by omega) HQ.out.2.2, HGG.out⟩

end DelN
end Go.Proofs.YtninglnchengeaaGreat

/-
  slices.IndexFunc at one instance (elements of three integers), whatever predicate is handed over: ps says of each element what the predicate gives.
-/
namespace Go.Proofs.YtninglnchengeaaGreat
open Go.RowKit Base
set_option linter.unusedVariables false
namespace SlfL

/-- A function value gives ps of the elements, and turns nothing that is there. -/
def Gives (w : World) (g : FuncId) (fs lb : Array Value) (vs : List Tri) (ps : List Bool) : Prop :=
  ∀ W, Below w.heap.size w W → ∀ (k : Nat) (v : Tri) (b : Bool), vs[k]? = some v → ps[k]? = some b → Calls Tryz.prog g (fs.push (.agg #[.int .i64 v.1, .int .i64 v.2.1, .int .i64 v.2.2]) ++ lb) W fun e w' => e = .returned (.bool b) ∧ Below W.heap.size W w'

def Enters (g : FuncId) : Prop := ∀ args w, (callFunc g args).run Tryz.prog w = .ok (.enter g args) w

theorem idx_hit (ps : List Bool) (k : Nat) (h : ps[k]? = some true) : idx id (ps.drop k) k = k := by
  obtain ⟨hk, e⟩ := List.getElem?_eq_some_iff.1 h
  rw [List.drop_eq_getElem_cons hk]; unfold idx; rw [e]; rfl
theorem idx_miss (ps : List Bool) (k : Nat) (h : ps[k]? = some false) : idx id (ps.drop k) k = idx id (ps.drop (k + 1)) (k + 1) := by
  obtain ⟨hk, e⟩ := List.getElem?_eq_some_iff.1 h
  rw [List.drop_eq_getElem_cons hk]
  show (if id ps[k] = true then _ else _) = _
  rw [e]; rfl

set_option maxHeartbeats 1000000 in
theorem indexFunc (w : World) (a : Option Addr) (n c : Nat) (vs : List Tri) (g : FuncId) (fs lb : Array Value) (ps : List Bool)
    (hs : SlT w 3 a n c (tris vs)) (hps : ps.length = n) (eg : Enters g) (hg : Gives w g fs lb vs ps) :
    Calls Tryz.prog 54 #[.slice a n c, .func (.func g) fs lb] w fun e w' => e = .returned (.int .i64 (idx id ps 0)) ∧ Below w.heap.size w w' := by
  have hcap := hs.cap
  have hbig := hs.big
  have HPS := Lib.hid hps
  have HG := Lib.hid hg
  clear hg hps
  unfold Enters at eg
  go_enter Tryz.func54, Tryz.ntmps54
  go_wp2
  go_loopw [5, 8] (fun _ i wr => ∃ k : Nat, k ≤ n ∧ i = .int .i64 k ∧ Below w.heap.size w wr ∧ Hid (idx id ps 0 = idx id (ps.drop k) k)) (fun _ i _ => n - (intOf i).toNat)
  case atStart => exact ⟨0, Nat.zero_le _, rfl, Below.refl _ _, rfl⟩
  case round =>
    obtain ⟨k, hk, rfl, hb, hI⟩ := hrel
    by_cases hlt : k < n
    · obtain ⟨b, o, hx, rfl, hbs, hc0, hc1, hc2⟩ := hs.tri hlt
      have d0 := (hb.cell (p := ⟨b, o + k * 3, none⟩) hbs).trans hc0
      have d1 := (hb.cell (p := ⟨b, o + k * 3 + 1, none⟩) hbs).trans hc1
      have d2 := (hb.cell (p := ⟨b, o + k * 3 + 2, none⟩) hbs).trans hc2
      have HV := Lib.hid (List.getElem?_eq_getElem hx)
      clear hc0 hc1 hc2
      generalize vs[k] = t at *
      obtain ⟨t0, t1, t2⟩ := t
      simp only at d0 d1 d2
      obtain ⟨q, hq⟩ : ∃ q, ps[k]? = some q := ⟨_, List.getElem?_eq_getElem (by have := HPS.out; omega)⟩
      have HQ := Lib.hid hq
      clear hq
      cases q
      all_goals
        go_wp2_with fail
        refine (HG.out wr hb k (t0, t1, t2) _ HV.out HQ.out).mono ?_
        rintro e w1 ⟨rfl, hb1⟩
        go_wp2_with fail
      · go_roundw
        case rel => exact ⟨k + 1, by omega, by go_num, hb.trans (hb1.mono hb.size), hI.out.trans (idx_miss ps k HQ.out)⟩
        case measure => simp [intOf]; omega
      · go_ret
        exact ⟨ret_int (by rw [hI.out, idx_hit ps k HQ.out]), hb.trans (hb1.mono hb.size)⟩
    · go_wp2
      go_ret
      exact ⟨ret_int (by rw [hI.out, List.drop_of_length_le (by rw [HPS.out]; omega)]; rfl), hb⟩

end SlfL
end Go.Proofs.YtninglnchengeaaGreat

/-
  slices.DeleteFunc of []api.Latch, on a slice of the call's own.
-/
namespace Go.Proofs.YtninglnchengeaaGreat
open Go.RowKit Base RowsK
set_option linter.unusedVariables false
set_option linter.unusedSimpArgs false
namespace DelL

def fl (p : Tri → Bool) (l : List Tri) : List Tri := l.filter fun x => !p x
theorem fl_more {p : Tri → Bool} {l : List Tri} {j : Nat} (hj : j < l.length) : fl p (l.take (j + 1)) = fl p (l.take j) ++ (if p l[j] = true then [] else [l[j]]) := by
  unfold fl
  rw [List.take_succ_eq_append_getElem hj, List.filter_append]
  cases h : p l[j] <;> simp [h]
theorem fl_all {p : Tri → Bool} {l : List Tri} (hall : ∀ b ∈ l.map p, b = false) : fl p l = l := kp_all hall

set_option maxRecDepth 4000 in
set_option maxHeartbeats 8000000 in
theorem del_own (w : World) (B : Nat) (a : Option Addr) (n c : Nat) (l : List Tri) (hn : l.length = n) (hown : w.ownsRow B 41 3 (.slice a n c) n (tris l).flatten) (hB : B ≤ w.heap.size)
    (g : FuncId) (lb : Array Value) (p : Tri → Bool) (eg : SlfL.Enters g)
    (hg : ∀ W, w.grownBy W (Value.slice a n c).ownBlock → ∀ t ∈ l, Calls Tryz.prog g (#[.agg #[.int .i64 t.1, .int .i64 t.2.1, .int .i64 t.2.2]] ++ lb) W fun e w' => e = .returned (.bool (p t)) ∧ Below W.heap.size W w') :
    Calls Tryz.prog 25 #[.slice a n c, .func (.func g) #[] lb] w fun e w' => ∃ n', e = .returned (.slice a n' c) ∧ n' = (fl p l).length ∧ w'.ownsRow B 41 3 (.slice a n' c) n' (tris (fl p l)).flatten ∧ w.grownBy w' (Value.slice a n c).ownBlock := by
  have hsl := Circuit.own_slT' (tris_row l) (by unfold tris; rw [List.length_map]; exact hn) hown
  have IF := SlfL.indexFunc w a n c l g #[] lb (l.map p) hsl (by rw [List.length_map]; exact hn) eg (by
    intro W hW k v b hv hb
    rw [List.getElem?_map, hv] at hb
    simp only [Option.map_some, Option.some.injEq] at hb
    subst hb
    exact hg W (grown_of_below hW) v (List.mem_of_getElem? hv))
  have hcap := hsl.cap
  have hbig := hsl.big
  have HOW := Lib.hid hown
  have HG := Lib.hid hg
  have HL := Lib.hid hn
  have hmf : ∀ args W, (callFunc g args).run Tryz.prog W = .ok (.enter g args) W := eg
  rcases idx_cases (l.map p) 0 with ⟨h1, hall⟩ | ⟨k0, hk0, h1, ht, hall⟩
  · rw [h1] at IF
    have HF := Lib.hid IF
    have HE : Hid (fl p l = l) := fl_all hall
    clear hown hg hsl hn IF h1 hall
    go_enter Tryz.func25, Tryz.ntmps25
    go_wp2_with fail
    refine HF.out.mono ?_
    rintro e w1 ⟨rfl, hb1⟩
    have HB := Lib.hid hb1
    clear hb1
    go_wp2_with fail
    go_ret
    exact ⟨n, rfl, by rw [HE.out, HL.out], by rw [HE.out]; exact own_next HOW.out HB.out, grown_of_below HB.out⟩
  · rw [h1, Nat.zero_add] at IF
    have HF := Lib.hid IF
    have hk0n : k0 < n := by rw [List.length_map] at hk0; omega
    rcases of_own hown (tris_row l) (by unfold tris; rw [List.length_map]; exact hn) with ⟨_, hv, _⟩ | ⟨G, arr0, rfl, hGB, q1, q2, hR, htk0⟩
    · omega
    · have HR := Lib.hid hR
      have HQ := Lib.hid (And.intro hGB (And.intro q1 q2))
      have hcv : ∀ k, k < n → arr0[k]? = (tris l)[k]? := by
        intro k hk
        have := congrArg (fun l : List (List Value) => l[k]?) htk0
        rwa [List.getElem?_take_of_lt hk] at this
      have HCV := Lib.hid hcv
      have HK0 : Hid (fl p (l.take (k0 + 1)) = l.take k0) := by
        show _ = _
        rw [List.length_map] at hk0
        rw [fl_more hk0]
        have hp0 : p l[k0] = true := by simpa using ht
        rw [if_pos hp0, List.append_nil]
        exact fl_all (by rw [List.map_take]; exact hall)
      have hob : (Value.slice (some ⟨G, 0, none⟩) n c).ownBlock = some G := rfl
      rw [hob] at HG
      clear hown hg hsl IF h1 hall ht hR hGB q1 q2 hcv hob
      go_enter Tryz.func25, Tryz.ntmps25
      clear hn
      have HT0 := Lib.hid htk0
      clear htk0
      go_wp2_with fail
      refine HF.out.mono ?_
      rintro e w1 ⟨rfl, hb1⟩
      have HB := Lib.hid hb1
      clear hb1
      have hkm : ((k0 : Int) == -1) = false := beq_eq_false_iff_ne.2 (by omega)
      go_wp2_with fail
      go_loopw [5, 6] (fun s5 s6 wr => ∃ (i j : Nat) (arr : List (List Value)), s5 = .int .i64 i ∧ s6 = .int .i64 j ∧ j ≤ n ∧ i < j ∧ Hid ((fl p (l.take j)).length = i) ∧ Hid (RowsAt wr G 41 3 c arr) ∧ Hid (arr.take i = tris (fl p (l.take j))) ∧
        Hid (∀ k, j ≤ k → k < n → arr[k]? = (tris l)[k]?) ∧ Hid (w.grownBy wr (some G))) (fun _ s6 _ => n - (intOf s6).toNat)
      case atStart =>
        refine ⟨k0, k0 + 1, arr0, rfl, by go_num, by omega, by omega, ?_, HR.out.next HB.out, ?_, fun k h1 h2 => HCV.out k h2, grown_of_below HB.out⟩
        · show _ = _
          rw [HK0.out, List.length_take, HL.out]; omega
        · show _ = _
          rw [HK0.out]
          have := congrArg (fun l : List (List Value) => l.take k0) HT0.out
          rw [List.take_take, Nat.min_eq_left (Nat.le_of_lt hk0n)] at this
          rw [this]
          unfold tris
          rw [List.map_take]
      case round =>
        obtain ⟨i, j, arr, rfl, rfl, hjn, hij, hlen, hrow, htk, hrest, hgr⟩ := hrel
        by_cases hlt : j < n
        · have hjl : j < l.length := by rw [HL.out]; exact hlt
          have hvt : (tris l)[j]? = some [.int .i64 l[j].1, .int .i64 l[j].2.1, .int .i64 l[j].2.2] := by unfold tris; rw [List.getElem?_map, List.getElem?_eq_getElem hjl]; rfl
          have hvj := (hrest.out j (Nat.le_refl _) hlt).trans hvt
          have d0 := hrow.out.cell hvj (j := 0) rfl
          have d1 := hrow.out.cell hvj (j := 1) rfl
          have d2 := hrow.out.cell hvj (j := 2) rfl
          rw [Nat.add_zero] at d0
          have HKM := Lib.hid (fl_more (p := p) hjl)
          have HMEM : Hid (l[j] ∈ l) := List.getElem_mem _
          generalize l[j] = t at *
          obtain ⟨t0, t1, t2⟩ := t
          simp only at d0 d1 d2
          obtain ⟨W5, hW5⟩ : ∃ U, wr.alloc (.cells #[.int .i64 t0, .int .i64 t1, .int .i64 t2] 41) = U := ⟨_, rfl⟩
          have hb5 : Below wr.heap.size wr W5 := by rw [← hW5]; exact (Below.refl _ _).alloc (Nat.le_refl _) _
          have x5 := Circuit.BoxN.new wr #[.int .i64 t0, .int .i64 t1, .int .i64 t2] 41
          rw [hW5] at x5
          have q0 := x5.at' 0 _ rfl
          have q1 := x5.at' 1 _ rfl
          have q2 := x5.at' 2 _ rfl
          have hg5 := grown_below hgr.out hb5
          have CALL := Lib.hid (HG.out W5 hg5 (t0, t1, t2) HMEM.out)
          have hal := hrow.out.len
          have HAL := Lib.hid hal
          have HX5 := Lib.hid x5
          have HR5 := Lib.hid (hrow.out.next hb5)
          have HG5 := Lib.hid hg5
          clear hvt hvj hal x5 hb5 hg5 hjl
          have hjlt : (j : Int) < (n : Int) := by omega
          cases hp : p (t0, t1, t2)
          · rw [hp] at CALL HKM
            clear hp
            go_wp2_with fail
            refine CALL.out.mono ?_
            rintro e w2 ⟨rfl, hb2⟩
            have hr2 := HR5.out.next hb2
            have x2 := HX5.out.next hb2 HX5.out.lt
            have m0 := x2.at' 0 _ rfl
            have m1 := x2.at' 1 _ rfl
            have m2 := x2.at' 2 _ rfl
            have hic : i < c := by omega
            have hi2 : i * 3 + 2 < c * 3 := by omega
            obtain ⟨y0, hy0⟩ := Option.isSome_iff_exists.1 (hr2.isSome (t := i * 3) (by omega))
            obtain ⟨y1, hy1⟩ := Option.isSome_iff_exists.1 (hr2.isSome (t := i * 3 + 1) (by omega))
            obtain ⟨y2, hy2⟩ := Option.isSome_iff_exists.1 (hr2.isSome (t := i * 3 + 2) (by omega))
            have f0 := hr2.frozen (i * 3)
            have f1 := hr2.frozen (i * 3 + 1)
            have f2 := hr2.frozen (i * 3 + 2)
            have HR2 := Lib.hid (hr2.set hic (u := [.int .i64 t0, .int .i64 t1, .int .i64 t2]) rfl)
            have HG2 := Lib.hid (grown_sets [.int .i64 t0, .int .i64 t1, .int .i64 t2] w2 (i * 3) (grown_below HG5.out hb2))
            clear hb2 hr2 x2 d0 d1 d2 q0 q1 q2 hi2 hW5
            go_wp2_with fail
            go_roundw
            case rel =>
              refine ⟨i + 1, j + 1, arr.set i [.int .i64 t0, .int .i64 t1, .int .i64 t2], by go_num, by go_num, by omega, by omega, ?_, HR2.out, ?_, ?_, HG2.out⟩
              · show _ = _
                rw [HKM.out]; simp [hlen.out]
              · show _ = _
                rw [HKM.out]
                simp only [Bool.false_eq_true, if_false]
                rw [List.take_succ_eq_append_getElem (by rw [List.length_set, HAL.out]; exact hic), List.getElem_set_self, List.take_set_of_le (Nat.le_refl _), htk.out]
                unfold tris
                rw [List.map_append]
                rfl
              · intro k h1 h2
                rw [List.getElem?_set_ne (by omega)]
                exact hrest.out k (by omega) h2
            case measure => simp [intOf]; omega
          · rw [hp] at CALL HKM
            clear hp
            go_wp2_with fail
            refine CALL.out.mono ?_
            rintro e w2 ⟨rfl, hb2⟩
            have HR2 := Lib.hid (HR5.out.next hb2)
            have HG2 := Lib.hid (grown_below HG5.out hb2)
            clear hb2 d0 d1 d2 q0 q1 q2 hW5
            go_wp2_with fail
            go_roundw
            case rel =>
              refine ⟨i, j + 1, arr, rfl, by go_num, by omega, by omega, ?_, HR2.out, ?_, fun k h1 h2 => hrest.out k (by omega) h2, HG2.out⟩
              · show _ = _
                rw [HKM.out]; simp [hlen.out]
              · show _ = _
                rw [HKM.out]; simp [htk.out]
            case measure => simp [intOf]; omega
        · obtain rfl : j = n := by omega
          have hal := hrow.out.len
          have hjc := HQ.out.2.1
          have hci : ¬ c = i := by omega
          have hin : i ≤ j := by omega
          have hcl : ∀ ty, (Builtin.clear_ #[23] ty #[.slice (some ⟨G, i * 3, none⟩) (j - i) (c - i)]).run Tryz.prog wr = .ok (.tuple #[]) (wr.setCells G (i * 3) (Builtin.zeroCells (Value.agg #[.int .i64 0, .int .i64 0, .int .i64 0]).cells (j - i)).toList) :=
            fun ty => RowsK.run_clear wr _ _ ty _ Tryz.underlying23 Tryz.zeroValue41 3 rfl (by intro v hv; simp [Value.cells] at hv; subst hv; rfl) (by decide) G (i * 3) _ _ (by omega) (fun t ht => hrow.out.isSome (by omega)) (fun t ht => hrow.out.frozen _)
          obtain ⟨arr', hR', hT'⟩ := hrow.out.wipe (i := i) (by omega) (Builtin.zeroCells (Value.agg #[.int .i64 0, .int .i64 0, .int .i64 0]).cells (j - i)).toList
          have HRR := Lib.hid hR'
          have HTT := Lib.hid (hT'.trans htk.out)
          have HGG := Lib.hid (grown_sets (Builtin.zeroCells (Value.agg #[.int .i64 0, .int .i64 0, .int .i64 0]).cells (j - i)).toList wr (i * 3) hgr.out)
          have HLI := hlen
          clear hR' hT' hrow htk hrest hgr hlen hal
          have hji : ¬ (j : Int) < (j : Int) := by omega
          go_wp2_with fail
          go_ret
          have hfin : l.take j = l := List.take_of_length_le (Nat.le_of_eq HL.out)
          have h1 := HLI.out
          have h2 := HTT.out
          rw [hfin] at h1 h2
          exact ⟨i, rfl, h1.symm, by rw [← h2]; exact HRR.out.own HQ.out.1 (by omega) HQ.out.2.2, HGG.out⟩

end DelL
end Go.Proofs.YtninglnchengeaaGreat

/-
  slices.IndexFunc at one instance (elements of three integers), whatever predicate is handed over: ps says of each element what the predicate gives.
-/
namespace Go.Proofs.YtninglnchengeaaGreat
open Go.RowKit Base
set_option linter.unusedVariables false
namespace SlfA

/-- A function value gives ps of the elements, and turns nothing that is there. -/
def Gives (w : World) (g : FuncId) (fs lb : Array Value) (vs : List Tri) (ps : List Bool) : Prop :=
  ∀ W, Below w.heap.size w W → ∀ (k : Nat) (v : Tri) (b : Bool), vs[k]? = some v → ps[k]? = some b → Calls Tryz.prog g (fs.push (.agg #[.int .i64 v.1, .int .i64 v.2.1, .int .i64 v.2.2]) ++ lb) W fun e w' => e = .returned (.bool b) ∧ Below W.heap.size W w'

def Enters (g : FuncId) : Prop := ∀ args w, (callFunc g args).run Tryz.prog w = .ok (.enter g args) w

theorem idx_hit (ps : List Bool) (k : Nat) (h : ps[k]? = some true) : idx id (ps.drop k) k = k := by
  obtain ⟨hk, e⟩ := List.getElem?_eq_some_iff.1 h
  rw [List.drop_eq_getElem_cons hk]; unfold idx; rw [e]; rfl
theorem idx_miss (ps : List Bool) (k : Nat) (h : ps[k]? = some false) : idx id (ps.drop k) k = idx id (ps.drop (k + 1)) (k + 1) := by
  obtain ⟨hk, e⟩ := List.getElem?_eq_some_iff.1 h
  rw [List.drop_eq_getElem_cons hk]
  show (if id ps[k] = true then _ else _) = _
  rw [e]; rfl

set_option maxHeartbeats 1000000 in
theorem indexFunc (w : World) (a : Option Addr) (n c : Nat) (vs : List Tri) (g : FuncId) (fs lb : Array Value) (ps : List Bool)
    (hs : SlT w 3 a n c (tris vs)) (hps : ps.length = n) (eg : Enters g) (hg : Gives w g fs lb vs ps) :
    Calls Tryz.prog 55 #[.slice a n c, .func (.func g) fs lb] w fun e w' => e = .returned (.int .i64 (idx id ps 0)) ∧ Below w.heap.size w w' := by
  have hcap := hs.cap
  have hbig := hs.big
  have HPS := Lib.hid hps
  have HG := Lib.hid hg
  clear hg hps
  unfold Enters at eg
  go_enter Tryz.func55, Tryz.ntmps55
  go_wp2
  go_loopw [5, 8] (fun _ i wr => ∃ k : Nat, k ≤ n ∧ i = .int .i64 k ∧ Below w.heap.size w wr ∧ Hid (idx id ps 0 = idx id (ps.drop k) k)) (fun _ i _ => n - (intOf i).toNat)
  case atStart => exact ⟨0, Nat.zero_le _, rfl, Below.refl _ _, rfl⟩
  case round =>
    obtain ⟨k, hk, rfl, hb, hI⟩ := hrel
    by_cases hlt : k < n
    · obtain ⟨b, o, hx, rfl, hbs, hc0, hc1, hc2⟩ := hs.tri hlt
      have d0 := (hb.cell (p := ⟨b, o + k * 3, none⟩) hbs).trans hc0
      have d1 := (hb.cell (p := ⟨b, o + k * 3 + 1, none⟩) hbs).trans hc1
      have d2 := (hb.cell (p := ⟨b, o + k * 3 + 2, none⟩) hbs).trans hc2
      have HV := Lib.hid (List.getElem?_eq_getElem hx)
      clear hc0 hc1 hc2
      generalize vs[k] = t at *
      obtain ⟨t0, t1, t2⟩ := t
      simp only at d0 d1 d2
      obtain ⟨q, hq⟩ : ∃ q, ps[k]? = some q := ⟨_, List.getElem?_eq_getElem (by have := HPS.out; omega)⟩
      have HQ := Lib.hid hq
      clear hq
      cases q
      all_goals
        go_wp2_with fail
        refine (HG.out wr hb k (t0, t1, t2) _ HV.out HQ.out).mono ?_
        rintro e w1 ⟨rfl, hb1⟩
        go_wp2_with fail
      · go_roundw
        case rel => exact ⟨k + 1, by omega, by go_num, hb.trans (hb1.mono hb.size), hI.out.trans (idx_miss ps k HQ.out)⟩
        case measure => simp [intOf]; omega
      · go_ret
        exact ⟨ret_int (by rw [hI.out, idx_hit ps k HQ.out]), hb.trans (hb1.mono hb.size)⟩
    · go_wp2
      go_ret
      exact ⟨ret_int (by rw [hI.out, List.drop_of_length_le (by rw [HPS.out]; omega)]; rfl), hb⟩

end SlfA
end Go.Proofs.YtninglnchengeaaGreat

/-
  slices.DeleteFunc of []api.And, on a slice of the call's own.
-/
namespace Go.Proofs.YtninglnchengeaaGreat
open Go.RowKit Base RowsK
set_option linter.unusedVariables false
set_option linter.unusedSimpArgs false
namespace DelA

def fl (p : Tri → Bool) (l : List Tri) : List Tri := l.filter fun x => !p x
theorem fl_more {p : Tri → Bool} {l : List Tri} {j : Nat} (hj : j < l.length) : fl p (l.take (j + 1)) = fl p (l.take j) ++ (if p l[j] = true then [] else [l[j]]) := by
  unfold fl
  rw [List.take_succ_eq_append_getElem hj, List.filter_append]
  cases h : p l[j] <;> simp [h]
theorem fl_all {p : Tri → Bool} {l : List Tri} (hall : ∀ b ∈ l.map p, b = false) : fl p l = l := kp_all hall

set_option maxRecDepth 4000 in
set_option maxHeartbeats 8000000 in
theorem del_own (w : World) (B : Nat) (a : Option Addr) (n c : Nat) (l : List Tri) (hn : l.length = n) (hown : w.ownsRow B 43 3 (.slice a n c) n (tris l).flatten) (hB : B ≤ w.heap.size)
    (g : FuncId) (lb : Array Value) (p : Tri → Bool) (eg : SlfA.Enters g)
    (hg : ∀ W, w.grownBy W (Value.slice a n c).ownBlock → ∀ t ∈ l, Calls Tryz.prog g (#[.agg #[.int .i64 t.1, .int .i64 t.2.1, .int .i64 t.2.2]] ++ lb) W fun e w' => e = .returned (.bool (p t)) ∧ Below W.heap.size W w') :
    Calls Tryz.prog 28 #[.slice a n c, .func (.func g) #[] lb] w fun e w' => ∃ n', e = .returned (.slice a n' c) ∧ n' = (fl p l).length ∧ w'.ownsRow B 43 3 (.slice a n' c) n' (tris (fl p l)).flatten ∧ w.grownBy w' (Value.slice a n c).ownBlock := by
  have hsl := Circuit.own_slT' (tris_row l) (by unfold tris; rw [List.length_map]; exact hn) hown
  have IF := SlfA.indexFunc w a n c l g #[] lb (l.map p) hsl (by rw [List.length_map]; exact hn) eg (by
    intro W hW k v b hv hb
    rw [List.getElem?_map, hv] at hb
    simp only [Option.map_some, Option.some.injEq] at hb
    subst hb
    exact hg W (grown_of_below hW) v (List.mem_of_getElem? hv))
  have hcap := hsl.cap
  have hbig := hsl.big
  have HOW := Lib.hid hown
  have HG := Lib.hid hg
  have HL := Lib.hid hn
  have hmf : ∀ args W, (callFunc g args).run Tryz.prog W = .ok (.enter g args) W := eg
  rcases idx_cases (l.map p) 0 with ⟨h1, hall⟩ | ⟨k0, hk0, h1, ht, hall⟩
  · rw [h1] at IF
    have HF := Lib.hid IF
    have HE : Hid (fl p l = l) := fl_all hall
    clear hown hg hsl hn IF h1 hall
    go_enter Tryz.func28, Tryz.ntmps28
    go_wp2_with fail
    refine HF.out.mono ?_
    rintro e w1 ⟨rfl, hb1⟩
    have HB := Lib.hid hb1
    clear hb1
    go_wp2_with fail
    go_ret
    exact ⟨n, rfl, by rw [HE.out, HL.out], by rw [HE.out]; exact own_next HOW.out HB.out, grown_of_below HB.out⟩
  · rw [h1, Nat.zero_add] at IF
    have HF := Lib.hid IF
    have hk0n : k0 < n := by rw [List.length_map] at hk0; omega
    rcases of_own hown (tris_row l) (by unfold tris; rw [List.length_map]; exact hn) with ⟨_, hv, _⟩ | ⟨G, arr0, rfl, hGB, q1, q2, hR, htk0⟩
    · omega
    · have HR := Lib.hid hR
      have HQ := Lib.hid (And.intro hGB (And.intro q1 q2))
      have hcv : ∀ k, k < n → arr0[k]? = (tris l)[k]? := by
        intro k hk
        have := congrArg (fun l : List (List Value) => l[k]?) htk0
        rwa [List.getElem?_take_of_lt hk] at this
      have HCV := Lib.hid hcv
      have HK0 : Hid (fl p (l.take (k0 + 1)) = l.take k0) := by
        show _ = _
        rw [List.length_map] at hk0
        rw [fl_more hk0]
        have hp0 : p l[k0] = true := by simpa using ht
        rw [if_pos hp0, List.append_nil]
        exact fl_all (by rw [List.map_take]; exact hall)
      have hob : (Value.slice (some ⟨G, 0, none⟩) n c).ownBlock = some G := rfl
      rw [hob] at HG
      clear hown hg hsl IF h1 hall ht hR hGB q1 q2 hcv hob
      go_enter Tryz.func28, Tryz.ntmps28
      clear hn
      have HT0 := Lib.hid htk0
      clear htk0
      go_wp2_with fail
      refine HF.out.mono ?_
      rintro e w1 ⟨rfl, hb1⟩
      have HB := Lib.hid hb1
      clear hb1
      have hkm : ((k0 : Int) == -1) = false := beq_eq_false_iff_ne.2 (by omega)
      go_wp2_with fail
      go_loopw [5, 6] (fun s5 s6 wr => ∃ (i j : Nat) (arr : List (List Value)), s5 = .int .i64 i ∧ s6 = .int .i64 j ∧ j ≤ n ∧ i < j ∧ Hid ((fl p (l.take j)).length = i) ∧ Hid (RowsAt wr G 43 3 c arr) ∧ Hid (arr.take i = tris (fl p (l.take j))) ∧
        Hid (∀ k, j ≤ k → k < n → arr[k]? = (tris l)[k]?) ∧ Hid (w.grownBy wr (some G))) (fun _ s6 _ => n - (intOf s6).toNat)
      case atStart =>
        refine ⟨k0, k0 + 1, arr0, rfl, by go_num, by omega, by omega, ?_, HR.out.next HB.out, ?_, fun k h1 h2 => HCV.out k h2, grown_of_below HB.out⟩
        · show _ = _
          rw [HK0.out, List.length_take, HL.out]; omega
        · show _ = _
          rw [HK0.out]
          have := congrArg (fun l : List (List Value) => l.take k0) HT0.out
          rw [List.take_take, Nat.min_eq_left (Nat.le_of_lt hk0n)] at this
          rw [this]
          unfold tris
          rw [List.map_take]
      case round =>
        obtain ⟨i, j, arr, rfl, rfl, hjn, hij, hlen, hrow, htk, hrest, hgr⟩ := hrel
        by_cases hlt : j < n
        · have hjl : j < l.length := by rw [HL.out]; exact hlt
          have hvt : (tris l)[j]? = some [.int .i64 l[j].1, .int .i64 l[j].2.1, .int .i64 l[j].2.2] := by unfold tris; rw [List.getElem?_map, List.getElem?_eq_getElem hjl]; rfl
          have hvj := (hrest.out j (Nat.le_refl _) hlt).trans hvt
          have d0 := hrow.out.cell hvj (j := 0) rfl
          have d1 := hrow.out.cell hvj (j := 1) rfl
          have d2 := hrow.out.cell hvj (j := 2) rfl
          rw [Nat.add_zero] at d0
          have HKM := Lib.hid (fl_more (p := p) hjl)
          have HMEM : Hid (l[j] ∈ l) := List.getElem_mem _
          generalize l[j] = t at *
          obtain ⟨t0, t1, t2⟩ := t
          simp only at d0 d1 d2
          obtain ⟨W5, hW5⟩ : ∃ U, wr.alloc (.cells #[.int .i64 t0, .int .i64 t1, .int .i64 t2] 43) = U := ⟨_, rfl⟩
          have hb5 : Below wr.heap.size wr W5 := by rw [← hW5]; exact (Below.refl _ _).alloc (Nat.le_refl _) _
          have x5 := Circuit.BoxN.new wr #[.int .i64 t0, .int .i64 t1, .int .i64 t2] 43
          rw [hW5] at x5
          have q0 := x5.at' 0 _ rfl
          have q1 := x5.at' 1 _ rfl
          have q2 := x5.at' 2 _ rfl
          have hg5 := grown_below hgr.out hb5
          have CALL := Lib.hid (HG.out W5 hg5 (t0, t1, t2) HMEM.out)
          have hal := hrow.out.len
          have HAL := Lib.hid hal
          have HX5 := Lib.hid x5
          have HR5 := Lib.hid (hrow.out.next hb5)
          have HG5 := Lib.hid hg5
          clear hvt hvj hal x5 hb5 hg5 hjl
          have hjlt : (j : Int) < (n : Int) := by omega
          cases hp : p (t0, t1, t2)
          · rw [hp] at CALL HKM
            clear hp
            go_wp2_with fail
            refine CALL.out.mono ?_
            rintro e w2 ⟨rfl, hb2⟩
            have hr2 := HR5.out.next hb2
            have x2 := HX5.out.next hb2 HX5.out.lt
            have m0 := x2.at' 0 _ rfl
            have m1 := x2.at' 1 _ rfl
            have m2 := x2.at' 2 _ rfl
            have hic : i < c := by omega
            have hi2 : i * 3 + 2 < c * 3 := by omega
            obtain ⟨y0, hy0⟩ := Option.isSome_iff_exists.1 (hr2.isSome (t := i * 3) (by omega))
            obtain ⟨y1, hy1⟩ := Option.isSome_iff_exists.1 (hr2.isSome (t := i * 3 + 1) (by omega))
            obtain ⟨y2, hy2⟩ := Option.isSome_iff_exists.1 (hr2.isSome (t := i * 3 + 2) (by omega))
            have f0 := hr2.frozen (i * 3)
            have f1 := hr2.frozen (i * 3 + 1)
            have f2 := hr2.frozen (i * 3 + 2)
            have HR2 := Lib.hid (hr2.set hic (u := [.int .i64 t0, .int .i64 t1, .int .i64 t2]) rfl)
            have HG2 := Lib.hid (grown_sets [.int .i64 t0, .int .i64 t1, .int .i64 t2] w2 (i * 3) (grown_below HG5.out hb2))
            clear hb2 hr2 x2 d0 d1 d2 q0 q1 q2 hi2 hW5
            go_wp2_with fail
            go_roundw
            case rel =>
              refine ⟨i + 1, j + 1, arr.set i [.int .i64 t0, .int .i64 t1, .int .i64 t2], by go_num, by go_num, by omega, by omega, ?_, HR2.out, ?_, ?_, HG2.out⟩
              · show _ = _
                rw [HKM.out]; simp [hlen.out]
              · show _ = _
                rw [HKM.out]
                simp only [Bool.false_eq_true, if_false]
                rw [List.take_succ_eq_append_getElem (by rw [List.length_set, HAL.out]; exact hic), List.getElem_set_self, List.take_set_of_le (Nat.le_refl _), htk.out]
                unfold tris
                rw [List.map_append]
                rfl
              · intro k h1 h2
                rw [List.getElem?_set_ne (by omega)]
                exact hrest.out k (by omega) h2
            case measure => simp [intOf]; omega
          · rw [hp] at CALL HKM
            clear hp
            go_wp2_with fail
            refine CALL.out.mono ?_
            rintro e w2 ⟨rfl, hb2⟩
            have HR2 := Lib.hid (HR5.out.next hb2)
            have HG2 := Lib.hid (grown_below HG5.out hb2)
            clear hb2 d0 d1 d2 q0 q1 q2 hW5
            go_wp2_with fail
            go_roundw
            case rel =>
              refine ⟨i, j + 1, arr, rfl, by go_num, by omega, by omega, ?_, HR2.out, ?_, fun k h1 h2 => hrest.out k (by omega) h2, HG2.out⟩
              · show _ = _
                rw [HKM.out]; simp [hlen.out]
              · show _ = _
                rw [HKM.out]; simp [htk.out]
            case measure => simp [intOf]; omega
        · obtain rfl : j = n := by omega
          have hal := hrow.out.len
          have hjc := HQ.out.2.1
          have hci : ¬ c = i := by omega
          have hin : i ≤ j := by omega
          have hcl : ∀ ty, (Builtin.clear_ #[24] ty #[.slice (some ⟨G, i * 3, none⟩) (j - i) (c - i)]).run Tryz.prog wr = .ok (.tuple #[]) (wr.setCells G (i * 3) (Builtin.zeroCells (Value.agg #[.int .i64 0, .int .i64 0, .int .i64 0]).cells (j - i)).toList) :=
            fun ty => RowsK.run_clear wr _ _ ty _ Tryz.underlying24 Tryz.zeroValue43 3 rfl (by intro v hv; simp [Value.cells] at hv; subst hv; rfl) (by decide) G (i * 3) _ _ (by omega) (fun t ht => hrow.out.isSome (by omega)) (fun t ht => hrow.out.frozen _)
          obtain ⟨arr', hR', hT'⟩ := hrow.out.wipe (i := i) (by omega) (Builtin.zeroCells (Value.agg #[.int .i64 0, .int .i64 0, .int .i64 0]).cells (j - i)).toList
          have HRR := Lib.hid hR'
          have HTT := Lib.hid (hT'.trans htk.out)
          have HGG := Lib.hid (grown_sets (Builtin.zeroCells (Value.agg #[.int .i64 0, .int .i64 0, .int .i64 0]).cells (j - i)).toList wr (i * 3) hgr.out)
          have HLI := hlen
          clear hR' hT' hrow htk hrest hgr hlen hal
          have hji : ¬ (j : Int) < (j : Int) := by omega
          go_wp2_with fail
          go_ret
          have hfin : l.take j = l := List.take_of_length_le (Nat.le_of_eq HL.out)
          have h1 := HLI.out
          have h2 := HTT.out
          rw [hfin] at h1 h2
          exact ⟨i, rfl, h1.symm, by rw [← h2]; exact HRR.out.own HQ.out.1 (by omega) HQ.out.2.2, HGG.out⟩

end DelA
end Go.Proofs.YtninglnchengeaaGreat

/-
  coi.Reduce.
-/
namespace Go.Proofs.YtninglnchengeaaGreat
open Go.RowKit Base Go.Maps
set_option linter.unusedVariables false
set_option linter.unusedSimpArgs false
namespace Coi
open Circuit StrashP

theorem eg_r1 : SlfI.Enters 23 := enters_of Tryz.func23 (by kernel_rfl) rfl
theorem eg_r2 : SlfL.Enters 27 := enters_of Tryz.func27 (by kernel_rfl) rfl
theorem eg_r3 : SlfA.Enters 30 := enters_of Tryz.func30 (by kernel_rfl) rfl

theorem red1_any (w : World) (N b n : Nat) (X : List Int) (hc : w.cell? ⟨N, 0, none⟩ = some (.map (some b))) (hs : SetK w b n X) (l : Int) (h0 : -9223372036854775808 ≤ l) (h1 : l ≤ 9223372036854775807) :
    Calls Tryz.prog 23 #[.int .i64 l, .pointer (some ⟨N, 0, none⟩)] w fun e w' => e = .returned (.bool (!SetI.inX X (var l))) ∧ w = w' := by
  have HH := Lib.hid (has_any w hs l h0 h1)
  generalize SetI.inX X (var l) = q at *
  clear hs h0 h1
  cases q
  all_goals
    go_enter Tryz.func23, Tryz.ntmps23
    go_wp2_with fail
    with_reducible refine HH.out.mono ?_
    rintro e w2 ⟨rfl, rfl⟩
    go_wp2_with fail
    go_ret
    exact ⟨rfl, rfl⟩
theorem red2_any (w : World) (N b n : Nat) (X : List Int) (hlt : N < w.heap.size) (hc : w.cell? ⟨N, 0, none⟩ = some (.map (some b))) (hs : SetK w b n X) (t : Tri) (h0 : -9223372036854775808 ≤ t.1) (h1 : t.1 ≤ 9223372036854775807) :
    Calls Tryz.prog 27 #[.agg #[.int .i64 t.1, .int .i64 t.2.1, .int .i64 t.2.2], .pointer (some ⟨N, 0, none⟩)] w fun e w' => e = .returned (.bool (!SetI.inX X (var t.1))) ∧ Below w.heap.size w w' := by
  obtain ⟨t0, t1, t2⟩ := t
  simp only at *
  obtain ⟨W1, hW1⟩ : ∃ U, w.alloc (.cells #[.int .i64 t0, .int .i64 t1, .int .i64 t2] 41) = U := ⟨_, rfl⟩
  have hb1 : Below w.heap.size w W1 := by rw [← hW1]; exact (Below.refl _ _).alloc (Nat.le_refl _) _
  have x1 : BoxN w.heap.size [.int .i64 t0, .int .i64 t1, .int .i64 t2] W1 := by rw [← hW1]; exact BoxN.new w _ _
  have y0 := x1.at' 0 _ rfl
  have hc1 := (hb1.cell (p := ⟨N, 0, none⟩) hlt).trans hc
  have HH := Lib.hid (has_any W1 (hs.next hb1) t0 h0 h1)
  have HB := Lib.hid hb1
  generalize SetI.inX X (var t0) = q at *
  clear hs h0 h1 hb1 x1 hc
  cases q
  all_goals
    go_enter Tryz.func27, Tryz.ntmps27
    go_wp2_with fail
    with_reducible refine HH.out.mono ?_
    rintro e w2 ⟨rfl, rfl⟩
    go_wp2_with fail
    go_ret
    exact ⟨rfl, HB.out⟩
theorem red3_any (w : World) (N b n : Nat) (X : List Int) (hlt : N < w.heap.size) (hc : w.cell? ⟨N, 0, none⟩ = some (.map (some b))) (hs : SetK w b n X) (t : Tri) (h0 : -9223372036854775808 ≤ t.1) (h1 : t.1 ≤ 9223372036854775807) :
    Calls Tryz.prog 30 #[.agg #[.int .i64 t.1, .int .i64 t.2.1, .int .i64 t.2.2], .pointer (some ⟨N, 0, none⟩)] w fun e w' => e = .returned (.bool (!SetI.inX X (var t.1))) ∧ Below w.heap.size w w' := by
  obtain ⟨t0, t1, t2⟩ := t
  simp only at *
  obtain ⟨W1, hW1⟩ : ∃ U, w.alloc (.cells #[.int .i64 t0, .int .i64 t1, .int .i64 t2] 43) = U := ⟨_, rfl⟩
  have hb1 : Below w.heap.size w W1 := by rw [← hW1]; exact (Below.refl _ _).alloc (Nat.le_refl _) _
  have x1 : BoxN w.heap.size [.int .i64 t0, .int .i64 t1, .int .i64 t2] W1 := by rw [← hW1]; exact BoxN.new w _ _
  have y0 := x1.at' 0 _ rfl
  have hc1 := (hb1.cell (p := ⟨N, 0, none⟩) hlt).trans hc
  have HH := Lib.hid (has_any W1 (hs.next hb1) t0 h0 h1)
  have HB := Lib.hid hb1
  generalize SetI.inX X (var t0) = q at *
  clear hs h0 h1 hb1 x1 hc
  cases q
  all_goals
    go_enter Tryz.func30, Tryz.ntmps30
    go_wp2_with fail
    with_reducible refine HH.out.mono ?_
    rintro e w2 ⟨rfl, rfl⟩
    go_wp2_with fail
    go_ret
    exact ⟨rfl, HB.out⟩

theorem box_set8 {N : Nat} {w : World} {c0 c1 c2 c3 c4 c5 c6 c7 : Value} (h : BoxN N [c0, c1, c2, c3, c4, c5, c6, c7] w) (v0 v1 v2 v3 v4 v5 v6 v7 : Value) : BoxN N [v0, v1, v2, v3, v4, v5, v6, v7] ((((((((w.setCell ⟨N, 0, none⟩ v0).setCell ⟨N, 1, none⟩ v1).setCell ⟨N, 2, none⟩ v2).setCell ⟨N, 3, none⟩ v3).setCell ⟨N, 4, none⟩ v4).setCell ⟨N, 5, none⟩ v5).setCell ⟨N, 6, none⟩ v6).setCell ⟨N, 7, none⟩ v7) := ((((((((h.set 0 v0).set 1 v1).set 2 v2).set 3 v3).set 4 v4).set 5 v5).set 6 v6).set 7 v7)
theorem own_set8 {w : World} {B : Nat} {e : TypeId} {size : Nat} {v : Value} {n : Nat} {us : List Value} (h : w.ownsRow B e size v n us) {N : Nat} (hne : v.ownBlock ≠ some N) (v0 v1 v2 v3 v4 v5 v6 v7 : Value) : ((((((((w.setCell ⟨N, 0, none⟩ v0).setCell ⟨N, 1, none⟩ v1).setCell ⟨N, 2, none⟩ v2).setCell ⟨N, 3, none⟩ v3).setCell ⟨N, 4, none⟩ v4).setCell ⟨N, 5, none⟩ v5).setCell ⟨N, 6, none⟩ v6).setCell ⟨N, 7, none⟩ v7).ownsRow B e size v n us := (ownsRow_setCell_other (ownsRow_setCell_other (ownsRow_setCell_other (ownsRow_setCell_other (ownsRow_setCell_other (ownsRow_setCell_other (ownsRow_setCell_other (ownsRow_setCell_other h (a := ⟨N, 0, none⟩) (fun e => hne (by first | exact e | exact e.symm)) v0) (a := ⟨N, 1, none⟩) (fun e => hne (by first | exact e | exact e.symm)) v1) (a := ⟨N, 2, none⟩) (fun e => hne (by first | exact e | exact e.symm)) v2) (a := ⟨N, 3, none⟩) (fun e => hne (by first | exact e | exact e.symm)) v3) (a := ⟨N, 4, none⟩) (fun e => hne (by first | exact e | exact e.symm)) v4) (a := ⟨N, 5, none⟩) (fun e => hne (by first | exact e | exact e.symm)) v5) (a := ⟨N, 6, none⟩) (fun e => hne (by first | exact e | exact e.symm)) v6) (a := ⟨N, 7, none⟩) (fun e => hne (by first | exact e | exact e.symm)) v7)
theorem below_set8 {w w0 : World} {B N : Nat} (h : Below B w0 w) (hN : B ≤ N) (v0 v1 v2 v3 v4 v5 v6 v7 : Value) : Below B w0 ((((((((w.setCell ⟨N, 0, none⟩ v0).setCell ⟨N, 1, none⟩ v1).setCell ⟨N, 2, none⟩ v2).setCell ⟨N, 3, none⟩ v3).setCell ⟨N, 4, none⟩ v4).setCell ⟨N, 5, none⟩ v5).setCell ⟨N, 6, none⟩ v6).setCell ⟨N, 7, none⟩ v7) := ((((((((h.setCell (p := ⟨N, 0, none⟩) hN v0).setCell (p := ⟨N, 1, none⟩) hN v1).setCell (p := ⟨N, 2, none⟩) hN v2).setCell (p := ⟨N, 3, none⟩) hN v3).setCell (p := ⟨N, 4, none⟩) hN v4).setCell (p := ⟨N, 5, none⟩) hN v5).setCell (p := ⟨N, 6, none⟩) hN v6).setCell (p := ⟨N, 7, none⟩) hN v7)

theorem slT_none (w : World) (k : Nat) : SlT w k none 0 0 [] := ⟨rfl, Nat.le_refl _, by omega, fun _ => ⟨rfl, rfl⟩, fun i r h => by simp at h⟩
theorem fl_cnt {α : Type} {x : Circ} {l X : List Int} (h : ∀ v, v ∈ X ↔ v ≠ 0 ∧ NR x l v) (f : α → Int) (L : List α) : (L.filter fun a => !(!SetI.inX X (var (f a)))) = L.filter fun a => cnt x l (f a) := by
  congr 1
  funext a
  rw [Bool.not_not, Bool.eq_iff_iff, SetI.inX_iff, cnt_iff, h]

set_option maxRecDepth 8000 in
set_option maxHeartbeats 4000000 in
theorem reduce_no (w : World) (x : Circ) (p : At) (hin : InCirc w x p) (hw : WfC x) (aA : Option Addr) (n cA : Nat) (vals : List Value) (A : List (List Int)) (hA : Sl2 w aA n cA vals A) (hA64 : ∀ y ∈ A.flatten, Circuit.I64 y) (bad : Int) (hb0 : -9223372036854775808 ≤ bad) (hb1' : bad ≤ 9223372036854775807) (hno : askE x A bad ≠ 0) :
    Calls Tryz.prog 7 #[.agg (cells x p), .slice aA n cA, .int .i64 bad] w fun e w' => e = .returned (.tuple #[.agg #[.int .i64 0, .slice none 0 0, .slice none 0 0, .slice none 0 0, .slice none 0 0, .slice none 0 0, .slice none 0 0, .slice none 0 0], .int .i64 (askE x A bad)]) ∧ Below w.heap.size w w' := by
  obtain ⟨W1, hW1⟩ : ∃ W1, w.alloc (.cells (cells x p) 27) = W1 := ⟨_, rfl⟩
  obtain ⟨hb1, hc1⟩ := cbox_new w x p W1 hW1
  obtain ⟨W2, hW2⟩ : ∃ W2, W1.alloc (.cells #[.int .i64 0, .slice none 0 0, .slice none 0 0, .slice none 0 0, .slice none 0 0, .slice none 0 0, .slice none 0 0, .slice none 0 0] 27) = W2 := ⟨_, rfl⟩
  have hb2 : Below W1.heap.size W1 W2 := by rw [← hW2]; exact (Below.refl _ _).alloc (Nat.le_refl _) _
  have hx2 : BoxN W1.heap.size [.int .i64 0, .slice none 0 0, .slice none 0 0, .slice none 0 0, .slice none 0 0, .slice none 0 0, .slice none 0 0, .slice none 0 0] W2 := by rw [← hW2]; exact BoxN.new W1 _ _
  have hb12 : Below w.heap.size w W2 := hb1.trans (hb2.mono hb1.size)
  have hlt1 : w.heap.size < W1.heap.size := hc1.lt
  have HB12 := Lib.hid hb12
  have HX2 := Lib.hid hx2
  have HAS := Lib.hid (asked_any W2 x p (hin.next hb12) hw aA n cA vals A (hA.next hb12) hA64 bad hb0 hb1')
  have hcw := hc1.next hb2 (Nat.le_refl _)
  have k0 := hcw.k0
  have k1 := hcw.k1
  have k2 := hcw.k2
  have k3 := hcw.k3
  have k4 := hcw.k4
  have k5 := hcw.k5
  have k6 := hcw.k6
  have k7 := hcw.k7
  obtain ⟨a1, c1, a2, c2, a3, c3, a4, c4, a5, c5, a6, c6, a7, c7⟩ := p
  simp only [cells] at *
  generalize askE x A bad = er at *
  have HNE : Hid ((er != 0) = true) := by show _ = _; simpa using hno
  have hne := HNE.out
  clear hin hw hA hA64 hb1 hb2 hb12 hx2 hc1 hcw hno hb0 hb1'
  go_enter Tryz.func7, Tryz.ntmps7
  go_wp2_with fail
  clear hW1 hW2
  with_reducible refine HAS.out.mono ?_
  rintro e w3 ⟨rfl, hb3⟩
  have HB3 := Lib.hid hb3
  have hx3 := HX2.out.next hb3 HX2.out.lt
  have z := hx3.fz
  have y0 := hx3.at' 0 _ rfl
  have y1 := hx3.at' 1 _ rfl
  have y2 := hx3.at' 2 _ rfl
  have y3 := hx3.at' 3 _ rfl
  have y4 := hx3.at' 4 _ rfl
  have y5 := hx3.at' 5 _ rfl
  have y6 := hx3.at' 6 _ rfl
  have y7 := hx3.at' 7 _ rfl
  clear hb3 k0 k1 k2 k3 k4 k5 k6 k7 hx3
  go_wp2_with fail
  refine bodyPost_ret (v := .tuple #[.agg #[.int .i64 0, .slice none 0 0, .slice none 0 0, .slice none 0 0, .slice none 0 0, .slice none 0 0, .slice none 0 0, .slice none 0 0], .int .i64 er]) (by simp [results, Tryz.results7, go_sem, y0, y1, y2, y3, y4, y5, y6, y7]) rfl ?_
  refine ⟨rfl, ?_⟩
  have ob : OffB W1.heap.size w3 _ := ((((((((OffB.refl W1.heap.size w3).set 0 (.int .i64 0)).set 1 (.slice none 0 0)).set 2 (.slice none 0 0)).set 3 (.slice none 0 0)).set 4 (.slice none 0 0)).set 5 (.slice none 0 0)).set 6 (.slice none 0 0)).set 7 (.slice none 0 0)
  exact ob.base (HB12.out.trans (HB3.out.mono HB12.out.size)) (Nat.le_trans HB12.out.size HB3.out.size) (Nat.le_of_lt hlt1)

set_option maxRecDepth 8000 in
set_option maxHeartbeats 8000000 in
theorem reduce_ok (w : World) (x : Circ) (p : At) (hin : InCirc w x p) (hw : WfC x) (aA : Option Addr) (n cA : Nat) (vals : List Value) (A : List (List Int)) (hA : Sl2 w aA n cA vals A) (hA64 : ∀ y ∈ A.flatten, Circuit.I64 y) (k : Nat) (hk : k < x.bads.length) (hok : askE x A k = 0)
    (hz1 : n ≤ 4000000) (hz2 : A.flatten.length ≤ 4000000) (hz3 : x.ands.length ≤ 4000000) :
    Calls Tryz.prog 7 #[.agg (cells x p), .slice aA n cA, .int .i64 k] w fun e w' => ∃ p', e = .returned (.tuple #[.agg (cells (reduced x (A.flatten ++ x.invs ++ [x.bads[k]]) x.bads[k]) p'), .int .i64 0]) ∧ InCirc w' (reduced x (A.flatten ++ x.invs ++ [x.bads[k]]) x.bads[k]) p' ∧ Below w.heap.size w w' := by
  obtain ⟨W1, hW1⟩ : ∃ W1, w.alloc (.cells (cells x p) 27) = W1 := ⟨_, rfl⟩
  obtain ⟨hb1, hc1⟩ := cbox_new w x p W1 hW1
  obtain ⟨W2, hW2⟩ : ∃ W2, W1.alloc (.cells #[.int .i64 0, .slice none 0 0, .slice none 0 0, .slice none 0 0, .slice none 0 0, .slice none 0 0, .slice none 0 0, .slice none 0 0] 27) = W2 := ⟨_, rfl⟩
  have hb2 : Below W1.heap.size W1 W2 := by rw [← hW2]; exact (Below.refl _ _).alloc (Nat.le_refl _) _
  have hx2 : BoxN W1.heap.size [.int .i64 0, .slice none 0 0, .slice none 0 0, .slice none 0 0, .slice none 0 0, .slice none 0 0, .slice none 0 0, .slice none 0 0] W2 := by rw [← hW2]; exact BoxN.new W1 _ _
  have hb12 : Below w.heap.size w W2 := hb1.trans (hb2.mono hb1.size)
  have hlt1 : w.heap.size < W1.heap.size := hc1.lt
  have HB12 := Lib.hid hb12
  have HX2 := Lib.hid hx2
  have hck := (askE_zero hok).1
  have has := asked_any W2 x p (hin.next hb12) hw aA n cA vals A (hA.next hb12) hA64 k (by omega) (by have := hck.1.2.2.2.2.2.1; omega)
  rw [hok] at has
  have HAS := Lib.hid has
  have hsz : x.invs.length ≤ 64 ∧ x.lats.length ≤ 64 ∧ x.ins.length ≤ 64 ∧ x.bads.length ≤ 64 := ⟨hck.1.2.2.2.2.2.2, hck.1.2.2.2.1, hck.1.2.2.1, hck.1.2.2.2.2.2.1⟩
  have HSZ := Lib.hid hsz
  have HZ3 := Lib.hid hz3
  have HCN := Lib.hid (fun (U : World) (hU : Below w.heap.size w U) => counted_any U x p (hin.next hU) hw aA n cA vals A (hA.next hU) hA64 k hk hz1 hz2 hz3 (by omega) (by omega))
  have HIN := Lib.hid (fun (U : World) (hU : Below w.heap.size w U) => hin.next hU)
  have HC2 := Lib.hid (hc1.next hb2 (Nat.le_refl _))
  have HW := Lib.hid hw
  have HKL := Lib.hid hk
  generalize hbl : x.bads[k] = bl at *
  have HBL : Hid (∃ h : k < x.bads.length, x.bads[k] = bl) := ⟨hk, hbl⟩
  obtain ⟨l, hl⟩ : ∃ l, A.flatten ++ x.invs ++ [bl] = l := ⟨_, rfl⟩
  simp only [hl] at HCN ⊢
  obtain ⟨a1, c1, a2, c2, a3, c3, a4, c4, a5, c5, a6, c6, a7, c7⟩ := p
  simp only [cells] at *
  have HLT1 := Lib.hid hlt1
  have hcw := HC2.out
  have k0 := hcw.k0
  have k1 := hcw.k1
  have k2 := hcw.k2
  have k3 := hcw.k3
  have k4 := hcw.k4
  have k5 := hcw.k5
  have k6 := hcw.k6
  have k7 := hcw.k7
  clear hin hw hA hA64 hb1 hb2 hb12 hx2 hc1 hcw hok hck has hsz hz1 hz2 hz3 hbl hl
  go_enter Tryz.func7, Tryz.ntmps7
  go_wp2_with fail
  clear hW1 hW2
  with_reducible refine HAS.out.mono ?_
  rintro e w3 ⟨rfl, hb3⟩
  have hb23 := HB12.out.trans (hb3.mono HB12.out.size)
  have HB3 := Lib.hid hb3
  have HCN3 := Lib.hid (HCN.out w3 hb23)
  have hcw := HC2.out.next hb3 (Nat.le_refl _)
  clear k0 k1 k2 k3 k4 k5 k6 k7
  have k0 := hcw.k0
  have k1 := hcw.k1
  have k2 := hcw.k2
  have k3 := hcw.k3
  have k4 := hcw.k4
  have k5 := hcw.k5
  have k6 := hcw.k6
  have k7 := hcw.k7
  clear hb3 hb23 hcw
  go_wp2_with fail
  with_reducible refine HCN3.out.mono ?_
  rintro e w4 ⟨mb, X, rfl, hmb, hset, hnd, hX, hb4⟩
  obtain ⟨W5, hW5⟩ : ∃ U, w4.alloc (.cells #[.map (some mb)] 54) = U := ⟨_, rfl⟩
  have hb5 : Below w4.heap.size w4 W5 := by rw [← hW5]; exact (Below.refl _ _).alloc (Nat.le_refl _) _
  have hx5 : BoxN w4.heap.size [.map (some mb)] W5 := by rw [← hW5]; exact BoxN.new w4 _ _
  have hb35 : Below w3.heap.size w3 W5 := hb4.trans (hb5.mono hb4.size)
  have hb25 : Below W2.heap.size W2 W5 := HB3.out.trans (hb35.mono HB3.out.size)
  have HB5 := Lib.hid hb25
  have HX5 := Lib.hid hx5
  have HSET := Lib.hid (hset.next hb5)
  have HX := Lib.hid hX
  have HMB : Hid (mb < w4.heap.size) := by obtain ⟨D, ho, _⟩ := hset; exact ho.lt
  clear hmb hset hnd hX hb4 hb5 hx5 hb35 hb25 k0 k1 k2 k3 k4 k5 k6 k7
  go_upto_region 5 with fail
  have hbs := (HIN.out W2 HB12.out).bads
  obtain ⟨gb, ob, hxb, hab, hgb, hcb⟩ := (HIN.out w (Below.refl _ _)).bads.int HKL.out
  have hcapb := hbs.cap
  have hbigb := hbs.big
  obtain ⟨hkk, hkb⟩ := HBL.out
  simp only at hab
  rw [hkb] at hcb
  subst hab
  have HBE := Lib.hid (fun (U : World) (hU : Below w.heap.size w U) => (hU.cell (p := ⟨gb, ob + k, none⟩) hgb).trans hcb)
  have HCL := Lib.hid (fun (U : World) (hU : Below W5.heap.size W5 U) => CloneI.clone U a5 x.invs.length c5 (ints x.invs) (HIN.out U (HB12.out.trans ((HB5.out.trans (hU.mono HB5.out.size)).mono HB12.out.size))).invs (Base.ints_one _) (by have := HSZ.out; omega))
  clear hbs hxb hgb hcb hkk hkb
  go_cut [10] from 23 to 35 (fun u10 wx => ∃ (N10 gB : Nat) (aC : Option Addr) (cC : Nat), u10 = .pointer (some ⟨N10, 0, none⟩) ∧ Hid (W5.heap.size ≤ N10) ∧ Hid (BoxN N10 [.int .i64 x.max, .slice none 0 0, .slice none 0 0, .slice none 0 0, .slice (some ⟨gB, 0, none⟩) 1 1, .slice aC x.invs.length cC, .slice none 0 0, .slice none 0 0] wx) ∧ Hid (wx.ownsRow W5.heap.size 3 1 (.slice (some ⟨gB, 0, none⟩) 1 1) 1 (ints [bl])) ∧ Hid ((Value.slice (some ⟨gB, 0, none⟩) 1 1).ownBlock ≠ some N10) ∧ Hid (wx.ownsRow W5.heap.size 3 1 (.slice aC x.invs.length cC) x.invs.length (ints x.invs)) ∧ Hid ((Value.slice aC x.invs.length cC).ownBlock ≠ some N10) ∧ Hid (Below W5.heap.size W5 wx))
  case first =>
    skip
    have hSK : ∀ V : World, Below W5.heap.size W5 V → V.cell? ⟨w.heap.size, 0, none⟩ = some (.int .i64 x.max) ∧ V.cell? ⟨w.heap.size, 1, none⟩ = some (.slice a1 x.ins.length c1) ∧ V.cell? ⟨w.heap.size, 2, none⟩ = some (.slice a2 x.lats.length c2) ∧ V.cell? ⟨w.heap.size, 3, none⟩ = some (.slice a3 x.outs.length c3) ∧ V.cell? ⟨w.heap.size, 4, none⟩ = some (.slice (some ⟨gb, ob, none⟩) x.bads.length c4) ∧ V.cell? ⟨w.heap.size, 5, none⟩ = some (.slice a5 x.invs.length c5) ∧ V.cell? ⟨w.heap.size, 6, none⟩ = some (.slice a6 x.ands.length c6) ∧ V.cell? ⟨w.heap.size, 7, none⟩ = some (.slice a7 x.names.length c7) ∧ V.cell? ⟨gb, ob + k, none⟩ = some (.int .i64 bl) := fun V hV => by
      have c := c8of (HC2.out.next (HB5.out.trans (hV.mono HB5.out.size)) (Nat.le_refl _))
      exact ⟨c.1, c.2.1, c.2.2.1, c.2.2.2.1, c.2.2.2.2.1, c.2.2.2.2.2.1, c.2.2.2.2.2.2.1, c.2.2.2.2.2.2.2, HBE.out V (HB12.out.trans ((HB5.out.trans (hV.mono HB5.out.size)).mono HB12.out.size))⟩
    have b00 : Below W5.heap.size W5 W5.drew := (Below.refl _ _).drew
    have hkl : (k : Int) < (x.bads.length : Int) := by have := HKL.out; omega
    refine HeldAll.region (fun U : World => U.cell? ⟨w.heap.size, 0, none⟩ = some (.int .i64 x.max) ∧ U.cell? ⟨w.heap.size, 1, none⟩ = some (.slice a1 x.ins.length c1) ∧ U.cell? ⟨w.heap.size, 2, none⟩ = some (.slice a2 x.lats.length c2) ∧ U.cell? ⟨w.heap.size, 3, none⟩ = some (.slice a3 x.outs.length c3) ∧ U.cell? ⟨w.heap.size, 4, none⟩ = some (.slice (some ⟨gb, ob, none⟩) x.bads.length c4) ∧ U.cell? ⟨w.heap.size, 5, none⟩ = some (.slice a5 x.invs.length c5) ∧ U.cell? ⟨w.heap.size, 6, none⟩ = some (.slice a6 x.ands.length c6) ∧ U.cell? ⟨w.heap.size, 7, none⟩ = some (.slice a7 x.names.length c7) ∧ U.cell? ⟨gb, ob + k, none⟩ = some (.int .i64 bl)) (by kernel_rfl) ?_
    obtain ⟨u0, hu0⟩ : ∃ U, W5.drew = U := ⟨_, rfl⟩
    rw [hu0]
    have b0 : Below W5.heap.size W5 u0 := by rw [← hu0]; exact b00
    have hS0 := hSK _ b0
    (refine HeldAll.take (i := 0) (oi := _) (d := some 23) (v := ?_) rfl rfl (by kernel_rfl) (by kernel_rfl) (by kernel_rfl) (fun _ _ _ h => h) (Or.inl ⟨by rfl, ?_⟩) hS0 ?_; rotate_left; (focus (intro w hSw; clear hSw; go_simp; (try with_reducible rfl); done)); (try simp only [Act.put, List.setIfInBounds_toArray, List.set_cons_zero, List.set_cons_succ]))
    (refine HeldAll.take (i := 1) (oi := _) (d := some 24) (v := ?_) rfl rfl (by kernel_rfl) (by kernel_rfl) (by kernel_rfl) (fun _ _ _ h => h) (Or.inl ⟨by rfl, ?_⟩) hS0 ?_; rotate_left; (focus (intro w hSw; (try dsimp only at hSw); go_simp; (try with_reducible rfl); done)); (try simp only [Act.put, List.setIfInBounds_toArray, List.set_cons_zero, List.set_cons_succ]))
    (refine HeldAll.take (i := 2) (oi := _) (d := some 25) (v := ?_) rfl rfl (by kernel_rfl) (by kernel_rfl) (by kernel_rfl) (fun _ _ _ h => h) (Or.inl ⟨by rfl, ?_⟩) hS0 ?_; rotate_left; (focus (intro w hSw; clear hSw; go_simp; (try with_reducible rfl); done)); (try simp only [Act.put, List.setIfInBounds_toArray, List.set_cons_zero, List.set_cons_succ]))
    (refine HeldAll.take (i := 3) (oi := _) (d := some 26) (v := ?_) rfl rfl (by kernel_rfl) (by kernel_rfl) (by kernel_rfl) (fun _ _ _ h => h) (Or.inl ⟨by rfl, ?_⟩) hS0 ?_; rotate_left; (focus (intro w hSw; (try dsimp only at hSw); go_simp; (try with_reducible rfl); done)); (try simp only [Act.put, List.setIfInBounds_toArray, List.set_cons_zero, List.set_cons_succ]))
    (refine HeldAll.take (i := 4) (oi := _) (d := some 27) (v := ?_) rfl rfl (by kernel_rfl) (by kernel_rfl) (by kernel_rfl) (fun _ _ _ h => h) (Or.inl ⟨by rfl, ?_⟩) hS0 ?_; rotate_left; (focus (intro w hSw; clear hSw; go_simp; (try with_reducible rfl); done)); (try simp only [Act.put, List.setIfInBounds_toArray, List.set_cons_zero, List.set_cons_succ]))
    (refine HeldAll.take (i := 5) (oi := _) (d := some 28) (v := ?_) rfl rfl (by kernel_rfl) (by kernel_rfl) (by kernel_rfl) (fun _ _ _ h => h) (Or.inl ⟨by rfl, ?_⟩) hS0 ?_; rotate_left; (focus (intro w hSw; clear hSw; go_simp; (try with_reducible rfl); done)); (try simp only [Act.put, List.setIfInBounds_toArray, List.set_cons_zero, List.set_cons_succ]))
    (refine HeldAll.take (i := 6) (oi := _) (d := some 29) (v := ?_) rfl rfl (by kernel_rfl) (by kernel_rfl) (by kernel_rfl) (fun _ _ _ h => h) (Or.inl ⟨by rfl, ?_⟩) hS0 ?_; rotate_left; (focus (intro w hSw; (try dsimp only at hSw); go_simp; (try with_reducible rfl); done)); (try simp only [Act.put, List.setIfInBounds_toArray, List.set_cons_zero, List.set_cons_succ]))
    (refine HeldAll.take (i := 8) (oi := _) (d := some 31) (v := ?_) rfl rfl (by kernel_rfl) (by kernel_rfl) (by kernel_rfl) (fun _ _ _ h => h) (Or.inl ⟨by rfl, ?_⟩) hS0 ?_; rotate_left; (focus (intro w hSw; clear hSw; go_simp; (try with_reducible rfl); done)); (try simp only [Act.put, List.setIfInBounds_toArray, List.set_cons_zero, List.set_cons_succ]))
    (refine HeldAll.take (i := 9) (oi := _) (d := some 32) (v := ?_) rfl rfl (by kernel_rfl) (by kernel_rfl) (by kernel_rfl) (fun _ _ _ h => h) (Or.inl ⟨by rfl, ?_⟩) hS0 ?_; rotate_left; (focus (intro w hSw; (try dsimp only at hSw); go_simp; (try with_reducible rfl); done)); (try simp only [Act.put, List.setIfInBounds_toArray, List.set_cons_zero, List.set_cons_succ]))
    refine HeldAll.three (i := 7) (j := 10) (k := 12) (by kernel_rfl) ?_ ?_ ?_
    · skip
      obtain ⟨u1, hu1⟩ : ∃ V, u0.alloc (.cells #[.int .i64 bl] 3) = V := ⟨_, rfl⟩
      have su1 : Below u0.heap.size u0 u1 := by rw [← hu1]; exact (Below.refl _ _).alloc (Nat.le_refl _) _
      have bu1 : Below W5.heap.size W5 u1 := b0.trans (su1.mono b0.size)
      have oB : u1.ownsRow u0.heap.size 3 1 (.slice (some ⟨u0.heap.size, 0, none⟩) 1 1) 1 (ints [bl]) := by rw [← hu1]; exact World.ownsRow_lit u0 #[.int .i64 bl] 1 (Nat.le_refl _) (by unfold maxLen; omega) rfl
      refine HeldAll.opVal (i := 7) (oi := _) (d := some 30) (v := .slice (some ⟨u0.heap.size, 0, none⟩) 1 1) (w2 := u1) rfl rfl (by rfl) (by rw [← hu1]; go_simp; done) (hSK _ bu1) ?_
      (try simp only [Act.put, List.setIfInBounds_toArray, List.set_cons_zero, List.set_cons_succ])
      refine HeldAll.two (i := 10) (j := 12) (by kernel_rfl) ?_ ?_
      · skip
        have oB0 := oB
        refine HeldAll.opCall (i := 10) (oi := _) (d := some 33) (R := fun v w' => ∃ a' c', v = .slice a' x.invs.length c' ∧ w'.ownsRow u1.heap.size 3 1 (.slice a' x.invs.length c') x.invs.length (ints x.invs) ∧ Below u1.heap.size u1 w') rfl rfl (by rfl) (by go_simp; done) ((HCL.out u1 bu1).mono fun e w' h => by obtain ⟨a', c', he, ho, hb⟩ := h; exact ⟨_, he, a', c', rfl, ho, hb⟩) ?_
        rintro v u2 ⟨aC, cC, rfl, oC, su2⟩
        have bu2 : Below W5.heap.size W5 u2 := bu1.trans (su2.mono bu1.size)
        have oB := own_next oB su2
        refine ⟨hSK _ bu2, ?_⟩
        (try simp only [Act.put, List.setIfInBounds_toArray, List.set_cons_zero, List.set_cons_succ])
        refine HeldAll.two (i := 11) (j := 12) (by kernel_rfl) ?_ ?_
        · skip
          refine HeldAll.opVal (i := 11) (oi := _) (d := some 34) (v := .agg #[.int .i64 x.max, .slice none 0 0, .slice none 0 0, .slice none 0 0, .slice (some ⟨u0.heap.size, 0, none⟩) 1 1, .slice aC x.invs.length cC, .slice none 0 0, .slice none 0 0]) (w2 := u2) rfl rfl (by rfl) (by go_simp; done) (hSK _ bu2) ?_
          (try simp only [Act.put, List.setIfInBounds_toArray, List.set_cons_zero, List.set_cons_succ])
          refine HeldAll.one (i := 12) (by kernel_rfl) ?_
          skip
          have oB0 := oB
          have oC0 := oC
          obtain ⟨u3, hu3⟩ : ∃ V, u2.alloc (.cells #[.int .i64 0, .slice none 0 0, .slice none 0 0, .slice none 0 0, .slice none 0 0, .slice none 0 0, .slice none 0 0, .slice none 0 0] 27) = V := ⟨_, rfl⟩
          have su3 : Below u2.heap.size u2 u3 := by rw [← hu3]; exact (Below.refl _ _).alloc (Nat.le_refl _) _
          have bu3 : Below W5.heap.size W5 u3 := bu2.trans (su3.mono bu2.size)
          have oB := own_next oB su3
          have oC := own_next oC su3
          have bx : BoxN u2.heap.size [.int .i64 0, .slice none 0 0, .slice none 0 0, .slice none 0 0, .slice none 0 0, .slice none 0 0, .slice none 0 0, .slice none 0 0] u3 := by rw [← hu3]; exact BoxN.new u2 _ _
          have geA : W5.heap.size ≤ u2.heap.size := bu2.size
          have nB := own_not oB0 (Nat.le_refl u2.heap.size)
          have nC := own_not oC0 (Nat.le_refl u2.heap.size)
          have ltAu3 : u2.heap.size < u3.heap.size := bx.lt
          refine HeldAll.opVal (i := 12) (oi := _) (d := some 10) (v := .pointer (some ⟨u2.heap.size, 0, none⟩)) (w2 := u3) rfl rfl (by rfl) (by rw [← hu3]; go_simp; done) (hSK _ bu3) ?_
          (try simp only [Act.put, List.setIfInBounds_toArray, List.set_cons_zero, List.set_cons_succ])
          have y0 := bx.at' 0 _ rfl
          have z0 := bx.fz 0
          have y1 := bx.at' 1 _ rfl
          have z1 := bx.fz 1
          have y2 := bx.at' 2 _ rfl
          have z2 := bx.fz 2
          have y3 := bx.at' 3 _ rfl
          have z3 := bx.fz 3
          have y4 := bx.at' 4 _ rfl
          have z4 := bx.fz 4
          have y5 := bx.at' 5 _ rfl
          have z5 := bx.fz 5
          have y6 := bx.at' 6 _ rfl
          have z6 := bx.fz 6
          have y7 := bx.at' 7 _ rfl
          have z7 := bx.fz 7
          refine HeldAll.one (i := 13) (by kernel_rfl) ?_
          refine HeldAll.opStore (i := 13) (oi := _) (d := none) (w2 := ((((((((u3.setCell ⟨u2.heap.size, 0, none⟩ (.int .i64 x.max)).setCell ⟨u2.heap.size, 1, none⟩ (.slice none 0 0)).setCell ⟨u2.heap.size, 2, none⟩ (.slice none 0 0)).setCell ⟨u2.heap.size, 3, none⟩ (.slice none 0 0)).setCell ⟨u2.heap.size, 4, none⟩ (.slice (some ⟨u0.heap.size, 0, none⟩) 1 1)).setCell ⟨u2.heap.size, 5, none⟩ (.slice aC x.invs.length cC)).setCell ⟨u2.heap.size, 6, none⟩ (.slice none 0 0)).setCell ⟨u2.heap.size, 7, none⟩ (.slice none 0 0))) rfl rfl (by rfl) (by go_simp; done) (hSK _ (below_set8 bu3 geA (.int .i64 x.max) (.slice none 0 0) (.slice none 0 0) (.slice none 0 0) (.slice (some ⟨u0.heap.size, 0, none⟩) 1 1) (.slice aC x.invs.length cC) (.slice none 0 0) (.slice none 0 0))) ?_
          (try simp only [Act.put, List.setIfInBounds_toArray, List.set_cons_zero, List.set_cons_succ])
          refine HeldAll.done (by kernel_rfl) ?_ _
          (try go_wp2_with fail)
          go_meet
          have hf1 := Lib.hid (box_set8 bx (.int .i64 x.max) (.slice none 0 0) (.slice none 0 0) (.slice none 0 0) (.slice (some ⟨u0.heap.size, 0, none⟩) 1 1) (.slice aC x.invs.length cC) (.slice none 0 0) (.slice none 0 0))
          have hf2 := Lib.hid (own_set8 (own_mono oB (b0).size) nB (.int .i64 x.max) (.slice none 0 0) (.slice none 0 0) (.slice none 0 0) (.slice (some ⟨u0.heap.size, 0, none⟩) 1 1) (.slice aC x.invs.length cC) (.slice none 0 0) (.slice none 0 0))
          have hf3 := Lib.hid (own_set8 (own_mono oC (bu1).size) nC (.int .i64 x.max) (.slice none 0 0) (.slice none 0 0) (.slice none 0 0) (.slice (some ⟨u0.heap.size, 0, none⟩) 1 1) (.slice aC x.invs.length cC) (.slice none 0 0) (.slice none 0 0))
          have hf4 := Lib.hid (below_set8 bu3 geA (.int .i64 x.max) (.slice none 0 0) (.slice none 0 0) (.slice none 0 0) (.slice (some ⟨u0.heap.size, 0, none⟩) 1 1) (.slice aC x.invs.length cC) (.slice none 0 0) (.slice none 0 0))
          exact ⟨u2.heap.size, u0.heap.size, aC, cC, rfl, geA, hf1, hf2, nB, hf3, nC, hf4⟩
        · skip
          have oB0 := oB
          have oC0 := oC
          obtain ⟨u4, hu4⟩ : ∃ V, u2.alloc (.cells #[.int .i64 0, .slice none 0 0, .slice none 0 0, .slice none 0 0, .slice none 0 0, .slice none 0 0, .slice none 0 0, .slice none 0 0] 27) = V := ⟨_, rfl⟩
          have su4 : Below u2.heap.size u2 u4 := by rw [← hu4]; exact (Below.refl _ _).alloc (Nat.le_refl _) _
          have bu4 : Below W5.heap.size W5 u4 := bu2.trans (su4.mono bu2.size)
          have oB := own_next oB su4
          have oC := own_next oC su4
          have bx : BoxN u2.heap.size [.int .i64 0, .slice none 0 0, .slice none 0 0, .slice none 0 0, .slice none 0 0, .slice none 0 0, .slice none 0 0, .slice none 0 0] u4 := by rw [← hu4]; exact BoxN.new u2 _ _
          have geA : W5.heap.size ≤ u2.heap.size := bu2.size
          have nB := own_not oB0 (Nat.le_refl u2.heap.size)
          have nC := own_not oC0 (Nat.le_refl u2.heap.size)
          have ltAu4 : u2.heap.size < u4.heap.size := bx.lt
          refine HeldAll.opVal (i := 12) (oi := _) (d := some 10) (v := .pointer (some ⟨u2.heap.size, 0, none⟩)) (w2 := u4) rfl rfl (by rfl) (by rw [← hu4]; go_simp; done) (hSK _ bu4) ?_
          (try simp only [Act.put, List.setIfInBounds_toArray, List.set_cons_zero, List.set_cons_succ])
          refine HeldAll.one (i := 11) (by kernel_rfl) ?_
          skip
          refine HeldAll.opVal (i := 11) (oi := _) (d := some 34) (v := .agg #[.int .i64 x.max, .slice none 0 0, .slice none 0 0, .slice none 0 0, .slice (some ⟨u0.heap.size, 0, none⟩) 1 1, .slice aC x.invs.length cC, .slice none 0 0, .slice none 0 0]) (w2 := u4) rfl rfl (by rfl) (by go_simp; done) (hSK _ bu4) ?_
          (try simp only [Act.put, List.setIfInBounds_toArray, List.set_cons_zero, List.set_cons_succ])
          have y0 := bx.at' 0 _ rfl
          have z0 := bx.fz 0
          have y1 := bx.at' 1 _ rfl
          have z1 := bx.fz 1
          have y2 := bx.at' 2 _ rfl
          have z2 := bx.fz 2
          have y3 := bx.at' 3 _ rfl
          have z3 := bx.fz 3
          have y4 := bx.at' 4 _ rfl
          have z4 := bx.fz 4
          have y5 := bx.at' 5 _ rfl
          have z5 := bx.fz 5
          have y6 := bx.at' 6 _ rfl
          have z6 := bx.fz 6
          have y7 := bx.at' 7 _ rfl
          have z7 := bx.fz 7
          refine HeldAll.one (i := 13) (by kernel_rfl) ?_
          refine HeldAll.opStore (i := 13) (oi := _) (d := none) (w2 := ((((((((u4.setCell ⟨u2.heap.size, 0, none⟩ (.int .i64 x.max)).setCell ⟨u2.heap.size, 1, none⟩ (.slice none 0 0)).setCell ⟨u2.heap.size, 2, none⟩ (.slice none 0 0)).setCell ⟨u2.heap.size, 3, none⟩ (.slice none 0 0)).setCell ⟨u2.heap.size, 4, none⟩ (.slice (some ⟨u0.heap.size, 0, none⟩) 1 1)).setCell ⟨u2.heap.size, 5, none⟩ (.slice aC x.invs.length cC)).setCell ⟨u2.heap.size, 6, none⟩ (.slice none 0 0)).setCell ⟨u2.heap.size, 7, none⟩ (.slice none 0 0))) rfl rfl (by rfl) (by go_simp; done) (hSK _ (below_set8 bu4 geA (.int .i64 x.max) (.slice none 0 0) (.slice none 0 0) (.slice none 0 0) (.slice (some ⟨u0.heap.size, 0, none⟩) 1 1) (.slice aC x.invs.length cC) (.slice none 0 0) (.slice none 0 0))) ?_
          (try simp only [Act.put, List.setIfInBounds_toArray, List.set_cons_zero, List.set_cons_succ])
          refine HeldAll.done (by kernel_rfl) ?_ _
          (try go_wp2_with fail)
          go_meet
          have hf1 := Lib.hid (box_set8 bx (.int .i64 x.max) (.slice none 0 0) (.slice none 0 0) (.slice none 0 0) (.slice (some ⟨u0.heap.size, 0, none⟩) 1 1) (.slice aC x.invs.length cC) (.slice none 0 0) (.slice none 0 0))
          have hf2 := Lib.hid (own_set8 (own_mono oB (b0).size) nB (.int .i64 x.max) (.slice none 0 0) (.slice none 0 0) (.slice none 0 0) (.slice (some ⟨u0.heap.size, 0, none⟩) 1 1) (.slice aC x.invs.length cC) (.slice none 0 0) (.slice none 0 0))
          have hf3 := Lib.hid (own_set8 (own_mono oC (bu1).size) nC (.int .i64 x.max) (.slice none 0 0) (.slice none 0 0) (.slice none 0 0) (.slice (some ⟨u0.heap.size, 0, none⟩) 1 1) (.slice aC x.invs.length cC) (.slice none 0 0) (.slice none 0 0))
          have hf4 := Lib.hid (below_set8 bu4 geA (.int .i64 x.max) (.slice none 0 0) (.slice none 0 0) (.slice none 0 0) (.slice (some ⟨u0.heap.size, 0, none⟩) 1 1) (.slice aC x.invs.length cC) (.slice none 0 0) (.slice none 0 0))
          exact ⟨u2.heap.size, u0.heap.size, aC, cC, rfl, geA, hf1, hf2, nB, hf3, nC, hf4⟩
      · skip
        have oB0 := oB
        obtain ⟨u5, hu5⟩ : ∃ V, u1.alloc (.cells #[.int .i64 0, .slice none 0 0, .slice none 0 0, .slice none 0 0, .slice none 0 0, .slice none 0 0, .slice none 0 0, .slice none 0 0] 27) = V := ⟨_, rfl⟩
        have su5 : Below u1.heap.size u1 u5 := by rw [← hu5]; exact (Below.refl _ _).alloc (Nat.le_refl _) _
        have bu5 : Below W5.heap.size W5 u5 := bu1.trans (su5.mono bu1.size)
        have oB := own_next oB su5
        have bx : BoxN u1.heap.size [.int .i64 0, .slice none 0 0, .slice none 0 0, .slice none 0 0, .slice none 0 0, .slice none 0 0, .slice none 0 0, .slice none 0 0] u5 := by rw [← hu5]; exact BoxN.new u1 _ _
        have geA : W5.heap.size ≤ u1.heap.size := bu1.size
        have nB := own_not oB0 (Nat.le_refl u1.heap.size)
        have ltAu5 : u1.heap.size < u5.heap.size := bx.lt
        refine HeldAll.opVal (i := 12) (oi := _) (d := some 10) (v := .pointer (some ⟨u1.heap.size, 0, none⟩)) (w2 := u5) rfl rfl (by rfl) (by rw [← hu5]; go_simp; done) (hSK _ bu5) ?_
        (try simp only [Act.put, List.setIfInBounds_toArray, List.set_cons_zero, List.set_cons_succ])
        refine HeldAll.one (i := 10) (by kernel_rfl) ?_
        skip
        have oB0 := oB
        refine HeldAll.opCall (i := 10) (oi := _) (d := some 33) (R := fun v w' => ∃ a' c', v = .slice a' x.invs.length c' ∧ w'.ownsRow u5.heap.size 3 1 (.slice a' x.invs.length c') x.invs.length (ints x.invs) ∧ Below u5.heap.size u5 w') rfl rfl (by rfl) (by go_simp; done) ((HCL.out u5 bu5).mono fun e w' h => by obtain ⟨a', c', he, ho, hb⟩ := h; exact ⟨_, he, a', c', rfl, ho, hb⟩) ?_
        rintro v u6 ⟨aC, cC, rfl, oC, su6⟩
        have bu6 : Below W5.heap.size W5 u6 := bu5.trans (su6.mono bu5.size)
        have oB := own_next oB su6
        have bx := bx.next su6 bx.lt
        have nC := own_not' oC (N := u1.heap.size) ltAu5
        have ltAu6 : u1.heap.size < u6.heap.size := bx.lt
        refine ⟨hSK _ bu6, ?_⟩
        (try simp only [Act.put, List.setIfInBounds_toArray, List.set_cons_zero, List.set_cons_succ])
        refine HeldAll.one (i := 11) (by kernel_rfl) ?_
        skip
        refine HeldAll.opVal (i := 11) (oi := _) (d := some 34) (v := .agg #[.int .i64 x.max, .slice none 0 0, .slice none 0 0, .slice none 0 0, .slice (some ⟨u0.heap.size, 0, none⟩) 1 1, .slice aC x.invs.length cC, .slice none 0 0, .slice none 0 0]) (w2 := u6) rfl rfl (by rfl) (by go_simp; done) (hSK _ bu6) ?_
        (try simp only [Act.put, List.setIfInBounds_toArray, List.set_cons_zero, List.set_cons_succ])
        have y0 := bx.at' 0 _ rfl
        have z0 := bx.fz 0
        have y1 := bx.at' 1 _ rfl
        have z1 := bx.fz 1
        have y2 := bx.at' 2 _ rfl
        have z2 := bx.fz 2
        have y3 := bx.at' 3 _ rfl
        have z3 := bx.fz 3
        have y4 := bx.at' 4 _ rfl
        have z4 := bx.fz 4
        have y5 := bx.at' 5 _ rfl
        have z5 := bx.fz 5
        have y6 := bx.at' 6 _ rfl
        have z6 := bx.fz 6
        have y7 := bx.at' 7 _ rfl
        have z7 := bx.fz 7
        refine HeldAll.one (i := 13) (by kernel_rfl) ?_
        refine HeldAll.opStore (i := 13) (oi := _) (d := none) (w2 := ((((((((u6.setCell ⟨u1.heap.size, 0, none⟩ (.int .i64 x.max)).setCell ⟨u1.heap.size, 1, none⟩ (.slice none 0 0)).setCell ⟨u1.heap.size, 2, none⟩ (.slice none 0 0)).setCell ⟨u1.heap.size, 3, none⟩ (.slice none 0 0)).setCell ⟨u1.heap.size, 4, none⟩ (.slice (some ⟨u0.heap.size, 0, none⟩) 1 1)).setCell ⟨u1.heap.size, 5, none⟩ (.slice aC x.invs.length cC)).setCell ⟨u1.heap.size, 6, none⟩ (.slice none 0 0)).setCell ⟨u1.heap.size, 7, none⟩ (.slice none 0 0))) rfl rfl (by rfl) (by go_simp; done) (hSK _ (below_set8 bu6 geA (.int .i64 x.max) (.slice none 0 0) (.slice none 0 0) (.slice none 0 0) (.slice (some ⟨u0.heap.size, 0, none⟩) 1 1) (.slice aC x.invs.length cC) (.slice none 0 0) (.slice none 0 0))) ?_
        (try simp only [Act.put, List.setIfInBounds_toArray, List.set_cons_zero, List.set_cons_succ])
        refine HeldAll.done (by kernel_rfl) ?_ _
        (try go_wp2_with fail)
        go_meet
        have hf1 := Lib.hid (box_set8 bx (.int .i64 x.max) (.slice none 0 0) (.slice none 0 0) (.slice none 0 0) (.slice (some ⟨u0.heap.size, 0, none⟩) 1 1) (.slice aC x.invs.length cC) (.slice none 0 0) (.slice none 0 0))
        have hf2 := Lib.hid (own_set8 (own_mono oB (b0).size) nB (.int .i64 x.max) (.slice none 0 0) (.slice none 0 0) (.slice none 0 0) (.slice (some ⟨u0.heap.size, 0, none⟩) 1 1) (.slice aC x.invs.length cC) (.slice none 0 0) (.slice none 0 0))
        have hf3 := Lib.hid (own_set8 (own_mono oC (bu5).size) nC (.int .i64 x.max) (.slice none 0 0) (.slice none 0 0) (.slice none 0 0) (.slice (some ⟨u0.heap.size, 0, none⟩) 1 1) (.slice aC x.invs.length cC) (.slice none 0 0) (.slice none 0 0))
        have hf4 := Lib.hid (below_set8 bu6 geA (.int .i64 x.max) (.slice none 0 0) (.slice none 0 0) (.slice none 0 0) (.slice (some ⟨u0.heap.size, 0, none⟩) 1 1) (.slice aC x.invs.length cC) (.slice none 0 0) (.slice none 0 0))
        exact ⟨u1.heap.size, u0.heap.size, aC, cC, rfl, geA, hf1, hf2, nB, hf3, nC, hf4⟩
    · skip
      refine HeldAll.opCall (i := 10) (oi := _) (d := some 33) (R := fun v w' => ∃ a' c', v = .slice a' x.invs.length c' ∧ w'.ownsRow u0.heap.size 3 1 (.slice a' x.invs.length c') x.invs.length (ints x.invs) ∧ Below u0.heap.size u0 w') rfl rfl (by rfl) (by go_simp; done) ((HCL.out u0 b0).mono fun e w' h => by obtain ⟨a', c', he, ho, hb⟩ := h; exact ⟨_, he, a', c', rfl, ho, hb⟩) ?_
      rintro v u7 ⟨aC, cC, rfl, oC, su7⟩
      have bu7 : Below W5.heap.size W5 u7 := b0.trans (su7.mono b0.size)
      refine ⟨hSK _ bu7, ?_⟩
      (try simp only [Act.put, List.setIfInBounds_toArray, List.set_cons_zero, List.set_cons_succ])
      refine HeldAll.two (i := 7) (j := 12) (by kernel_rfl) ?_ ?_
      · skip
        have oC0 := oC
        obtain ⟨u8, hu8⟩ : ∃ V, u7.alloc (.cells #[.int .i64 bl] 3) = V := ⟨_, rfl⟩
        have su8 : Below u7.heap.size u7 u8 := by rw [← hu8]; exact (Below.refl _ _).alloc (Nat.le_refl _) _
        have bu8 : Below W5.heap.size W5 u8 := bu7.trans (su8.mono bu7.size)
        have oC := own_next oC su8
        have oB : u8.ownsRow u7.heap.size 3 1 (.slice (some ⟨u7.heap.size, 0, none⟩) 1 1) 1 (ints [bl]) := by rw [← hu8]; exact World.ownsRow_lit u7 #[.int .i64 bl] 1 (Nat.le_refl _) (by unfold maxLen; omega) rfl
        refine HeldAll.opVal (i := 7) (oi := _) (d := some 30) (v := .slice (some ⟨u7.heap.size, 0, none⟩) 1 1) (w2 := u8) rfl rfl (by rfl) (by rw [← hu8]; go_simp; done) (hSK _ bu8) ?_
        (try simp only [Act.put, List.setIfInBounds_toArray, List.set_cons_zero, List.set_cons_succ])
        refine HeldAll.two (i := 11) (j := 12) (by kernel_rfl) ?_ ?_
        · skip
          refine HeldAll.opVal (i := 11) (oi := _) (d := some 34) (v := .agg #[.int .i64 x.max, .slice none 0 0, .slice none 0 0, .slice none 0 0, .slice (some ⟨u7.heap.size, 0, none⟩) 1 1, .slice aC x.invs.length cC, .slice none 0 0, .slice none 0 0]) (w2 := u8) rfl rfl (by rfl) (by go_simp; done) (hSK _ bu8) ?_
          (try simp only [Act.put, List.setIfInBounds_toArray, List.set_cons_zero, List.set_cons_succ])
          refine HeldAll.one (i := 12) (by kernel_rfl) ?_
          skip
          have oC0 := oC
          have oB0 := oB
          obtain ⟨u9, hu9⟩ : ∃ V, u8.alloc (.cells #[.int .i64 0, .slice none 0 0, .slice none 0 0, .slice none 0 0, .slice none 0 0, .slice none 0 0, .slice none 0 0, .slice none 0 0] 27) = V := ⟨_, rfl⟩
          have su9 : Below u8.heap.size u8 u9 := by rw [← hu9]; exact (Below.refl _ _).alloc (Nat.le_refl _) _
          have bu9 : Below W5.heap.size W5 u9 := bu8.trans (su9.mono bu8.size)
          have oC := own_next oC su9
          have oB := own_next oB su9
          have bx : BoxN u8.heap.size [.int .i64 0, .slice none 0 0, .slice none 0 0, .slice none 0 0, .slice none 0 0, .slice none 0 0, .slice none 0 0, .slice none 0 0] u9 := by rw [← hu9]; exact BoxN.new u8 _ _
          have geA : W5.heap.size ≤ u8.heap.size := bu8.size
          have nB := own_not oB0 (Nat.le_refl u8.heap.size)
          have nC := own_not oC0 (Nat.le_refl u8.heap.size)
          have ltAu9 : u8.heap.size < u9.heap.size := bx.lt
          refine HeldAll.opVal (i := 12) (oi := _) (d := some 10) (v := .pointer (some ⟨u8.heap.size, 0, none⟩)) (w2 := u9) rfl rfl (by rfl) (by rw [← hu9]; go_simp; done) (hSK _ bu9) ?_
          (try simp only [Act.put, List.setIfInBounds_toArray, List.set_cons_zero, List.set_cons_succ])
          have y0 := bx.at' 0 _ rfl
          have z0 := bx.fz 0
          have y1 := bx.at' 1 _ rfl
          have z1 := bx.fz 1
          have y2 := bx.at' 2 _ rfl
          have z2 := bx.fz 2
          have y3 := bx.at' 3 _ rfl
          have z3 := bx.fz 3
          have y4 := bx.at' 4 _ rfl
          have z4 := bx.fz 4
          have y5 := bx.at' 5 _ rfl
          have z5 := bx.fz 5
          have y6 := bx.at' 6 _ rfl
          have z6 := bx.fz 6
          have y7 := bx.at' 7 _ rfl
          have z7 := bx.fz 7
          refine HeldAll.one (i := 13) (by kernel_rfl) ?_
          refine HeldAll.opStore (i := 13) (oi := _) (d := none) (w2 := ((((((((u9.setCell ⟨u8.heap.size, 0, none⟩ (.int .i64 x.max)).setCell ⟨u8.heap.size, 1, none⟩ (.slice none 0 0)).setCell ⟨u8.heap.size, 2, none⟩ (.slice none 0 0)).setCell ⟨u8.heap.size, 3, none⟩ (.slice none 0 0)).setCell ⟨u8.heap.size, 4, none⟩ (.slice (some ⟨u7.heap.size, 0, none⟩) 1 1)).setCell ⟨u8.heap.size, 5, none⟩ (.slice aC x.invs.length cC)).setCell ⟨u8.heap.size, 6, none⟩ (.slice none 0 0)).setCell ⟨u8.heap.size, 7, none⟩ (.slice none 0 0))) rfl rfl (by rfl) (by go_simp; done) (hSK _ (below_set8 bu9 geA (.int .i64 x.max) (.slice none 0 0) (.slice none 0 0) (.slice none 0 0) (.slice (some ⟨u7.heap.size, 0, none⟩) 1 1) (.slice aC x.invs.length cC) (.slice none 0 0) (.slice none 0 0))) ?_
          (try simp only [Act.put, List.setIfInBounds_toArray, List.set_cons_zero, List.set_cons_succ])
          refine HeldAll.done (by kernel_rfl) ?_ _
          (try go_wp2_with fail)
          go_meet
          have hf1 := Lib.hid (box_set8 bx (.int .i64 x.max) (.slice none 0 0) (.slice none 0 0) (.slice none 0 0) (.slice (some ⟨u7.heap.size, 0, none⟩) 1 1) (.slice aC x.invs.length cC) (.slice none 0 0) (.slice none 0 0))
          have hf2 := Lib.hid (own_set8 (own_mono oB (bu7).size) nB (.int .i64 x.max) (.slice none 0 0) (.slice none 0 0) (.slice none 0 0) (.slice (some ⟨u7.heap.size, 0, none⟩) 1 1) (.slice aC x.invs.length cC) (.slice none 0 0) (.slice none 0 0))
          have hf3 := Lib.hid (own_set8 (own_mono oC (b0).size) nC (.int .i64 x.max) (.slice none 0 0) (.slice none 0 0) (.slice none 0 0) (.slice (some ⟨u7.heap.size, 0, none⟩) 1 1) (.slice aC x.invs.length cC) (.slice none 0 0) (.slice none 0 0))
          have hf4 := Lib.hid (below_set8 bu9 geA (.int .i64 x.max) (.slice none 0 0) (.slice none 0 0) (.slice none 0 0) (.slice (some ⟨u7.heap.size, 0, none⟩) 1 1) (.slice aC x.invs.length cC) (.slice none 0 0) (.slice none 0 0))
          exact ⟨u8.heap.size, u7.heap.size, aC, cC, rfl, geA, hf1, hf2, nB, hf3, nC, hf4⟩
        · skip
          have oC0 := oC
          have oB0 := oB
          obtain ⟨u10, hu10⟩ : ∃ V, u8.alloc (.cells #[.int .i64 0, .slice none 0 0, .slice none 0 0, .slice none 0 0, .slice none 0 0, .slice none 0 0, .slice none 0 0, .slice none 0 0] 27) = V := ⟨_, rfl⟩
          have su10 : Below u8.heap.size u8 u10 := by rw [← hu10]; exact (Below.refl _ _).alloc (Nat.le_refl _) _
          have bu10 : Below W5.heap.size W5 u10 := bu8.trans (su10.mono bu8.size)
          have oC := own_next oC su10
          have oB := own_next oB su10
          have bx : BoxN u8.heap.size [.int .i64 0, .slice none 0 0, .slice none 0 0, .slice none 0 0, .slice none 0 0, .slice none 0 0, .slice none 0 0, .slice none 0 0] u10 := by rw [← hu10]; exact BoxN.new u8 _ _
          have geA : W5.heap.size ≤ u8.heap.size := bu8.size
          have nB := own_not oB0 (Nat.le_refl u8.heap.size)
          have nC := own_not oC0 (Nat.le_refl u8.heap.size)
          have ltAu10 : u8.heap.size < u10.heap.size := bx.lt
          refine HeldAll.opVal (i := 12) (oi := _) (d := some 10) (v := .pointer (some ⟨u8.heap.size, 0, none⟩)) (w2 := u10) rfl rfl (by rfl) (by rw [← hu10]; go_simp; done) (hSK _ bu10) ?_
          (try simp only [Act.put, List.setIfInBounds_toArray, List.set_cons_zero, List.set_cons_succ])
          refine HeldAll.one (i := 11) (by kernel_rfl) ?_
          skip
          refine HeldAll.opVal (i := 11) (oi := _) (d := some 34) (v := .agg #[.int .i64 x.max, .slice none 0 0, .slice none 0 0, .slice none 0 0, .slice (some ⟨u7.heap.size, 0, none⟩) 1 1, .slice aC x.invs.length cC, .slice none 0 0, .slice none 0 0]) (w2 := u10) rfl rfl (by rfl) (by go_simp; done) (hSK _ bu10) ?_
          (try simp only [Act.put, List.setIfInBounds_toArray, List.set_cons_zero, List.set_cons_succ])
          have y0 := bx.at' 0 _ rfl
          have z0 := bx.fz 0
          have y1 := bx.at' 1 _ rfl
          have z1 := bx.fz 1
          have y2 := bx.at' 2 _ rfl
          have z2 := bx.fz 2
          have y3 := bx.at' 3 _ rfl
          have z3 := bx.fz 3
          have y4 := bx.at' 4 _ rfl
          have z4 := bx.fz 4
          have y5 := bx.at' 5 _ rfl
          have z5 := bx.fz 5
          have y6 := bx.at' 6 _ rfl
          have z6 := bx.fz 6
          have y7 := bx.at' 7 _ rfl
          have z7 := bx.fz 7
          refine HeldAll.one (i := 13) (by kernel_rfl) ?_
          refine HeldAll.opStore (i := 13) (oi := _) (d := none) (w2 := ((((((((u10.setCell ⟨u8.heap.size, 0, none⟩ (.int .i64 x.max)).setCell ⟨u8.heap.size, 1, none⟩ (.slice none 0 0)).setCell ⟨u8.heap.size, 2, none⟩ (.slice none 0 0)).setCell ⟨u8.heap.size, 3, none⟩ (.slice none 0 0)).setCell ⟨u8.heap.size, 4, none⟩ (.slice (some ⟨u7.heap.size, 0, none⟩) 1 1)).setCell ⟨u8.heap.size, 5, none⟩ (.slice aC x.invs.length cC)).setCell ⟨u8.heap.size, 6, none⟩ (.slice none 0 0)).setCell ⟨u8.heap.size, 7, none⟩ (.slice none 0 0))) rfl rfl (by rfl) (by go_simp; done) (hSK _ (below_set8 bu10 geA (.int .i64 x.max) (.slice none 0 0) (.slice none 0 0) (.slice none 0 0) (.slice (some ⟨u7.heap.size, 0, none⟩) 1 1) (.slice aC x.invs.length cC) (.slice none 0 0) (.slice none 0 0))) ?_
          (try simp only [Act.put, List.setIfInBounds_toArray, List.set_cons_zero, List.set_cons_succ])
          refine HeldAll.done (by kernel_rfl) ?_ _
          (try go_wp2_with fail)
          go_meet
          have hf1 := Lib.hid (box_set8 bx (.int .i64 x.max) (.slice none 0 0) (.slice none 0 0) (.slice none 0 0) (.slice (some ⟨u7.heap.size, 0, none⟩) 1 1) (.slice aC x.invs.length cC) (.slice none 0 0) (.slice none 0 0))
          have hf2 := Lib.hid (own_set8 (own_mono oB (bu7).size) nB (.int .i64 x.max) (.slice none 0 0) (.slice none 0 0) (.slice none 0 0) (.slice (some ⟨u7.heap.size, 0, none⟩) 1 1) (.slice aC x.invs.length cC) (.slice none 0 0) (.slice none 0 0))
          have hf3 := Lib.hid (own_set8 (own_mono oC (b0).size) nC (.int .i64 x.max) (.slice none 0 0) (.slice none 0 0) (.slice none 0 0) (.slice (some ⟨u7.heap.size, 0, none⟩) 1 1) (.slice aC x.invs.length cC) (.slice none 0 0) (.slice none 0 0))
          have hf4 := Lib.hid (below_set8 bu10 geA (.int .i64 x.max) (.slice none 0 0) (.slice none 0 0) (.slice none 0 0) (.slice (some ⟨u7.heap.size, 0, none⟩) 1 1) (.slice aC x.invs.length cC) (.slice none 0 0) (.slice none 0 0))
          exact ⟨u8.heap.size, u7.heap.size, aC, cC, rfl, geA, hf1, hf2, nB, hf3, nC, hf4⟩
      · skip
        have oC0 := oC
        obtain ⟨u11, hu11⟩ : ∃ V, u7.alloc (.cells #[.int .i64 0, .slice none 0 0, .slice none 0 0, .slice none 0 0, .slice none 0 0, .slice none 0 0, .slice none 0 0, .slice none 0 0] 27) = V := ⟨_, rfl⟩
        have su11 : Below u7.heap.size u7 u11 := by rw [← hu11]; exact (Below.refl _ _).alloc (Nat.le_refl _) _
        have bu11 : Below W5.heap.size W5 u11 := bu7.trans (su11.mono bu7.size)
        have oC := own_next oC su11
        have bx : BoxN u7.heap.size [.int .i64 0, .slice none 0 0, .slice none 0 0, .slice none 0 0, .slice none 0 0, .slice none 0 0, .slice none 0 0, .slice none 0 0] u11 := by rw [← hu11]; exact BoxN.new u7 _ _
        have geA : W5.heap.size ≤ u7.heap.size := bu7.size
        have nC := own_not oC0 (Nat.le_refl u7.heap.size)
        have ltAu11 : u7.heap.size < u11.heap.size := bx.lt
        refine HeldAll.opVal (i := 12) (oi := _) (d := some 10) (v := .pointer (some ⟨u7.heap.size, 0, none⟩)) (w2 := u11) rfl rfl (by rfl) (by rw [← hu11]; go_simp; done) (hSK _ bu11) ?_
        (try simp only [Act.put, List.setIfInBounds_toArray, List.set_cons_zero, List.set_cons_succ])
        refine HeldAll.one (i := 7) (by kernel_rfl) ?_
        skip
        have oC0 := oC
        obtain ⟨u12, hu12⟩ : ∃ V, u11.alloc (.cells #[.int .i64 bl] 3) = V := ⟨_, rfl⟩
        have su12 : Below u11.heap.size u11 u12 := by rw [← hu12]; exact (Below.refl _ _).alloc (Nat.le_refl _) _
        have bu12 : Below W5.heap.size W5 u12 := bu11.trans (su12.mono bu11.size)
        have oC := own_next oC su12
        have bx := bx.next su12 bx.lt
        have oB : u12.ownsRow u11.heap.size 3 1 (.slice (some ⟨u11.heap.size, 0, none⟩) 1 1) 1 (ints [bl]) := by rw [← hu12]; exact World.ownsRow_lit u11 #[.int .i64 bl] 1 (Nat.le_refl _) (by unfold maxLen; omega) rfl
        have nB := own_not' oB (N := u7.heap.size) ltAu11
        have ltAu12 : u7.heap.size < u12.heap.size := bx.lt
        refine HeldAll.opVal (i := 7) (oi := _) (d := some 30) (v := .slice (some ⟨u11.heap.size, 0, none⟩) 1 1) (w2 := u12) rfl rfl (by rfl) (by rw [← hu12]; go_simp; done) (hSK _ bu12) ?_
        (try simp only [Act.put, List.setIfInBounds_toArray, List.set_cons_zero, List.set_cons_succ])
        refine HeldAll.one (i := 11) (by kernel_rfl) ?_
        skip
        refine HeldAll.opVal (i := 11) (oi := _) (d := some 34) (v := .agg #[.int .i64 x.max, .slice none 0 0, .slice none 0 0, .slice none 0 0, .slice (some ⟨u11.heap.size, 0, none⟩) 1 1, .slice aC x.invs.length cC, .slice none 0 0, .slice none 0 0]) (w2 := u12) rfl rfl (by rfl) (by go_simp; done) (hSK _ bu12) ?_
        (try simp only [Act.put, List.setIfInBounds_toArray, List.set_cons_zero, List.set_cons_succ])
        have y0 := bx.at' 0 _ rfl
        have z0 := bx.fz 0
        have y1 := bx.at' 1 _ rfl
        have z1 := bx.fz 1
        have y2 := bx.at' 2 _ rfl
        have z2 := bx.fz 2
        have y3 := bx.at' 3 _ rfl
        have z3 := bx.fz 3
        have y4 := bx.at' 4 _ rfl
        have z4 := bx.fz 4
        have y5 := bx.at' 5 _ rfl
        have z5 := bx.fz 5
        have y6 := bx.at' 6 _ rfl
        have z6 := bx.fz 6
        have y7 := bx.at' 7 _ rfl
        have z7 := bx.fz 7
        refine HeldAll.one (i := 13) (by kernel_rfl) ?_
        refine HeldAll.opStore (i := 13) (oi := _) (d := none) (w2 := ((((((((u12.setCell ⟨u7.heap.size, 0, none⟩ (.int .i64 x.max)).setCell ⟨u7.heap.size, 1, none⟩ (.slice none 0 0)).setCell ⟨u7.heap.size, 2, none⟩ (.slice none 0 0)).setCell ⟨u7.heap.size, 3, none⟩ (.slice none 0 0)).setCell ⟨u7.heap.size, 4, none⟩ (.slice (some ⟨u11.heap.size, 0, none⟩) 1 1)).setCell ⟨u7.heap.size, 5, none⟩ (.slice aC x.invs.length cC)).setCell ⟨u7.heap.size, 6, none⟩ (.slice none 0 0)).setCell ⟨u7.heap.size, 7, none⟩ (.slice none 0 0))) rfl rfl (by rfl) (by go_simp; done) (hSK _ (below_set8 bu12 geA (.int .i64 x.max) (.slice none 0 0) (.slice none 0 0) (.slice none 0 0) (.slice (some ⟨u11.heap.size, 0, none⟩) 1 1) (.slice aC x.invs.length cC) (.slice none 0 0) (.slice none 0 0))) ?_
        (try simp only [Act.put, List.setIfInBounds_toArray, List.set_cons_zero, List.set_cons_succ])
        refine HeldAll.done (by kernel_rfl) ?_ _
        (try go_wp2_with fail)
        go_meet
        have hf1 := Lib.hid (box_set8 bx (.int .i64 x.max) (.slice none 0 0) (.slice none 0 0) (.slice none 0 0) (.slice (some ⟨u11.heap.size, 0, none⟩) 1 1) (.slice aC x.invs.length cC) (.slice none 0 0) (.slice none 0 0))
        have hf2 := Lib.hid (own_set8 (own_mono oB (bu11).size) nB (.int .i64 x.max) (.slice none 0 0) (.slice none 0 0) (.slice none 0 0) (.slice (some ⟨u11.heap.size, 0, none⟩) 1 1) (.slice aC x.invs.length cC) (.slice none 0 0) (.slice none 0 0))
        have hf3 := Lib.hid (own_set8 (own_mono oC (b0).size) nC (.int .i64 x.max) (.slice none 0 0) (.slice none 0 0) (.slice none 0 0) (.slice (some ⟨u11.heap.size, 0, none⟩) 1 1) (.slice aC x.invs.length cC) (.slice none 0 0) (.slice none 0 0))
        have hf4 := Lib.hid (below_set8 bu12 geA (.int .i64 x.max) (.slice none 0 0) (.slice none 0 0) (.slice none 0 0) (.slice (some ⟨u11.heap.size, 0, none⟩) 1 1) (.slice aC x.invs.length cC) (.slice none 0 0) (.slice none 0 0))
        exact ⟨u7.heap.size, u11.heap.size, aC, cC, rfl, geA, hf1, hf2, nB, hf3, nC, hf4⟩
    · skip
      obtain ⟨u13, hu13⟩ : ∃ V, u0.alloc (.cells #[.int .i64 0, .slice none 0 0, .slice none 0 0, .slice none 0 0, .slice none 0 0, .slice none 0 0, .slice none 0 0, .slice none 0 0] 27) = V := ⟨_, rfl⟩
      have su13 : Below u0.heap.size u0 u13 := by rw [← hu13]; exact (Below.refl _ _).alloc (Nat.le_refl _) _
      have bu13 : Below W5.heap.size W5 u13 := b0.trans (su13.mono b0.size)
      have bx : BoxN u0.heap.size [.int .i64 0, .slice none 0 0, .slice none 0 0, .slice none 0 0, .slice none 0 0, .slice none 0 0, .slice none 0 0, .slice none 0 0] u13 := by rw [← hu13]; exact BoxN.new u0 _ _
      have geA : W5.heap.size ≤ u0.heap.size := b0.size
      have ltAu13 : u0.heap.size < u13.heap.size := bx.lt
      refine HeldAll.opVal (i := 12) (oi := _) (d := some 10) (v := .pointer (some ⟨u0.heap.size, 0, none⟩)) (w2 := u13) rfl rfl (by rfl) (by rw [← hu13]; go_simp; done) (hSK _ bu13) ?_
      (try simp only [Act.put, List.setIfInBounds_toArray, List.set_cons_zero, List.set_cons_succ])
      refine HeldAll.two (i := 7) (j := 10) (by kernel_rfl) ?_ ?_
      · skip
        obtain ⟨u14, hu14⟩ : ∃ V, u13.alloc (.cells #[.int .i64 bl] 3) = V := ⟨_, rfl⟩
        have su14 : Below u13.heap.size u13 u14 := by rw [← hu14]; exact (Below.refl _ _).alloc (Nat.le_refl _) _
        have bu14 : Below W5.heap.size W5 u14 := bu13.trans (su14.mono bu13.size)
        have bx := bx.next su14 bx.lt
        have oB : u14.ownsRow u13.heap.size 3 1 (.slice (some ⟨u13.heap.size, 0, none⟩) 1 1) 1 (ints [bl]) := by rw [← hu14]; exact World.ownsRow_lit u13 #[.int .i64 bl] 1 (Nat.le_refl _) (by unfold maxLen; omega) rfl
        have nB := own_not' oB (N := u0.heap.size) ltAu13
        have ltAu14 : u0.heap.size < u14.heap.size := bx.lt
        refine HeldAll.opVal (i := 7) (oi := _) (d := some 30) (v := .slice (some ⟨u13.heap.size, 0, none⟩) 1 1) (w2 := u14) rfl rfl (by rfl) (by rw [← hu14]; go_simp; done) (hSK _ bu14) ?_
        (try simp only [Act.put, List.setIfInBounds_toArray, List.set_cons_zero, List.set_cons_succ])
        refine HeldAll.one (i := 10) (by kernel_rfl) ?_
        skip
        have oB0 := oB
        refine HeldAll.opCall (i := 10) (oi := _) (d := some 33) (R := fun v w' => ∃ a' c', v = .slice a' x.invs.length c' ∧ w'.ownsRow u14.heap.size 3 1 (.slice a' x.invs.length c') x.invs.length (ints x.invs) ∧ Below u14.heap.size u14 w') rfl rfl (by rfl) (by go_simp; done) ((HCL.out u14 bu14).mono fun e w' h => by obtain ⟨a', c', he, ho, hb⟩ := h; exact ⟨_, he, a', c', rfl, ho, hb⟩) ?_
        rintro v u15 ⟨aC, cC, rfl, oC, su15⟩
        have bu15 : Below W5.heap.size W5 u15 := bu14.trans (su15.mono bu14.size)
        have bx := bx.next su15 bx.lt
        have oB := own_next oB su15
        have nC := own_not' oC (N := u0.heap.size) ltAu14
        have ltAu15 : u0.heap.size < u15.heap.size := bx.lt
        refine ⟨hSK _ bu15, ?_⟩
        (try simp only [Act.put, List.setIfInBounds_toArray, List.set_cons_zero, List.set_cons_succ])
        refine HeldAll.one (i := 11) (by kernel_rfl) ?_
        skip
        refine HeldAll.opVal (i := 11) (oi := _) (d := some 34) (v := .agg #[.int .i64 x.max, .slice none 0 0, .slice none 0 0, .slice none 0 0, .slice (some ⟨u13.heap.size, 0, none⟩) 1 1, .slice aC x.invs.length cC, .slice none 0 0, .slice none 0 0]) (w2 := u15) rfl rfl (by rfl) (by go_simp; done) (hSK _ bu15) ?_
        (try simp only [Act.put, List.setIfInBounds_toArray, List.set_cons_zero, List.set_cons_succ])
        have y0 := bx.at' 0 _ rfl
        have z0 := bx.fz 0
        have y1 := bx.at' 1 _ rfl
        have z1 := bx.fz 1
        have y2 := bx.at' 2 _ rfl
        have z2 := bx.fz 2
        have y3 := bx.at' 3 _ rfl
        have z3 := bx.fz 3
        have y4 := bx.at' 4 _ rfl
        have z4 := bx.fz 4
        have y5 := bx.at' 5 _ rfl
        have z5 := bx.fz 5
        have y6 := bx.at' 6 _ rfl
        have z6 := bx.fz 6
        have y7 := bx.at' 7 _ rfl
        have z7 := bx.fz 7
        refine HeldAll.one (i := 13) (by kernel_rfl) ?_
        refine HeldAll.opStore (i := 13) (oi := _) (d := none) (w2 := ((((((((u15.setCell ⟨u0.heap.size, 0, none⟩ (.int .i64 x.max)).setCell ⟨u0.heap.size, 1, none⟩ (.slice none 0 0)).setCell ⟨u0.heap.size, 2, none⟩ (.slice none 0 0)).setCell ⟨u0.heap.size, 3, none⟩ (.slice none 0 0)).setCell ⟨u0.heap.size, 4, none⟩ (.slice (some ⟨u13.heap.size, 0, none⟩) 1 1)).setCell ⟨u0.heap.size, 5, none⟩ (.slice aC x.invs.length cC)).setCell ⟨u0.heap.size, 6, none⟩ (.slice none 0 0)).setCell ⟨u0.heap.size, 7, none⟩ (.slice none 0 0))) rfl rfl (by rfl) (by go_simp; done) (hSK _ (below_set8 bu15 geA (.int .i64 x.max) (.slice none 0 0) (.slice none 0 0) (.slice none 0 0) (.slice (some ⟨u13.heap.size, 0, none⟩) 1 1) (.slice aC x.invs.length cC) (.slice none 0 0) (.slice none 0 0))) ?_
        (try simp only [Act.put, List.setIfInBounds_toArray, List.set_cons_zero, List.set_cons_succ])
        refine HeldAll.done (by kernel_rfl) ?_ _
        (try go_wp2_with fail)
        go_meet
        have hf1 := Lib.hid (box_set8 bx (.int .i64 x.max) (.slice none 0 0) (.slice none 0 0) (.slice none 0 0) (.slice (some ⟨u13.heap.size, 0, none⟩) 1 1) (.slice aC x.invs.length cC) (.slice none 0 0) (.slice none 0 0))
        have hf2 := Lib.hid (own_set8 (own_mono oB (bu13).size) nB (.int .i64 x.max) (.slice none 0 0) (.slice none 0 0) (.slice none 0 0) (.slice (some ⟨u13.heap.size, 0, none⟩) 1 1) (.slice aC x.invs.length cC) (.slice none 0 0) (.slice none 0 0))
        have hf3 := Lib.hid (own_set8 (own_mono oC (bu14).size) nC (.int .i64 x.max) (.slice none 0 0) (.slice none 0 0) (.slice none 0 0) (.slice (some ⟨u13.heap.size, 0, none⟩) 1 1) (.slice aC x.invs.length cC) (.slice none 0 0) (.slice none 0 0))
        have hf4 := Lib.hid (below_set8 bu15 geA (.int .i64 x.max) (.slice none 0 0) (.slice none 0 0) (.slice none 0 0) (.slice (some ⟨u13.heap.size, 0, none⟩) 1 1) (.slice aC x.invs.length cC) (.slice none 0 0) (.slice none 0 0))
        exact ⟨u0.heap.size, u13.heap.size, aC, cC, rfl, geA, hf1, hf2, nB, hf3, nC, hf4⟩
      · skip
        refine HeldAll.opCall (i := 10) (oi := _) (d := some 33) (R := fun v w' => ∃ a' c', v = .slice a' x.invs.length c' ∧ w'.ownsRow u13.heap.size 3 1 (.slice a' x.invs.length c') x.invs.length (ints x.invs) ∧ Below u13.heap.size u13 w') rfl rfl (by rfl) (by go_simp; done) ((HCL.out u13 bu13).mono fun e w' h => by obtain ⟨a', c', he, ho, hb⟩ := h; exact ⟨_, he, a', c', rfl, ho, hb⟩) ?_
        rintro v u16 ⟨aC, cC, rfl, oC, su16⟩
        have bu16 : Below W5.heap.size W5 u16 := bu13.trans (su16.mono bu13.size)
        have bx := bx.next su16 bx.lt
        have nC := own_not' oC (N := u0.heap.size) ltAu13
        have ltAu16 : u0.heap.size < u16.heap.size := bx.lt
        refine ⟨hSK _ bu16, ?_⟩
        (try simp only [Act.put, List.setIfInBounds_toArray, List.set_cons_zero, List.set_cons_succ])
        refine HeldAll.one (i := 7) (by kernel_rfl) ?_
        skip
        have oC0 := oC
        obtain ⟨u17, hu17⟩ : ∃ V, u16.alloc (.cells #[.int .i64 bl] 3) = V := ⟨_, rfl⟩
        have su17 : Below u16.heap.size u16 u17 := by rw [← hu17]; exact (Below.refl _ _).alloc (Nat.le_refl _) _
        have bu17 : Below W5.heap.size W5 u17 := bu16.trans (su17.mono bu16.size)
        have bx := bx.next su17 bx.lt
        have oC := own_next oC su17
        have oB : u17.ownsRow u16.heap.size 3 1 (.slice (some ⟨u16.heap.size, 0, none⟩) 1 1) 1 (ints [bl]) := by rw [← hu17]; exact World.ownsRow_lit u16 #[.int .i64 bl] 1 (Nat.le_refl _) (by unfold maxLen; omega) rfl
        have nB := own_not' oB (N := u0.heap.size) ltAu16
        have ltAu17 : u0.heap.size < u17.heap.size := bx.lt
        refine HeldAll.opVal (i := 7) (oi := _) (d := some 30) (v := .slice (some ⟨u16.heap.size, 0, none⟩) 1 1) (w2 := u17) rfl rfl (by rfl) (by rw [← hu17]; go_simp; done) (hSK _ bu17) ?_
        (try simp only [Act.put, List.setIfInBounds_toArray, List.set_cons_zero, List.set_cons_succ])
        refine HeldAll.one (i := 11) (by kernel_rfl) ?_
        skip
        refine HeldAll.opVal (i := 11) (oi := _) (d := some 34) (v := .agg #[.int .i64 x.max, .slice none 0 0, .slice none 0 0, .slice none 0 0, .slice (some ⟨u16.heap.size, 0, none⟩) 1 1, .slice aC x.invs.length cC, .slice none 0 0, .slice none 0 0]) (w2 := u17) rfl rfl (by rfl) (by go_simp; done) (hSK _ bu17) ?_
        (try simp only [Act.put, List.setIfInBounds_toArray, List.set_cons_zero, List.set_cons_succ])
        have y0 := bx.at' 0 _ rfl
        have z0 := bx.fz 0
        have y1 := bx.at' 1 _ rfl
        have z1 := bx.fz 1
        have y2 := bx.at' 2 _ rfl
        have z2 := bx.fz 2
        have y3 := bx.at' 3 _ rfl
        have z3 := bx.fz 3
        have y4 := bx.at' 4 _ rfl
        have z4 := bx.fz 4
        have y5 := bx.at' 5 _ rfl
        have z5 := bx.fz 5
        have y6 := bx.at' 6 _ rfl
        have z6 := bx.fz 6
        have y7 := bx.at' 7 _ rfl
        have z7 := bx.fz 7
        refine HeldAll.one (i := 13) (by kernel_rfl) ?_
        refine HeldAll.opStore (i := 13) (oi := _) (d := none) (w2 := ((((((((u17.setCell ⟨u0.heap.size, 0, none⟩ (.int .i64 x.max)).setCell ⟨u0.heap.size, 1, none⟩ (.slice none 0 0)).setCell ⟨u0.heap.size, 2, none⟩ (.slice none 0 0)).setCell ⟨u0.heap.size, 3, none⟩ (.slice none 0 0)).setCell ⟨u0.heap.size, 4, none⟩ (.slice (some ⟨u16.heap.size, 0, none⟩) 1 1)).setCell ⟨u0.heap.size, 5, none⟩ (.slice aC x.invs.length cC)).setCell ⟨u0.heap.size, 6, none⟩ (.slice none 0 0)).setCell ⟨u0.heap.size, 7, none⟩ (.slice none 0 0))) rfl rfl (by rfl) (by go_simp; done) (hSK _ (below_set8 bu17 geA (.int .i64 x.max) (.slice none 0 0) (.slice none 0 0) (.slice none 0 0) (.slice (some ⟨u16.heap.size, 0, none⟩) 1 1) (.slice aC x.invs.length cC) (.slice none 0 0) (.slice none 0 0))) ?_
        (try simp only [Act.put, List.setIfInBounds_toArray, List.set_cons_zero, List.set_cons_succ])
        refine HeldAll.done (by kernel_rfl) ?_ _
        (try go_wp2_with fail)
        go_meet
        have hf1 := Lib.hid (box_set8 bx (.int .i64 x.max) (.slice none 0 0) (.slice none 0 0) (.slice none 0 0) (.slice (some ⟨u16.heap.size, 0, none⟩) 1 1) (.slice aC x.invs.length cC) (.slice none 0 0) (.slice none 0 0))
        have hf2 := Lib.hid (own_set8 (own_mono oB (bu16).size) nB (.int .i64 x.max) (.slice none 0 0) (.slice none 0 0) (.slice none 0 0) (.slice (some ⟨u16.heap.size, 0, none⟩) 1 1) (.slice aC x.invs.length cC) (.slice none 0 0) (.slice none 0 0))
        have hf3 := Lib.hid (own_set8 (own_mono oC (bu13).size) nC (.int .i64 x.max) (.slice none 0 0) (.slice none 0 0) (.slice none 0 0) (.slice (some ⟨u16.heap.size, 0, none⟩) 1 1) (.slice aC x.invs.length cC) (.slice none 0 0) (.slice none 0 0))
        have hf4 := Lib.hid (below_set8 bu17 geA (.int .i64 x.max) (.slice none 0 0) (.slice none 0 0) (.slice none 0 0) (.slice (some ⟨u16.heap.size, 0, none⟩) 1 1) (.slice aC x.invs.length cC) (.slice none 0 0) (.slice none 0 0))
        exact ⟨u0.heap.size, u16.heap.size, aC, cC, rfl, geA, hf1, hf2, nB, hf3, nC, hf4⟩
  case rest =>
    obtain ⟨N10, gB, aC, cC, rfl, HGE, HX10, HOB, HNB, HOC, HNC, HB10⟩ := hcut
    generalize wc = w10 at *
    have HFI : Hid (DelN.fl (fun m => !SetI.inX X (var m)) x.ins = (reduced x l bl).ins) := fl_cnt HX.out (fun m => m) x.ins
    have HFL : Hid (DelL.fl (fun t => !SetI.inX X (var t.1)) x.lats = (reduced x l bl).lats) := fl_cnt HX.out (fun t : Tri => t.1) x.lats
    have HFA : Hid (DelA.fl (fun t => !SetI.inX X (var t.1)) x.ands = (reduced x l bl).ands) := fl_cnt HX.out (fun t : Tri => t.1) x.ands
    have HXw10 := HX10
    have HBw10 := HB10
    have HOBw10 := HOB
    have HOCw10 := HOC
    have HNB := HNB
    have HNC := HNC
    clear HX10 HB10 HOB HOC
    have m1 := (HC2.out.next (HB5.out.trans (HBw10.out.mono HB5.out.size)) (Nat.le_refl _)).k1
    have HCLOI := Lib.hid (CloneI.clone w10 a1 x.ins.length c1 (ints x.ins) (HIN.out w10 (HB12.out.trans ((HB5.out.trans (HBw10.out.mono HB5.out.size)).mono HB12.out.size))).ins (Base.ints_one _) (by have := HSZ.out; omega))
    go_wp2_with fail
    clear m1
    with_reducible refine HCLOI.out.mono ?_
    rintro e w11 ⟨aI, cI, rfl, ho, hb⟩
    have hWb : Below W5.heap.size W5 w11 := HBw10.out.trans (hb.mono HBw10.out.size)
    have HDELI := Lib.hid (DelN.del_own w11 w10.heap.size aI x.ins.length cI x.ins rfl (by rw [DelN.tris_flat]; exact ho) hb.size 23 #[.pointer (some ⟨w4.heap.size, 0, none⟩)] (fun m => !SetI.inX X (var m)) eg_r1 (fun W hgW t ht => by
      have hBW : Below W5.heap.size W5 W := hWb.grown hgW hWb.size (fun q hq => Nat.le_trans HBw10.out.size (ho.lt q hq).1)
      exact (red1_any W w4.heap.size mb X.length X ((HX5.out.next hBW HX5.out.lt).at' 0 _ rfl) (HSET.out.next hBW) t (HW.out.ins t ht).1 (HW.out.ins t ht).2).mono fun e w' h => ⟨h.1, h.2 ▸ Below.refl _ _⟩))
    rw [HFI.out] at HDELI
    have HO0 := Lib.hid ho
    have HBC := Lib.hid hb
    clear ho hb hWb
    go_wp2_with fail
    with_reducible refine HDELI.out.mono ?_
    rintro e w12 ⟨nI, rfl, hnI, hoD, hgD⟩
    subst hnI
    have bad : Below w10.heap.size w10 w12 := HBC.out.grown hgD HBC.out.size (fun q hq => (HO0.out.lt q hq).1)
    have hx := HXw10.out.next bad HXw10.out.lt
    have y1 := hx.at' 1 _ rfl
    have z1 := hx.fz 1
    obtain ⟨w13, hw13⟩ : ∃ U, w12.setCell ⟨N10, 1, none⟩ (.slice aI (reduced x l bl).ins.length cI) = U := ⟨_, rfl⟩
    have HXw13 := Lib.hid (hx.set 1 (.slice aI (reduced x l bl).ins.length cI))
    rw [hw13] at HXw13
    have HBw13 := Lib.hid ((HBw10.out.trans (bad.mono HBw10.out.size)).setCell (p := ⟨N10, 1, none⟩) HGE.out (.slice aI (reduced x l bl).ins.length cI))
    rw [hw13] at HBw13
    have HOBw13 := Lib.hid (ownsRow_setCell_other (own_next HOBw10.out bad) (a := ⟨N10, 1, none⟩) (fun e => HNB.out (by first | exact e | exact e.symm)) (.slice aI (reduced x l bl).ins.length cI))
    rw [hw13] at HOBw13
    have HOCw13 := Lib.hid (ownsRow_setCell_other (own_next HOCw10.out bad) (a := ⟨N10, 1, none⟩) (fun e => HNC.out (by first | exact e | exact e.symm)) (.slice aI (reduced x l bl).ins.length cI))
    rw [hw13] at HOCw13
    have HNI : Hid ((Value.slice aI (reduced x l bl).ins.length cI).ownBlock ≠ some N10) := own_not' hoD (Nat.lt_of_lt_of_le HXw10.out.lt (Nat.le_refl _))
    have HOIw13 := Lib.hid (ownsRow_setCell_other hoD (a := ⟨N10, 1, none⟩) (fun e => HNI.out (by first | exact e | exact e.symm)) (.slice aI (reduced x l bl).ins.length cI))
    rw [hw13] at HOIw13
    clear hoD hgD bad hx HO0 HBC
    have m2 := (HC2.out.next (HB5.out.trans (HBw13.out.mono HB5.out.size)) (Nat.le_refl _)).k2
    have HCLOL := Lib.hid (CloneT.latches w13 a2 x.lats.length c2 (tris x.lats) (HIN.out w13 (HB12.out.trans ((HB5.out.trans (HBw13.out.mono HB5.out.size)).mono HB12.out.size))).lats (tris_one _) (tris_row _) (by have := HSZ.out; omega))
    go_wp2_with fail
    clear m2
    with_reducible refine HCLOL.out.mono ?_
    rintro e w14 ⟨aL, cL, rfl, ho, hb⟩
    have hWb : Below W5.heap.size W5 w14 := HBw13.out.trans (hb.mono HBw13.out.size)
    have HDELL := Lib.hid (DelL.del_own w14 w13.heap.size aL x.lats.length cL x.lats rfl ho hb.size 27 #[.pointer (some ⟨w4.heap.size, 0, none⟩)] (fun t => !SetI.inX X (var t.1)) eg_r2 (fun W hgW t ht => by
      have hBW : Below W5.heap.size W5 W := hWb.grown hgW hWb.size (fun q hq => Nat.le_trans HBw13.out.size (ho.lt q hq).1)
      exact red2_any W w4.heap.size mb X.length X (HX5.out.next hBW HX5.out.lt).lt ((HX5.out.next hBW HX5.out.lt).at' 0 _ rfl) (HSET.out.next hBW) t (HW.out.lats t ht).1.1 (HW.out.lats t ht).1.2))
    rw [HFL.out] at HDELL
    have HO0 := Lib.hid ho
    have HBC := Lib.hid hb
    clear ho hb hWb
    go_wp2_with fail
    with_reducible refine HDELL.out.mono ?_
    rintro e w15 ⟨nL, rfl, hnL, hoD, hgD⟩
    subst hnL
    have bad : Below w13.heap.size w13 w15 := HBC.out.grown hgD HBC.out.size (fun q hq => (HO0.out.lt q hq).1)
    have hx := HXw13.out.next bad HXw13.out.lt
    have y2 := hx.at' 2 _ rfl
    have z2 := hx.fz 2
    obtain ⟨w16, hw16⟩ : ∃ U, w15.setCell ⟨N10, 2, none⟩ (.slice aL (reduced x l bl).lats.length cL) = U := ⟨_, rfl⟩
    have HXw16 := Lib.hid (hx.set 2 (.slice aL (reduced x l bl).lats.length cL))
    rw [hw16] at HXw16
    have HBw16 := Lib.hid ((HBw13.out.trans (bad.mono HBw13.out.size)).setCell (p := ⟨N10, 2, none⟩) HGE.out (.slice aL (reduced x l bl).lats.length cL))
    rw [hw16] at HBw16
    have HOBw16 := Lib.hid (ownsRow_setCell_other (own_next HOBw13.out bad) (a := ⟨N10, 2, none⟩) (fun e => HNB.out (by first | exact e | exact e.symm)) (.slice aL (reduced x l bl).lats.length cL))
    rw [hw16] at HOBw16
    have HOCw16 := Lib.hid (ownsRow_setCell_other (own_next HOCw13.out bad) (a := ⟨N10, 2, none⟩) (fun e => HNC.out (by first | exact e | exact e.symm)) (.slice aL (reduced x l bl).lats.length cL))
    rw [hw16] at HOCw16
    have HOIw16 := Lib.hid (ownsRow_setCell_other (own_next HOIw13.out bad) (a := ⟨N10, 2, none⟩) (fun e => HNI.out (by first | exact e | exact e.symm)) (.slice aL (reduced x l bl).lats.length cL))
    rw [hw16] at HOIw16
    have HNL : Hid ((Value.slice aL (reduced x l bl).lats.length cL).ownBlock ≠ some N10) := own_not' hoD (Nat.lt_of_lt_of_le HXw13.out.lt (Nat.le_refl _))
    have HOLw16 := Lib.hid (ownsRow_setCell_other hoD (a := ⟨N10, 2, none⟩) (fun e => HNL.out (by first | exact e | exact e.symm)) (.slice aL (reduced x l bl).lats.length cL))
    rw [hw16] at HOLw16
    clear hoD hgD bad hx HO0 HBC
    have m6 := (HC2.out.next (HB5.out.trans (HBw16.out.mono HB5.out.size)) (Nat.le_refl _)).k6
    have HCLOA := Lib.hid (CloneT.ands w16 a6 x.ands.length c6 (tris x.ands) (HIN.out w16 (HB12.out.trans ((HB5.out.trans (HBw16.out.mono HB5.out.size)).mono HB12.out.size))).ands (tris_one _) (tris_row _) (by have := HZ3.out; omega))
    go_wp2_with fail
    clear m6
    with_reducible refine HCLOA.out.mono ?_
    rintro e w17 ⟨aA, cA, rfl, ho, hb⟩
    have hWb : Below W5.heap.size W5 w17 := HBw16.out.trans (hb.mono HBw16.out.size)
    have HDELA := Lib.hid (DelA.del_own w17 w16.heap.size aA x.ands.length cA x.ands rfl ho hb.size 30 #[.pointer (some ⟨w4.heap.size, 0, none⟩)] (fun t => !SetI.inX X (var t.1)) eg_r3 (fun W hgW t ht => by
      have hBW : Below W5.heap.size W5 W := hWb.grown hgW hWb.size (fun q hq => Nat.le_trans HBw16.out.size (ho.lt q hq).1)
      exact red3_any W w4.heap.size mb X.length X (HX5.out.next hBW HX5.out.lt).lt ((HX5.out.next hBW HX5.out.lt).at' 0 _ rfl) (HSET.out.next hBW) t (HW.out.ands t ht).1.1 (HW.out.ands t ht).1.2))
    rw [HFA.out] at HDELA
    have HO0 := Lib.hid ho
    have HBC := Lib.hid hb
    clear ho hb hWb
    go_wp2_with fail
    with_reducible refine HDELA.out.mono ?_
    rintro e w18 ⟨nA, rfl, hnA, hoD, hgD⟩
    subst hnA
    have bad : Below w16.heap.size w16 w18 := HBC.out.grown hgD HBC.out.size (fun q hq => (HO0.out.lt q hq).1)
    have hx := HXw16.out.next bad HXw16.out.lt
    have y6 := hx.at' 6 _ rfl
    have z6 := hx.fz 6
    obtain ⟨w19, hw19⟩ : ∃ U, w18.setCell ⟨N10, 6, none⟩ (.slice aA (reduced x l bl).ands.length cA) = U := ⟨_, rfl⟩
    have HXw19 := Lib.hid (hx.set 6 (.slice aA (reduced x l bl).ands.length cA))
    rw [hw19] at HXw19
    have HBw19 := Lib.hid ((HBw16.out.trans (bad.mono HBw16.out.size)).setCell (p := ⟨N10, 6, none⟩) HGE.out (.slice aA (reduced x l bl).ands.length cA))
    rw [hw19] at HBw19
    have HOBw19 := Lib.hid (ownsRow_setCell_other (own_next HOBw16.out bad) (a := ⟨N10, 6, none⟩) (fun e => HNB.out (by first | exact e | exact e.symm)) (.slice aA (reduced x l bl).ands.length cA))
    rw [hw19] at HOBw19
    have HOCw19 := Lib.hid (ownsRow_setCell_other (own_next HOCw16.out bad) (a := ⟨N10, 6, none⟩) (fun e => HNC.out (by first | exact e | exact e.symm)) (.slice aA (reduced x l bl).ands.length cA))
    rw [hw19] at HOCw19
    have HOIw19 := Lib.hid (ownsRow_setCell_other (own_next HOIw16.out bad) (a := ⟨N10, 6, none⟩) (fun e => HNI.out (by first | exact e | exact e.symm)) (.slice aA (reduced x l bl).ands.length cA))
    rw [hw19] at HOIw19
    have HOLw19 := Lib.hid (ownsRow_setCell_other (own_next HOLw16.out bad) (a := ⟨N10, 6, none⟩) (fun e => HNL.out (by first | exact e | exact e.symm)) (.slice aA (reduced x l bl).ands.length cA))
    rw [hw19] at HOLw19
    have HNA : Hid ((Value.slice aA (reduced x l bl).ands.length cA).ownBlock ≠ some N10) := own_not' hoD (Nat.lt_of_lt_of_le HXw16.out.lt (Nat.le_refl _))
    have HOAw19 := Lib.hid (ownsRow_setCell_other hoD (a := ⟨N10, 6, none⟩) (fun e => HNA.out (by first | exact e | exact e.symm)) (.slice aA (reduced x l bl).ands.length cA))
    rw [hw19] at HOAw19
    clear hoD hgD bad hx HO0 HBC
    have hx : BoxN N10 [.int .i64 x.max, .slice aI (reduced x l bl).ins.length cI, .slice aL (reduced x l bl).lats.length cL, .slice none 0 0, .slice (some ⟨gB, 0, none⟩) 1 1, .slice aC x.invs.length cC, .slice aA (reduced x l bl).ands.length cA, .slice none 0 0] w19 := HXw19.out
    have m0 := hx.at' 0 _ rfl
    have m1 := hx.at' 1 _ rfl
    have m2 := hx.at' 2 _ rfl
    have m3 := hx.at' 3 _ rfl
    have m4 := hx.at' 4 _ rfl
    have m5 := hx.at' 5 _ rfl
    have m6 := hx.at' 6 _ rfl
    have m7 := hx.at' 7 _ rfl
    have hWR : Below W2.heap.size W2 w19 := HB5.out.trans (HBw19.out.mono HB5.out.size)
    have hr := HX2.out.next hWR HX2.out.lt
    clear y1 z1 y2 z2
    have r0 := hr.at' 0 _ rfl
    have r1 := hr.at' 1 _ rfl
    have r2 := hr.at' 2 _ rfl
    have r3 := hr.at' 3 _ rfl
    have r4 := hr.at' 4 _ rfl
    have r5 := hr.at' 5 _ rfl
    have r6 := hr.at' 6 _ rfl
    have r7 := hr.at' 7 _ rfl
    have rz0 := hr.fz 0
    have rz1 := hr.fz 1
    have rz2 := hr.fz 2
    have rz3 := hr.fz 3
    have rz4 := hr.fz 4
    have rz5 := hr.fz 5
    have rz6 := hr.fz 6
    have rz7 := hr.fz 7
    have HWR := Lib.hid hWR
    clear hx hr hWR
    go_wp2_with fail
    refine bodyPost_ret (v := .tuple #[.agg #[.int .i64 x.max, .slice aI (reduced x l bl).ins.length cI, .slice aL (reduced x l bl).lats.length cL, .slice none 0 0, .slice (some ⟨gB, 0, none⟩) 1 1, .slice aC x.invs.length cC, .slice aA (reduced x l bl).ands.length cA, .slice none 0 0], .int .i64 0]) (by simp [results, Tryz.results7, go_sem, r0, r1, r2, r3, r4, r5, r6, r7]) rfl ?_
    have hW15 : W1.heap.size < W5.heap.size := Nat.lt_of_lt_of_le HX2.out.lt HB5.out.size
    have gI := own_mono HOIw19.out HBw10.out.size
    rw [DelN.tris_flat] at gI
    have gL := own_mono HOLw19.out HBw13.out.size
    have gA := own_mono HOAw19.out HBw16.out.size
    have fI := own_set8 gI (own_not' gI hW15) (.int .i64 x.max) (.slice aI (reduced x l bl).ins.length cI) (.slice aL (reduced x l bl).lats.length cL) (.slice none 0 0) (.slice (some ⟨gB, 0, none⟩) 1 1) (.slice aC x.invs.length cC) (.slice aA (reduced x l bl).ands.length cA) (.slice none 0 0)
    have fL := own_set8 gL (own_not' gL hW15) (.int .i64 x.max) (.slice aI (reduced x l bl).ins.length cI) (.slice aL (reduced x l bl).lats.length cL) (.slice none 0 0) (.slice (some ⟨gB, 0, none⟩) 1 1) (.slice aC x.invs.length cC) (.slice aA (reduced x l bl).ands.length cA) (.slice none 0 0)
    have fA := own_set8 gA (own_not' gA hW15) (.int .i64 x.max) (.slice aI (reduced x l bl).ins.length cI) (.slice aL (reduced x l bl).lats.length cL) (.slice none 0 0) (.slice (some ⟨gB, 0, none⟩) 1 1) (.slice aC x.invs.length cC) (.slice aA (reduced x l bl).ands.length cA) (.slice none 0 0)
    have fB := own_set8 HOBw19.out (own_not' HOBw19.out hW15) (.int .i64 x.max) (.slice aI (reduced x l bl).ins.length cI) (.slice aL (reduced x l bl).lats.length cL) (.slice none 0 0) (.slice (some ⟨gB, 0, none⟩) 1 1) (.slice aC x.invs.length cC) (.slice aA (reduced x l bl).ands.length cA) (.slice none 0 0)
    have fC := own_set8 HOCw19.out (own_not' HOCw19.out hW15) (.int .i64 x.max) (.slice aI (reduced x l bl).ins.length cI) (.slice aL (reduced x l bl).lats.length cL) (.slice none 0 0) (.slice (some ⟨gB, 0, none⟩) 1 1) (.slice aC x.invs.length cC) (.slice aA (reduced x l bl).ands.length cA) (.slice none 0 0)
    have hfin := below_set8 (N := W1.heap.size) (HB12.out.trans (HWR.out.mono HB12.out.size)) (Nat.le_of_lt HLT1.out) (.int .i64 x.max) (.slice aI (reduced x l bl).ins.length cI) (.slice aL (reduced x l bl).lats.length cL) (.slice none 0 0) (.slice (some ⟨gB, 0, none⟩) 1 1) (.slice aC x.invs.length cC) (.slice aA (reduced x l bl).ands.length cA) (.slice none 0 0)
    exact ⟨⟨aI, cI, aL, cL, none, 0, some ⟨gB, 0, none⟩, 1, aC, cC, aA, cA, none, 0⟩, rfl, ⟨own_sl' fI, own_slT' (tris_row _) (tris_len _) fL, Sl.nil _, own_sl' fB, own_sl' fC, own_slT' (tris_row _) (tris_len _) fA, slT_none _ 3⟩, hfin⟩
end Coi
end Go.Proofs.YtninglnchengeaaGreat

/-
  slices.Sorted(maps.Keys(m)) at map[int]bool: the keys, sorted.
-/
namespace Go.Proofs.YtninglnchengeaaGreat
open Go.RowKit Base
set_option linter.unusedVariables false
namespace SortedN
open SortedK
open Go.Maps Go.Sort Go.Shelf

def keysN_ren : Go.Shelf.Ren := ⟨fun | 7 => 19 | 10 => 48 | n => n, fun | 23 => 54 | 26 => 3 | 3 => 4 | 28 => 51 | 0 => 0 | 27 => 50 | 33 => 58 | 4 => 4 | n => n, fun | n => n⟩
theorem keysN : Go.Proofs.SlLaysZI.n7 Tryz.prog keysN_ren := {
  mixed := by kernel_rfl
  f7 := ⟨Tryz.f19.name, by decide, Tryz.func19.trans (congrArg some (by kernel_rfl))⟩
  f10 := ⟨Tryz.f48.name, by decide, Tryz.func48.trans (congrArg some (by kernel_rfl))⟩
  t0 := Tryz.underlying0
  a0 := Tryz.isAgg0
  z0 := Tryz.sizeOf0
  v0 := Tryz.zeroValue0
  t4 := Tryz.underlying4
  a4 := Tryz.isAgg4
  z4 := Tryz.sizeOf4
  v4 := Tryz.zeroValue4
  t23 := Tryz.underlying54
  a23 := Tryz.isAgg54
  z23 := Tryz.sizeOf54
  v23 := Tryz.zeroValue54
  t26 := Tryz.underlying3
  a26 := Tryz.isAgg3
  z26 := Tryz.sizeOf3
  v26 := Tryz.zeroValue3
  t27 := Tryz.underlying50
  a27 := Tryz.isAgg50
  z27 := Tryz.sizeOf50
  v27 := Tryz.zeroValue50
  t28 := Tryz.underlying51
  a28 := Tryz.isAgg51
  z28 := Tryz.sizeOf51
  v28 := Tryz.zeroValue51
  t33 := Tryz.underlying58
  a33 := Tryz.isAgg58
  z33 := Tryz.sizeOf58
  v33 := Tryz.zeroValue58 }

theorem keys_any (mb : Option Nat) (w : World) : Calls Tryz.prog 19 #[.map mb] w fun e w' => e = .returned (.func (.func 48) #[] #[.pointer (some ⟨w.heap.size, 0, none⟩)]) ∧ w' = w.alloc (.cells #[.map mb] 54) :=
  (callsIn_wide (n := 5)).1 (AnyZI.keys_in keysN Fence.wide 5 trivial rfl mb w)

set_option maxHeartbeats 1000000 in
theorem sorted_any {H : Type} (b nn : Nat) (D0 : DataW H) (R : Value → Option (DataW H × List MemPlace)) (w : World) (hown : w.ownsMap Tryz.prog 3 R b nn D0) (hmax : Maps.size D0 ≤ maxLen) (hbytes : Maps.size D0 * 8 ≤ 140737488355328) :
    Calls Tryz.prog 18 #[.func (.func 48) #[] #[.pointer (some ⟨w.heap.size, 0, none⟩)]] (w.alloc (.cells #[.map (some b)] 54)) fun e w' => ∃ (v : Value) (ss : List Int), e = .returned v ∧ ss.Perm (intKeys D0) ∧
      w'.ownsRow w.heap.size 3 1 v ss.length ((ss.mergeSort (fun x y => decide (x ≤ y))).map encZ) ∧ (v = .slice none 0 0 ↔ ss = []) ∧ Below w.heap.size w w' := by
  refine (callsIn_wide (n := 5)).1 ?_
  have hbl := hown.lt
  have hseq : SeqGives Fence.wide 2 Tryz.prog 48 #[.pointer (some ⟨w.heap.size, 0, none⟩)] encZ (fun ss => ss.Perm (intKeys D0)) (Maps.size D0) (w.alloc (.cells #[.map (some b)] 54)) :=
    AnyZI.keys_gives (ρ := keysN_ren) { keysN with } Fence.wide _ trivial rfl (by omega) w.heap.size b nn D0 _ (by simp) (by simp) (by
      obtain ⟨es, clock, hb, Ft, hs, hD⟩ := hown
      exact ⟨es, clock, (Below.heap_alloc _ _ b hbl).trans hb, Ft, hs, hD⟩)
  have cS := AnyZI.sorted_in sortedA Fence.wide 5 trivial trivial trivial trivial rfl (by omega) (sortsA _) (enters_of Tryz.func47 (by kernel_rfl) rfl) 48 #[.pointer (some ⟨w.heap.size, 0, none⟩)] trivial (enters_of Tryz.func48 (by kernel_rfl) rfl) _ _ hmax hbytes _ hseq
  refine cS.mono ?_
  rintro e w' ⟨v, ss, he, hS, hrow, hnil, hb⟩
  exact ⟨v, ss, he, hS, ownsRow_base_a hrow (by simp), hnil, ((Below.refl _ w).alloc (Nat.le_refl _) _).trans (hb.mono (by simp))⟩

end SortedN
end Go.Proofs.YtninglnchengeaaGreat

/-
  interlockplain.Ints: are two lists of integers one?
-/
namespace Go.Proofs.YtninglnchengeaaGreat
open Go.RowKit Base
set_option linter.unusedVariables false
namespace Plain

theorem take_all {xs ys : List Int} (h : xs.length = ys.length) : xs.take xs.length = ys.take xs.length → xs = ys := by
  intro e
  rw [List.take_length, h, List.take_length] at e
  exact e

theorem take_more {xs ys : List Int} {k : Nat} (hx : k < xs.length) (hy : k < ys.length) (h : xs.take k = ys.take k) (e : xs[k] = ys[k]) : xs.take (k + 1) = ys.take (k + 1) := by
  rw [List.take_succ_eq_append_getElem hx, List.take_succ_eq_append_getElem hy, h, e]

set_option maxHeartbeats 1000000 in
theorem ints_any (w : World) (a1 a2 : Option Addr) (n1 n2 c1 c2 : Nat) (xs ys : List Int) (h1 : Sl w a1 n1 c1 (ints xs)) (h2 : Sl w a2 n2 c2 (ints ys)) :
    Calls Tryz.prog 13 #[.slice a1 n1 c1, .slice a2 n2 c2] w fun e w' => e = .returned (.bool (decide (xs = ys))) ∧ Below w.heap.size w w' := by
  have l1 : xs.length = n1 := by have := h1.len; rw [ints_len] at this; exact this
  have l2 : ys.length = n2 := by have := h2.len; rw [ints_len] at this; exact this
  have hb1 := h1.cap
  have hb2 := h1.big
  by_cases hn : n1 = n2
  · subst hn
    subst l1
    have L2 := Lib.hid l2
    have l2' : ys.length ≤ xs.length := by omega
    have l2'' : xs.length ≤ ys.length := by omega
    clear l2
    go_enter Tryz.func13, Tryz.ntmps13
    go_wp2
    go_loopw [5] (fun i wr => ∃ k : Nat, k ≤ xs.length ∧ i = .int .i64 k ∧ Hid (xs.take k = ys.take k) ∧ Below w.heap.size w wr) (fun i _ => xs.length - (intOf i).toNat)
    case atStart => exact ⟨0, Nat.zero_le _, rfl, rfl, Below.refl _ _⟩
    case round =>
      obtain ⟨k, hk, rfl, hI, hbr⟩ := hrel
      by_cases hlt : k < xs.length
      · obtain ⟨b, o, hx, rfl, hbs, hc⟩ := h1.int hlt
        obtain ⟨b', o', hy, rfl, hbs', hc'⟩ := h2.int hlt
        have hcr : wr.cell? ⟨b, o + k, none⟩ = some (.int .i64 xs[k]) := (hbr.cell (p := ⟨b, o + k, none⟩) hbs).trans hc
        have hcr' : wr.cell? ⟨b', o' + k, none⟩ = some (.int .i64 ys[k]) := (hbr.cell (p := ⟨b', o' + k, none⟩) hbs').trans hc'
        clear hc hc'
        generalize hp : xs[k] = p at *
        generalize hq : ys[k] = q at *
        have HP := Lib.hid hp
        have HQ := Lib.hid hq
        clear hp hq
        by_cases hpq : p = q
        · have hv : (p != q) = false := by simp [hpq]
          have E := Lib.hid hpq
          clear hpq
          go_wp2_with fail
          go_quiet (fail)
          go_wp2
          go_roundw
          case rel => exact ⟨k + 1, by omega, by go_num, take_more hx hy hI.out (by rw [HP.out, HQ.out, E.out]), below_drewN hbr _⟩
          case measure => simp [intOf]; omega
        · have hv : (p != q) = true := by simp [hpq]
          have E := Lib.hid hpq
          clear hpq
          go_wp2_with fail
          go_quiet (fail)
          go_wp2
          go_ret
          refine ⟨ret_bool ?_, below_drewN hbr _⟩
          symm
          apply decide_eq_false
          intro h
          apply E.out
          rw [← HP.out, ← HQ.out]
          subst h
          rfl
      · go_wp2
        go_ret
        refine ⟨ret_bool ?_, hbr⟩
        symm
        apply decide_eq_true
        have hk' : k = xs.length := by omega
        subst hk'
        exact take_all L2.out.symm hI.out
  · have hne : ((n1 : Int) != (n2 : Int)) = true := by simp; omega
    have hne' : ((n1 : Int) == (n2 : Int)) = false := by simp; omega
    have hd : decide (xs = ys) = false := decide_eq_false (fun h => hn (by rw [← l1, ← l2, h]))
    have HD := Lib.hid hd
    clear hd
    go_enter Tryz.func13, Tryz.ntmps13
    go_wp2
    go_ret
    exact ⟨ret_bool HD.out.symm, Below.refl _ _⟩
end Plain
end Go.Proofs.YtninglnchengeaaGreat

/-
  coi.Needed; interlocklaw35's alive.
-/
namespace Go.Proofs.YtninglnchengeaaGreat
open Go.RowKit Base Go.Maps
set_option linter.unusedVariables false
set_option linter.unusedSimpArgs false
namespace Coi
open Circuit StrashP

set_option maxRecDepth 8000 in
set_option maxHeartbeats 4000000 in
theorem needed_ok (w : World) (x : Circ) (p : At) (hin : InCirc w x p) (hw : WfC x) (aA : Option Addr) (n cA : Nat) (vals : List Value) (A : List (List Int)) (hA : Sl2 w aA n cA vals A) (hA64 : ∀ y ∈ A.flatten, Circuit.I64 y) (k : Nat) (hk : k < x.bads.length) (hok : askE x A k = 0)
    (hz1 : n ≤ 4000000) (hz2 : A.flatten.length ≤ 4000000) (hz3 : x.ands.length ≤ 4000000) :
    Calls Tryz.prog 6 #[.agg (cells x p), .slice aA n cA, .int .i64 k] w fun e w' => ∃ a' c' T, e = .returned (.tuple #[.slice a' T.length c', .int .i64 0]) ∧ Sl w' a' T.length c' (ints T) ∧ T.Pairwise (· < ·) ∧ (∀ v, v ∈ T ↔ v ≠ 0 ∧ NR x (A.flatten ++ x.invs ++ [x.bads[k]]) v) ∧ Below w.heap.size w w' := by
  obtain ⟨W1, hW1⟩ : ∃ W1, w.alloc (.cells (cells x p) 27) = W1 := ⟨_, rfl⟩
  obtain ⟨hb1, hc1⟩ := cbox_new w x p W1 hW1
  have HB1 := Lib.hid hb1
  have hck := (askE_zero hok).1
  have has := asked_any W1 x p (hin.next hb1) hw aA n cA vals A (hA.next hb1) hA64 k (by omega) (by have := hck.1.2.2.2.2.2.1; omega)
  rw [hok] at has
  have HAS := Lib.hid has
  have HBX := Lib.hid (And.intro hz2 (And.intro hz3 (And.intro hck.1.2.2.2.2.2.2 hck.1.2.2.2.1)))
  have HCN := Lib.hid (fun (U : World) (hU : Below w.heap.size w U) => counted_any U x p (hin.next hU) hw aA n cA vals A (hA.next hU) hA64 k hk hz1 hz2 hz3 (by have := hck.1.2.2.2.2.2.2; omega) (by have := hck.1.2.2.2.1; omega))
  have HCB := Lib.hid (fun (U : World) (hU : Below W1.heap.size W1 U) => hc1.next hU (Nat.le_refl _))
  have k0 := hc1.k0
  have k1 := hc1.k1
  have k2 := hc1.k2
  have k3 := hc1.k3
  have k4 := hc1.k4
  have k5 := hc1.k5
  have k6 := hc1.k6
  have k7 := hc1.k7
  generalize x.bads[k] = bl at *
  obtain ⟨l, hl⟩ : ∃ l, A.flatten ++ x.invs ++ [bl] = l := ⟨_, rfl⟩
  simp only [hl] at HCN ⊢
  have HLL : Hid (l.length = A.flatten.length + x.invs.length + 1) := by show _ = _; rw [← hl]; simp only [List.length_append, List.length_singleton]
  obtain ⟨a1, c1, a2, c2, a3, c3, a4, c4, a5, c5, a6, c6, a7, c7⟩ := p
  simp only [cells] at *
  clear hin hw hA hA64 hb1 hc1 hok hck has hz1 hz2 hz3 hl
  go_enter Tryz.func6, Tryz.ntmps6
  go_wp2_with fail
  with_reducible refine HAS.out.mono ?_
  rintro e w2 ⟨rfl, hb2⟩
  have hb12 := HB1.out.trans (hb2.mono HB1.out.size)
  have HB12 := Lib.hid hb12
  have HCN2 := Lib.hid (HCN.out w2 hb12)
  have hcw := HCB.out w2 hb2
  clear k0 k1 k2 k3 k4 k5 k6 k7 hW1
  have k0 := hcw.k0
  have k1 := hcw.k1
  have k2 := hcw.k2
  have k3 := hcw.k3
  have k4 := hcw.k4
  have k5 := hcw.k5
  have k6 := hcw.k6
  have k7 := hcw.k7
  clear hb2 hb12 hcw
  go_wp2_with fail
  with_reducible refine HCN2.out.mono ?_
  rintro e w3 ⟨mb, X, rfl, hmb, hset, hnd, hX, hb3⟩
  have hfew : X.length ≤ 100000000 := by
    have h := nodup_len hnd (C := uni x l) (fun v hv => nr_uni ((hX v).1 hv).2)
    unfold uni at h
    simp only [List.length_append, List.length_map] at h
    have h1 := HBX.out
    have h2 := HLL.out
    omega
  obtain ⟨D, hown, hD1, hD2, hD3⟩ := hset
  have hds := SetI.keys_size hD3
  have HKS := Lib.hid (fun (U : World) => SortedN.keys_any (some mb) U)
  have HSS := Lib.hid (SortedN.sorted_any mb X.length D (plainElem Tryz.prog 4) w3 hown (by rw [hds]; unfold maxLen; omega) (by rw [hds]; omega))
  have hpm : (intKeys D).Perm X := by obtain ⟨es, rfl, _, h⟩ := hD3; exact h
  have HPM := Lib.hid hpm
  have HND := Lib.hid hnd
  have HX := Lib.hid hX
  have HB3 := Lib.hid (HB12.out.trans (hb3.mono HB12.out.size))
  clear hfew hds hown hD1 hD2 hD3 hmb hnd hX hb3 hpm k0 k1 k2 k3 k4 k5 k6 k7
  go_wp2_with fail
  with_reducible refine (HKS.out _).mono ?_
  rintro e w5 ⟨rfl, rfl⟩
  go_wp2_with fail
  with_reducible refine HSS.out.mono ?_
  rintro e w6 ⟨v, ss, rfl, hperm, hrow, hnil, hb⟩
  obtain ⟨a9, c9, rfl, hs9⟩ := own_sl hrow
  have HS9 := Lib.hid hs9
  have HBB := Lib.hid hb
  clear hrow hb hnil hs9
  go_wp2_with fail
  obtain ⟨hs1, hs2, hs3⟩ := sorted_strict (hperm.trans HPM.out) HND.out
  refine bodyPost_ret (v := .tuple #[.slice a9 ss.length c9, .int .i64 0]) (by simp [results, Tryz.results6, go_sem]) rfl ?_
  refine ⟨a9, c9, ss.mergeSort (fun x y => decide (x ≤ y)), by rw [hs3], ?_, hs1, fun v => (hs2 v).trans (HX.out v), HB3.out.trans (HBB.out.mono HB3.out.size)⟩
  rw [hs3]
  exact HS9.out
end Coi
end Go.Proofs.YtninglnchengeaaGreat

/-
  interlocklaw35's alive.
-/
namespace Go.Proofs.YtninglnchengeaaGreat
open Go.RowKit Base Go.Maps
set_option linter.unusedVariables false
set_option linter.unusedSimpArgs false
namespace Coi
open Circuit StrashP

def x1 : Circ := ⟨1, [2], [], [], [2], [], [], []⟩
theorem x1_ok : CheckOk x1 := by
  refine ⟨by unfold Few x1; simp, ⟨?_, ?_, ?_⟩, ?_, ?_, ?_, ?_, ?_, ?_⟩
  · refine StrashP.ownOk_iff.2 ⟨fun m hm => ?_, ?_⟩
    · have : m = 2 := by unfold ownL x1 at hm; simpa using hm
      subst this
      exact ⟨by decide, by decide, by decide⟩
    · show ([2].map var).Nodup
      simp
  · intro t ht; exact absurd ht (by unfold x1; simp)
  · intro j hj
    have : (0 : Nat) > j + 1 := hj
    omega
  · intro t ht; exact absurd ht (by unfold x1; simp)
  · intro t ht; exact absurd ht (by unfold x1; simp)
  · intro t ht; exact absurd ht (by unfold x1; simp)
  · intro t ht
    have : t = 2 := by unfold x1 at ht; simpa using ht
    subst this
    exact ⟨by decide, Or.inr (by show var 2 ∈ [var 2]; simp)⟩
  · intro t ht; exact absurd ht (by unfold x1; simp)
  · intro j hj; exact absurd hj (by unfold x1; simp)
theorem x1_ask : askE x1 [] ((0 : Nat) : Int) = 0 := askE_ok x1_ok (by show ¬ (_ ∨ ((([2] : List Int).length : Nat) : Int) ≤ _); simp) rfl
theorem x1_nr (v : Int) : (v ≠ 0 ∧ NR x1 [2] v) ↔ v = 1 := by
  constructor
  · rintro ⟨h0, h⟩
    cases h with
    | lit ht => rw [List.mem_singleton.1 ht]; decide
    | left _ _ hg => exact absurd (gate_mem hg) (by show _ ∉ ([] : List Tri); simp)
    | right _ _ hg => exact absurd (gate_mem hg) (by show _ ∉ ([] : List Tri); simp)
    | next _ _ ht => exact absurd ht (by show _ ∉ ([] : List Tri); simp)
  · rintro rfl
    refine ⟨by decide, ?_⟩
    have h := NR.lit (x := x1) (l := [2]) (t := 2) (by simp)
    exact h
theorem only_one {T : List Int} (hp : T.Pairwise (· < ·)) (hm : ∀ v, v ∈ T ↔ v = 1) : T = [1] := by
  cases T with
  | nil => exact absurd ((hm 1).2 rfl) (by simp)
  | cons y r =>
    have hy := (hm y).1 List.mem_cons_self
    subst hy
    rw [List.pairwise_cons] at hp
    cases r with
    | nil => rfl
    | cons z q =>
      have hz := (hm z).1 (by simp)
      have := hp.1 z List.mem_cons_self
      omega

set_option maxRecDepth 8000 in
set_option maxHeartbeats 4000000 in
theorem alive_any (w : World) : Calls Tryz.prog 5 #[] w fun e w' => e = .returned (.bool true) ∧ Below w.heap.size w w' := by
  obtain ⟨W1, hW1⟩ : ∃ U, w.alloc (.cells #[.int .i64 2] 3) = U := ⟨_, rfl⟩
  obtain ⟨W2, hW2⟩ : ∃ U, W1.alloc (.cells #[.int .i64 2] 3) = U := ⟨_, rfl⟩
  have hb1 : Below w.heap.size w W1 := by rw [← hW1]; exact (Below.refl _ _).alloc (Nat.le_refl _) _
  have hb2 : Below W1.heap.size W1 W2 := by rw [← hW2]; exact (Below.refl _ _).alloc (Nat.le_refl _) _
  have hs1 : Sl W1 (some ⟨w.heap.size, 0, none⟩) 1 1 (ints [2]) := by rw [← hW1]; exact sl_new w #[.int .i64 2] 3 1 rfl (by decide)
  have hs2 : Sl W2 (some ⟨W1.heap.size, 0, none⟩) 1 1 (ints [2]) := by rw [← hW2]; exact sl_new W1 #[.int .i64 2] 3 1 rfl (by decide)
  have hT : ∀ k, SlT W2 k none 0 0 [] := fun k => ⟨rfl, Nat.le_refl _, by omega, fun _ => ⟨rfl, rfl⟩, fun i r h => by simp at h⟩
  have hin : InCirc W2 x1 ⟨some ⟨w.heap.size, 0, none⟩, 1, none, 0, none, 0, some ⟨W1.heap.size, 0, none⟩, 1, none, 0, none, 0, none, 0⟩ := ⟨hs1.next hb2, hT 3, Sl.nil _, hs2, Sl.nil _, hT 3, hT 3⟩
  have hw : WfC x1 := ⟨by show Circuit.I64 1; unfold Circuit.I64; omega, fun l hl => by have : l = 2 := (by unfold x1 at hl; simpa using hl); subst this; unfold Circuit.I64; omega, fun t ht => absurd ht (by unfold x1; simp), fun t ht => absurd ht (by unfold x1; simp), fun l hl => by have : l = 2 := (by unfold x1 at hl; simpa using hl); subst this; unfold Circuit.I64; omega, fun t ht => absurd ht (by unfold x1; simp), fun t ht => absurd ht (by unfold x1; simp), fun t ht => absurd ht (by unfold x1; simp)⟩
  have HN0 := needed_ok W2 x1 _ hin hw none 0 0 [] [] (Sl2.nil _) (fun y hy => by simp at hy) 0 (by show 0 < ([2] : List Int).length; simp) x1_ask (by omega) (by simp) (by show ([] : List Tri).length ≤ _; simp)
  simp only [cells] at HN0
  have HN := Lib.hid HN0
  have HB := Lib.hid (hb1.trans (hb2.mono hb1.size))
  clear hb1 hb2 hs1 hs2 hT hin hw HN0
  go_enter Tryz.func5, Tryz.ntmps5
  go_wp2_with fail
  clear hW1 hW2
  refine HN.out.mono ?_
  rintro e w3 ⟨a9, c9, T, rfl, hs9, hp, hm, hb3⟩
  have hT1 : T = [1] := only_one hp (fun v => by rw [hm v]; exact x1_nr v)
  subst hT1
  obtain ⟨W4, hW4⟩ : ∃ U, w3.alloc (.cells #[.int .i64 1] 3) = U := ⟨_, rfl⟩
  have hb4 : Below w3.heap.size w3 W4 := by rw [← hW4]; exact (Below.refl _ _).alloc (Nat.le_refl _) _
  have hs4 : Sl W4 (some ⟨w3.heap.size, 0, none⟩) 1 1 (ints [1]) := by rw [← hW4]; exact sl_new w3 #[.int .i64 1] 3 1 rfl (by decide)
  have HI0 := Plain.ints_any W4 a9 (some ⟨w3.heap.size, 0, none⟩) 1 1 c9 1 [1] [1] (hs9.next hb4) hs4
  rw [decide_eq_true rfl] at HI0
  have HI := Lib.hid HI0
  have HB4 := Lib.hid (HB.out.trans ((hb3.trans (hb4.mono hb3.size)).mono HB.out.size))
  simp only [List.length_singleton]
  clear hs9 hp hm hb3 hb4 hs4 HI0
  go_wp2_with fail
  with_reducible refine HI.out.mono ?_
  rintro e w5 ⟨rfl, hb5⟩
  go_wp2_with fail
  go_ret
  exact ⟨rfl, HB4.out.trans (hb5.mono HB4.out.size)⟩
end Coi
end Go.Proofs.YtninglnchengeaaGreat

/-
  coi.Needed, refused.
-/
namespace Go.Proofs.YtninglnchengeaaGreat
open Go.RowKit Base Go.Maps
set_option linter.unusedVariables false
set_option linter.unusedSimpArgs false
namespace Coi
open Circuit StrashP

set_option maxRecDepth 8000 in
set_option maxHeartbeats 4000000 in
theorem needed_no (w : World) (x : Circ) (p : At) (hin : InCirc w x p) (hw : WfC x) (aA : Option Addr) (n cA : Nat) (vals : List Value) (A : List (List Int)) (hA : Sl2 w aA n cA vals A) (hA64 : ∀ y ∈ A.flatten, Circuit.I64 y) (bad : Int) (hb0 : -9223372036854775808 ≤ bad) (hb1' : bad ≤ 9223372036854775807) (hno : askE x A bad ≠ 0) :
    Calls Tryz.prog 6 #[.agg (cells x p), .slice aA n cA, .int .i64 bad] w fun e w' => e = .returned (.tuple #[.slice none 0 0, .int .i64 (askE x A bad)]) ∧ Below w.heap.size w w' := by
  obtain ⟨W1, hW1⟩ : ∃ W1, w.alloc (.cells (cells x p) 27) = W1 := ⟨_, rfl⟩
  obtain ⟨hb1, hc1⟩ := cbox_new w x p W1 hW1
  have HB1 := Lib.hid hb1
  have HAS := Lib.hid (asked_any W1 x p (hin.next hb1) hw aA n cA vals A (hA.next hb1) hA64 bad hb0 hb1')
  have k0 := hc1.k0
  have k1 := hc1.k1
  have k2 := hc1.k2
  have k3 := hc1.k3
  have k4 := hc1.k4
  have k5 := hc1.k5
  have k6 := hc1.k6
  have k7 := hc1.k7
  obtain ⟨a1, c1, a2, c2, a3, c3, a4, c4, a5, c5, a6, c6, a7, c7⟩ := p
  simp only [cells] at *
  generalize askE x A bad = er at *
  have HNE : Hid ((er != 0) = true) := by show _ = _; simpa using hno
  have hne := HNE.out
  clear hin hw hA hA64 hb1 hc1 hno hb0 hb1'
  go_enter Tryz.func6, Tryz.ntmps6
  go_wp2_with fail
  clear hW1
  with_reducible refine HAS.out.mono ?_
  rintro e w3 ⟨rfl, hb3⟩
  have HB3 := Lib.hid (HB1.out.trans (hb3.mono HB1.out.size))
  clear hb3 k0 k1 k2 k3 k4 k5 k6 k7
  go_wp2_with fail
  refine bodyPost_ret (v := .tuple #[.slice none 0 0, .int .i64 er]) (by simp [results, Tryz.results6, go_sem]) rfl ?_
  exact ⟨rfl, HB3.out⟩
end Coi
end Go.Proofs.YtninglnchengeaaGreat

/-
  slices.Equal of slices of structs, and the reference's of []int: one and the same list.
-/

namespace Go.Proofs.YtninglnchengeaaGreat
open Go.RowKit Base
set_option linter.unusedVariables false
set_option linter.unusedSimpArgs false
namespace EqT

theorem drew_moreR {w wr : World} (h : ∃ m, wr = w.drewN m) (k : Nat) : ∃ m, wr.drewN k = w.drewN m := by
  obtain ⟨m, rfl⟩ := h
  exact ⟨m + k, World.drewN_drewN _ _ _⟩


set_option maxHeartbeats 4000000 in
theorem same (w : World) (a1 a2 : Option Addr) (c1 c2 : Nat) (l : List (Int)) (h1 : Sl w  a1 l.length c1 (ints l)) (h2 : Sl w  a2 l.length c2 (ints l)) :
    Calls Tryz.prog 32 #[.slice a1 l.length c1, .slice a2 l.length c2] w fun e w' => e = .returned (.bool true) ∧ ∃ m, w' = w.drewN m := by
  have hb1 := h1.cap
  have hb2 := h1.big
  have hb3 := h2.cap
  have hb4 := h2.big
  go_enter Tryz.func32, Tryz.ntmps32
  go_wp2
  go_loopw [5] (fun i wr => ∃ k : Nat, k ≤ l.length ∧ i = .int .i64 k ∧ Hid (∃ m, wr = w.drewN m)) (fun i _ => l.length - (intOf i).toNat)
  case atStart => exact ⟨0, Nat.zero_le _, rfl, 0, rfl⟩
  case round =>
    obtain ⟨k, hk, rfl, hdr⟩ := hrel
    have hbr : Below w.heap.size w wr := by obtain ⟨q, rfl⟩ := hdr.out; exact below_drewN (Below.refl _ _) q
    by_cases hlt : k < l.length
    · obtain ⟨b, o, hx, rfl, hbs, d0⟩ := Sl.int h1 hlt
      obtain ⟨b', o', hy, rfl, hbs', e0⟩ := Sl.int h2 hlt
      have r0 := (hbr.cell (p := ⟨b, o + k, none⟩) hbs).trans d0
      have s0 := (hbr.cell (p := ⟨b', o' + k, none⟩) hbs').trans e0
      clear d0 e0
      generalize l[k] = t at *
      clear hx hy

      go_wp2_with fail
      go_quiet (fail)
      go_wp2
      go_roundw
      case rel => exact ⟨k + 1, by omega, by go_num, drew_moreR hdr.out _⟩
      case measure => simp [intOf]; omega
    · go_wp2
      go_ret
      exact ⟨rfl, hdr.out⟩

end EqT
end Go.Proofs.YtninglnchengeaaGreat

/-
  The reference's Same: of one and the same circuit.
-/
namespace Go.Proofs.YtninglnchengeaaGreat
open Go.RowKit Base
set_option linter.unusedVariables false
set_option linter.unusedSimpArgs false
namespace Circuit


set_option maxRecDepth 8000 in
set_option maxHeartbeats 16000000 in
theorem refSame_any (w : World) (x : Circ) (p q : At) (hin : InCirc w x p) (hiq : InCirc w x q) :
    Calls Tryz.prog 10 #[.agg (cells x p), .agg (cells x q)] w fun e w' => e = .returned (.bool true) ∧ Below w.heap.size w w' := by
  obtain ⟨a1, c1, a2, c2, a3, c3, a4, c4, a5, c5, a6, c6, a7, c7⟩ := p
  obtain ⟨b1, d1, b2, d2, b3, d3, b4, d4, b5, d5, b6, d6, b7, d7⟩ := q
  obtain ⟨mx, ins, lats, outs, bads, invs, ands, names⟩ := x
  obtain ⟨i1, i2, i3, i4, i5, i6, i7⟩ := hin
  obtain ⟨j1, j2, j3, j4, j5, j6, j7⟩ := hiq
  simp only [cells] at *
  obtain ⟨W1, hW1⟩ : ∃ W1, w.alloc (.cells #[.int .i64 mx, .slice a1 ins.length c1, .slice a2 lats.length c2, .slice a3 outs.length c3, .slice a4 bads.length c4, .slice a5 invs.length c5, .slice a6 ands.length c6, .slice a7 names.length c7] 27) = W1 := ⟨_, rfl⟩
  obtain ⟨W2, hW2⟩ : ∃ W2, W1.alloc (.cells #[.int .i64 mx, .slice b1 ins.length d1, .slice b2 lats.length d2, .slice b3 outs.length d3, .slice b4 bads.length d4, .slice b5 invs.length d5, .slice b6 ands.length d6, .slice b7 names.length d7] 27) = W2 := ⟨_, rfl⟩
  have h1 : Below w.heap.size w W1 := by rw [← hW1]; exact (Below.refl _ _).alloc (Nat.le_refl _) _
  have h2 : Below W1.heap.size W1 W2 := by rw [← hW2]; exact (Below.refl _ _).alloc (Nat.le_refl _) _
  have X1 : BoxN w.heap.size [.int .i64 mx, .slice a1 ins.length c1, .slice a2 lats.length c2, .slice a3 outs.length c3, .slice a4 bads.length c4, .slice a5 invs.length c5, .slice a6 ands.length c6, .slice a7 names.length c7] W2 := by
    have h := BoxN.new w #[.int .i64 mx, .slice a1 ins.length c1, .slice a2 lats.length c2, .slice a3 outs.length c3, .slice a4 bads.length c4, .slice a5 invs.length c5, .slice a6 ands.length c6, .slice a7 names.length c7] 27
    rw [hW1] at h
    exact h.next h2 h.lt
  have X2 : BoxN W1.heap.size [.int .i64 mx, .slice b1 ins.length d1, .slice b2 lats.length d2, .slice b3 outs.length d3, .slice b4 bads.length d4, .slice b5 invs.length d5, .slice b6 ands.length d6, .slice b7 names.length d7] W2 := by
    have h := BoxN.new W1 #[.int .i64 mx, .slice b1 ins.length d1, .slice b2 lats.length d2, .slice b3 outs.length d3, .slice b4 bads.length d4, .slice b5 invs.length d5, .slice b6 ands.length d6, .slice b7 names.length d7] 27
    rw [hW2] at h
    exact h
  have HB2 := Lib.hid (h1.trans (h2.mono h1.size))
  have HX1 := Lib.hid X1
  have HX2 := Lib.hid X2
  have HQ1 := Lib.hid (fun (U : World) (hU : Below W2.heap.size W2 U) => EqT.same U a1 b1 c1 d1 ins (i1.next (HB2.out.trans (hU.mono HB2.out.size))) (j1.next (HB2.out.trans (hU.mono HB2.out.size))))
  have HQ3 := Lib.hid (fun (U : World) (hU : Below W2.heap.size W2 U) => EqT.same U a3 b3 c3 d3 outs (i3.next (HB2.out.trans (hU.mono HB2.out.size))) (j3.next (HB2.out.trans (hU.mono HB2.out.size))))
  have HQ4 := Lib.hid (fun (U : World) (hU : Below W2.heap.size W2 U) => EqT.same U a4 b4 c4 d4 bads (i4.next (HB2.out.trans (hU.mono HB2.out.size))) (j4.next (HB2.out.trans (hU.mono HB2.out.size))))
  have HQ5 := Lib.hid (fun (U : World) (hU : Below W2.heap.size W2 U) => EqT.same U a5 b5 c5 d5 invs (i5.next (HB2.out.trans (hU.mono HB2.out.size))) (j5.next (HB2.out.trans (hU.mono HB2.out.size))))
  have S2 := Lib.hid (fun (U : World) (hU : Below w.heap.size w U) => i2.next hU)
  have R2 := Lib.hid (fun (U : World) (hU : Below w.heap.size w U) => j2.next hU)
  have l2 := i2.cap
  have g2 := i2.big
  have lq2 := j2.cap
  have gq2 := j2.big
  have S6 := Lib.hid (fun (U : World) (hU : Below w.heap.size w U) => i6.next hU)
  have R6 := Lib.hid (fun (U : World) (hU : Below w.heap.size w U) => j6.next hU)
  have l6 := i6.cap
  have g6 := i6.big
  have lq6 := j6.cap
  have gq6 := j6.big
  have S7 := Lib.hid (fun (U : World) (hU : Below w.heap.size w U) => i7.next hU)
  have R7 := Lib.hid (fun (U : World) (hU : Below w.heap.size w U) => j7.next hU)
  have l7 := i7.cap
  have g7 := i7.big
  have lq7 := j7.cap
  have gq7 := j7.big
  clear h1 h2 X1 X2 i1 i2 i3 i4 i5 i6 i7 j1 j2 j3 j4 j5 j6 j7
  go_enter Tryz.func10, Tryz.ntmps10
  go_upto_region 1 with fail
  clear hW1 hW2
  have HD0 : Hid (Below W2.heap.size W2 W2) := Below.refl _ _

  have HC1 := Lib.hid (HQ1.out W2 HD0.out)
  have m0 := (HX1.out.next HD0.out HX1.out.lt).at' 0 _ rfl
  have n0 := (HX2.out.next HD0.out HX2.out.lt).at' 0 _ rfl
  have m1 := (HX1.out.next HD0.out HX1.out.lt).at' 1 _ rfl
  have n1 := (HX2.out.next HD0.out HX2.out.lt).at' 1 _ rfl
  go_wp2_with fail
  with_reducible refine HC1.out.mono ?_
  rintro e w1 ⟨rfl, hd⟩
  have HD1 : Hid (Below W2.heap.size W2 w1) := by obtain ⟨m, rfl⟩ := hd; exact below_drewN HD0.out m
  clear m1 n1 hd m0 n0
  have HC2 := Lib.hid (HQ3.out w1 HD1.out)
  have m1 := (HX1.out.next HD1.out HX1.out.lt).at' 3 _ rfl
  have n1 := (HX2.out.next HD1.out HX2.out.lt).at' 3 _ rfl
  go_wp2_with fail
  with_reducible refine HC2.out.mono ?_
  rintro e w2 ⟨rfl, hd⟩
  have HD2 : Hid (Below W2.heap.size W2 w2) := by obtain ⟨m, rfl⟩ := hd; exact below_drewN HD1.out m
  clear m1 n1 hd
  have HC3 := Lib.hid (HQ4.out w2 HD2.out)
  have m1 := (HX1.out.next HD2.out HX1.out.lt).at' 4 _ rfl
  have n1 := (HX2.out.next HD2.out HX2.out.lt).at' 4 _ rfl
  go_wp2_with fail
  with_reducible refine HC3.out.mono ?_
  rintro e w3 ⟨rfl, hd⟩
  have HD3 : Hid (Below W2.heap.size W2 w3) := by obtain ⟨m, rfl⟩ := hd; exact below_drewN HD2.out m
  clear m1 n1 hd
  have HC4 := Lib.hid (HQ5.out w3 HD3.out)
  have m1 := (HX1.out.next HD3.out HX1.out.lt).at' 5 _ rfl
  have n1 := (HX2.out.next HD3.out HX2.out.lt).at' 5 _ rfl
  go_wp2_with fail
  with_reducible refine HC4.out.mono ?_
  rintro e w4 ⟨rfl, hd⟩
  have HD4 : Hid (Below W2.heap.size W2 w4) := by obtain ⟨m, rfl⟩ := hd; exact below_drewN HD3.out m
  clear m1 n1 hd
  have m2 := (HX1.out.next HD4.out HX1.out.lt).at' 2 _ rfl
  have n2 := (HX2.out.next HD4.out HX2.out.lt).at' 2 _ rfl
  have m6 := (HX1.out.next HD4.out HX1.out.lt).at' 6 _ rfl
  have n6 := (HX2.out.next HD4.out HX2.out.lt).at' 6 _ rfl
  have m7 := (HX1.out.next HD4.out HX1.out.lt).at' 7 _ rfl
  have n7 := (HX2.out.next HD4.out HX2.out.lt).at' 7 _ rfl
  go_wp2_with fail
  clear m2 n2 m6 n6 m7 n7
  go_loopw [5] (fun s wr => ∃ k : Nat, k ≤ lats.length ∧ s = .int .i64 k ∧ Hid (Below W2.heap.size W2 wr)) (fun s _ => lats.length - (intOf s).toNat)
  case atStart => exact ⟨0, Nat.zero_le _, rfl, HD4⟩
  case round =>
    obtain ⟨k, hk, rfl, hb⟩ := hrel
    have mj := (HX1.out.next hb.out HX1.out.lt).at' 2 _ rfl
    have nj := (HX2.out.next hb.out HX2.out.lt).at' 2 _ rfl
    by_cases hlt : k < lats.length
    · obtain ⟨b, o, hx, hae, hbs, e0, e1, e2⟩ := SlT.tri (S2.out wr (HB2.out.trans (hb.out.mono HB2.out.size))) hlt
      obtain ⟨b', o', hy, hae', hbs', f0, f1, f2⟩ := SlT.tri (R2.out wr (HB2.out.trans (hb.out.mono HB2.out.size))) hlt
      subst hae hae'
      generalize lats[k] = t at *
      obtain ⟨t0, t1, t2⟩ := t
      simp only at e0 e1 e2 f0 f1 f2
      clear hx hy hbs hbs'
      go_wp2_with fail
      go_quiet (fail)
      go_wp2_with fail
      go_roundw
      case rel => exact ⟨k + 1, by omega, by go_num, below_drewN hb.out _⟩
      case measure => simp [intOf]; omega
    · have HL1 := hb
      generalize wr = v1 at *
      clear hb
      go_wp2_with fail
      clear hk hlt mj nj
      go_loopw [6] (fun s wr => ∃ k : Nat, k ≤ ands.length ∧ s = .int .i64 k ∧ Hid (Below W2.heap.size W2 wr)) (fun s _ => ands.length - (intOf s).toNat)
      case atStart => exact ⟨0, Nat.zero_le _, rfl, HL1⟩
      case round =>
        obtain ⟨k, hk, rfl, hb⟩ := hrel
        have mj := (HX1.out.next hb.out HX1.out.lt).at' 6 _ rfl
        have nj := (HX2.out.next hb.out HX2.out.lt).at' 6 _ rfl
        by_cases hlt : k < ands.length
        · obtain ⟨b, o, hx, hae, hbs, e0, e1, e2⟩ := SlT.tri (S6.out wr (HB2.out.trans (hb.out.mono HB2.out.size))) hlt
          obtain ⟨b', o', hy, hae', hbs', f0, f1, f2⟩ := SlT.tri (R6.out wr (HB2.out.trans (hb.out.mono HB2.out.size))) hlt
          subst hae hae'
          generalize ands[k] = t at *
          obtain ⟨t0, t1, t2⟩ := t
          simp only at e0 e1 e2 f0 f1 f2
          clear hx hy hbs hbs'
          go_wp2_with fail
          go_quiet (fail)
          go_wp2_with fail
          go_roundw
          case rel => exact ⟨k + 1, by omega, by go_num, below_drewN hb.out _⟩
          case measure => simp [intOf]; omega
        · have HL2 := hb
          generalize wr = v2 at *
          clear hb
          go_wp2_with fail
          clear hk hlt mj nj
          go_loopw [7] (fun s wr => ∃ k : Nat, k ≤ names.length ∧ s = .int .i64 k ∧ Hid (Below W2.heap.size W2 wr)) (fun s _ => names.length - (intOf s).toNat)
          case atStart => exact ⟨0, Nat.zero_le _, rfl, HL2⟩
          case round =>
            obtain ⟨k, hk, rfl, hb⟩ := hrel
            have mj := (HX1.out.next hb.out HX1.out.lt).at' 7 _ rfl
            have nj := (HX2.out.next hb.out HX2.out.lt).at' 7 _ rfl
            by_cases hlt : k < names.length
            · obtain ⟨b, o, hx, hae, hbs, e0, e1, e2⟩ := Circuit.SlT.name (S7.out wr (HB2.out.trans (hb.out.mono HB2.out.size))) hlt
              obtain ⟨b', o', hy, hae', hbs', f0, f1, f2⟩ := Circuit.SlT.name (R7.out wr (HB2.out.trans (hb.out.mono HB2.out.size))) hlt
              subst hae hae'
              generalize names[k] = t at *
              obtain ⟨t0, t1, t2⟩ := t
              simp only at e0 e1 e2 f0 f1 f2
              clear hx hy hbs hbs'
              go_wp2_with fail
              go_quiet (fail)
              go_wp2_with fail
              go_roundw
              case rel => exact ⟨k + 1, by omega, by go_num, below_drewN hb.out _⟩
              case measure => simp [intOf]; omega
            · have HL3 := hb
              generalize wr = v3 at *
              clear hb
              go_wp2_with fail
              go_ret
              exact ⟨rfl, HB2.out.trans (HL3.out.mono HB2.out.size)⟩
end Circuit
end Go.Proofs.YtninglnchengeaaGreat
/-
  interlocklaw35.CoiTells: what both walks share, and the walk of what may not be asked.
-/
namespace Go.Proofs.YtninglnchengeaaGreat.coiTells
open Go.RowKit Base Circuit Coi StrashP LitsC
set_option linter.unusedVariables false
set_option linter.unusedSimpArgs false

def noC : Circ := ⟨0, [], [], [], [], [], [], []⟩
def noA : At := ⟨none, 0, none, 0, none, 0, none, 0, none, 0, none, 0, none, 0⟩
theorem noC_cells : cells noC noA = #[.int .i64 0, .slice none 0 0, .slice none 0 0, .slice none 0 0, .slice none 0 0, .slice none 0 0, .slice none 0 0, .slice none 0 0] := rfl
theorem noC_in (w : World) : InCirc w noC noA := ⟨Sl.nil w, Coi.slT_none w 3, Sl.nil w, Sl.nil w, Sl.nil w, Coi.slT_none w 3, Coi.slT_none w 3⟩

theorem num_any (w : World) (n : Int) : Calls Tryz.prog 8 #[.int .i64 n] w fun e w' => e = .returned (.int .i64 n) ∧ w = w' := by
  go_enter Tryz.func8, Tryz.ntmps8
  go_wp2
  go_ret
  exact ⟨rfl, rfl⟩

abbrev C8 (N : Nat) (x : Circ) (p : At) (w' : World) : Prop := w'.cell? ⟨N, 0, none⟩ = some (.int .i64 x.max) ∧ w'.cell? ⟨N, 1, none⟩ = some (.slice p.a1 x.ins.length p.c1) ∧ w'.cell? ⟨N, 2, none⟩ = some (.slice p.a2 x.lats.length p.c2) ∧ w'.cell? ⟨N, 3, none⟩ = some (.slice p.a3 x.outs.length p.c3) ∧ w'.cell? ⟨N, 4, none⟩ = some (.slice p.a4 x.bads.length p.c4) ∧ w'.cell? ⟨N, 5, none⟩ = some (.slice p.a5 x.invs.length p.c5) ∧ w'.cell? ⟨N, 6, none⟩ = some (.slice p.a6 x.ands.length p.c6) ∧ w'.cell? ⟨N, 7, none⟩ = some (.slice p.a7 x.names.length p.c7)
theorem c8 {N : Nat} {x : Circ} {p : At} {w' : World} (h : CBox N x p w') : C8 N x p w' := ⟨h.k0, h.k1, h.k2, h.k3, h.k4, h.k5, h.k6, h.k7⟩
structure TH (N1 N3 : Nat) (x y : Circ) (p q : At) (W U : World) : Prop where
  below : Below W.heap.size W U
  b1 : CBox N1 x p U
  b3 : CBox N3 y q U
theorem TH.more {N1 N3 : Nat} {x y : Circ} {p q : At} {W U U' : World} (h : TH N1 N3 x y p q W U) (hb : Below U.heap.size U U') : TH N1 N3 x y p q W U' :=
  ⟨h.below.trans (hb.mono h.below.size), h.b1.next hb (Nat.le_refl _), h.b3.next hb (Nat.le_refl _)⟩
abbrev TAll (N1 N3 : Nat) (x y : Circ) (p q : At) (W U : World) : Prop := TH N1 N3 x y p q W U ∧ C8 N1 x p U
theorem th_all {N1 N3 : Nat} {x y : Circ} {p q : At} {W U : World} (h : TH N1 N3 x y p q W U) : TAll N1 N3 x y p q W U := ⟨h, c8 h.b1⟩
theorem call_keep {P : Program} {f : FuncId} {args : Array Value} {v : Value} {S : World → Prop} (hc : ∀ U, S U → Calls P f args U fun e U' => e = .returned v ∧ Below U.heap.size U U') (hs : ∀ U U', S U → Below U.heap.size U U' → S U') :
    ∀ U, S U → Calls P f args U fun e U' => e = .returned v ∧ S U' := fun U hU => (hc U hU).mono fun e U' h => ⟨h.1, hs U U' hU h.2⟩

set_option maxRecDepth 8000 in
set_option maxHeartbeats 4000000 in
theorem walk_no (w : World) (x : Circ) (p : At) (hin : InCirc w x p) (hw : WfC x) (aA : Option Addr) (n cA : Nat) (vals : List Value) (A : List (List Int)) (hA : Sl2 w aA n cA vals A) (hA64 : ∀ y ∈ A.flatten, Circuit.I64 y) (bad : Int) (hb0 : -9223372036854775808 ≤ bad) (hb1' : bad ≤ 9223372036854775807) (hno : askE x A bad ≠ 0) (hza : x.ands.length * 24 ≤ 140737488355328) :
    Calls Tryz.prog 3 #[.agg (cells x p), .slice aA n cA, .int .i64 bad] w fun e w' => e = .returned (.bool true) ∧ Below w.heap.size w w' := by
  obtain ⟨W1, hW1⟩ : ∃ W1, w.alloc (.cells (cells x p) 27) = W1 := ⟨_, rfl⟩
  obtain ⟨hb1, hc1⟩ := cbox_new w x p W1 hW1
  have HB1 := Lib.hid hb1
  have HAL := Lib.hid (alive_any W1)
  have HCB := Lib.hid (fun (U : World) (hU : Below W1.heap.size W1 U) => hc1.next hU (Nat.le_refl _))
  have HND := fun (U : World) (hU : Below W1.heap.size W1 U) => needed_no U x p ((hin.next hb1).next hU) hw aA n cA vals A ((hA.next hb1).next hU) hA64 bad hb0 hb1' hno
  have HRD := fun (U : World) (hU : Below W1.heap.size W1 U) => reduce_no U x p ((hin.next hb1).next hU) hw aA n cA vals A ((hA.next hb1).next hU) hA64 bad hb0 hb1' hno
  have HAK := fun (U : World) (hU : Below W1.heap.size W1 U) => lawAsked_any U x p ((hin.next hb1).next hU) hw aA n cA vals A ((hA.next hb1).next hU) hA64 bad hb0 hb1' hza
  have HSM := Lib.hid (fun U => refSame_any U noC noA noA (noC_in U) (noC_in U))
  rw [noC_cells] at HSM
  obtain ⟨a1, c1, a2, c2, a3, c3, a4, c4, a5, c5, a6, c6, a7, c7⟩ := p
  simp only [cells] at *
  generalize askE x A bad = er at *
  have hne : (er != 0) = true := by simpa using hno
  have hee : (er != er) = false := by simp
  have HR := Lib.hid HRD
  have HN := Lib.hid HND
  have HK := Lib.hid HAK
  clear hin hw hA hA64 hb1 hc1 hb0 hb1' hno HRD HND HAK hza
  go_enter Tryz.func3, Tryz.ntmps3
  go_wp2_with fail
  clear hW1
  with_reducible refine HAL.out.mono ?_
  rintro e w2 ⟨rfl, hb2⟩
  have HB2 := Lib.hid hb2
  have HN2 := Lib.hid (HN.out w2 hb2)
  have hcw := HCB.out w2 hb2
  have k0 := hcw.k0
  have k1 := hcw.k1
  have k2 := hcw.k2
  have k3 := hcw.k3
  have k4 := hcw.k4
  have k5 := hcw.k5
  have k6 := hcw.k6
  have k7 := hcw.k7
  clear hb2 hcw
  go_wp2_with fail
  with_reducible refine HN2.out.mono ?_
  rintro e w3 ⟨rfl, hb3⟩
  have hb13 := HB2.out.trans (hb3.mono HB2.out.size)
  have HB3 := Lib.hid hb13
  have HR3 := Lib.hid (HR.out w3 hb13)
  clear k0 k1 k2 k3 k4 k5 k6 k7
  have hcw := HCB.out w3 hb13
  have k0 := hcw.k0
  have k1 := hcw.k1
  have k2 := hcw.k2
  have k3 := hcw.k3
  have k4 := hcw.k4
  have k5 := hcw.k5
  have k6 := hcw.k6
  have k7 := hcw.k7
  clear hb3 hb13 hcw
  go_wp2_with fail
  with_reducible refine HR3.out.mono ?_
  rintro e w4 ⟨rfl, hb4⟩
  obtain ⟨W5, hW5⟩ : ∃ U, w4.alloc (.cells (cells noC noA) 27) = U := ⟨_, rfl⟩
  obtain ⟨hb5, hc5⟩ := cbox_new w4 noC noA W5 hW5
  rw [noC_cells] at hW5
  have hb15 : Below W1.heap.size W1 W5 := HB3.out.trans ((hb4.trans (hb5.mono hb4.size)).mono HB3.out.size)
  have HB5 := Lib.hid hb15
  have hf0 : TH w.heap.size w4.heap.size x noC ⟨a1, c1, a2, c2, a3, c3, a4, c4, a5, c5, a6, c6, a7, c7⟩ noA W5 W5.drew := ⟨(Below.refl _ _).drew, (HCB.out W5 hb15).next (Below.refl _ _).drew (Nat.le_refl _), hc5.next (Below.refl _ _).drew (Nat.le_refl _)⟩
  have HF := th_all hf0
  have C8' := call_keep (S := fun U => TAll w.heap.size w4.heap.size x noC ⟨a1, c1, a2, c2, a3, c3, a4, c4, a5, c5, a6, c6, a7, c7⟩ noA W5 U) (fun U hU => (num_any U er).mono fun e U' h => ⟨h.1, h.2 ▸ Below.refl _ _⟩) (fun U U' h hb => th_all (h.1.more hb))
  have C8 := Lib.hid C8'
  have C9' := call_keep (S := fun U => TAll w.heap.size w4.heap.size x noC ⟨a1, c1, a2, c2, a3, c3, a4, c4, a5, c5, a6, c6, a7, c7⟩ noA W5 U) (fun U hU => HK.out U (HB5.out.trans (hU.1.below.mono HB5.out.size))) (fun U U' h hb => th_all (h.1.more hb))
  have C9 := Lib.hid C9'
  have HW5 := Lib.hid hW5
  clear C8' C9' hb4 hb5 hb15 hf0 k0 k1 k2 k3 k4 k5 k6 k7 hc5 hW5
  go_upto_region 5 with fail
  rw [HW5.out]
  refine Lex.region (fun w' => TAll w.heap.size w4.heap.size x noC ⟨a1, c1, a2, c2, a3, c3, a4, c4, a5, c5, a6, c6, a7, c7⟩ noA W5 w') (by kernel_rfl) (by kernel_rfl) HF ?_
  (refine Lex.step_val (v := ?_) ?_ (fun w' hSw => ?_) ?_; rotate_left; (focus rfl); (focus (clear hSw; go_simp; (try with_reducible rfl); done)); (try simp only [Act.put, List.setIfInBounds_toArray, List.set_cons_zero, List.set_cons_succ]))
  (refine Lex.step_call (v := ?_) (f := ?_) (args := ?_) ?_ (fun w' hSw => ?_) ?_ ?_; rotate_left 3; (focus rfl); (focus (clear hSw; go_simp; (refine And.intro ?_ ?_ <;> with_reducible rfl); done)); (focus (first | with_reducible exact C8.out | with_reducible exact C9.out)); (try simp only [Act.put, List.setIfInBounds_toArray, List.set_cons_zero, List.set_cons_succ]))
  (refine Lex.step_val (v := ?_) ?_ (fun w' hSw => ?_) ?_; rotate_left; (focus rfl); (focus ((try dsimp only at hSw); go_simp; (try with_reducible rfl); done)); (try simp only [Act.put, List.setIfInBounds_toArray, List.set_cons_zero, List.set_cons_succ]))
  (refine Lex.step_val (v := ?_) ?_ (fun w' hSw => ?_) ?_; rotate_left; (focus rfl); (focus (clear hSw; go_simp; (try with_reducible rfl); done)); (try simp only [Act.put, List.setIfInBounds_toArray, List.set_cons_zero, List.set_cons_succ]))
  (refine Lex.step_val (v := ?_) ?_ (fun w' hSw => ?_) ?_; rotate_left; (focus rfl); (focus (clear hSw; go_simp; (try with_reducible rfl); done)); (try simp only [Act.put, List.setIfInBounds_toArray, List.set_cons_zero, List.set_cons_succ]))
  (refine Lex.step_call (v := ?_) (f := ?_) (args := ?_) ?_ (fun w' hSw => ?_) ?_ ?_; rotate_left 3; (focus rfl); (focus (clear hSw; go_simp; (refine And.intro ?_ ?_ <;> with_reducible rfl); done)); (focus (first | with_reducible exact C8.out | with_reducible exact C9.out)); (try simp only [Act.put, List.setIfInBounds_toArray, List.set_cons_zero, List.set_cons_succ]))
  (refine Lex.step_val (v := ?_) ?_ (fun w' hSw => ?_) ?_; rotate_left; (focus rfl); (focus (clear hSw; go_simp; (try with_reducible rfl); done)); (try simp only [Act.put, List.setIfInBounds_toArray, List.set_cons_zero, List.set_cons_succ]))
  (refine Lex.step_val (v := ?_) ?_ (fun w' hSw => ?_) ?_; rotate_left; (focus rfl); (focus (clear hSw; go_simp; (try with_reducible rfl); done)); (try simp only [Act.put, List.setIfInBounds_toArray, List.set_cons_zero, List.set_cons_succ]))
  (refine Lex.step_val (v := ?_) ?_ (fun w' hSw => ?_) ?_; rotate_left; (focus (go_simp; done)); (focus (clear hSw; go_simp; (try with_reducible rfl); done)); (try simp only [Act.put, List.setIfInBounds_toArray, List.set_cons_zero, List.set_cons_succ]))
  (refine Lex.step_val (v := ?_) ?_ (fun w' hSw => ?_) ?_; rotate_left; (focus (go_simp; done)); (focus (clear hSw; go_simp; (try with_reducible rfl); done)); (try simp only [Act.put, List.setIfInBounds_toArray, List.set_cons_zero, List.set_cons_succ]))
  (refine Lex.step_val (v := ?_) ?_ (fun w' hSw => ?_) ?_; rotate_left; (focus (go_simp; done)); (focus (clear hSw; go_simp; (try with_reducible rfl); done)); (try simp only [Act.put, List.setIfInBounds_toArray, List.set_cons_zero, List.set_cons_succ]))
  (refine Lex.step_val (v := ?_) ?_ (fun w' hSw => ?_) ?_; rotate_left; (focus rfl); (focus (clear hSw; go_simp; (try with_reducible rfl); done)); (try simp only [Act.put, List.setIfInBounds_toArray, List.set_cons_zero, List.set_cons_succ]))
  refine Lex.step_nil ?_
  intro wz hz
  have HZ := Lib.hid hz.1.below
  have n0 := hz.1.b3.k0
  have n1 := hz.1.b3.k1
  have n2 := hz.1.b3.k2
  have n3 := hz.1.b3.k3
  have n4 := hz.1.b3.k4
  have n5 := hz.1.b3.k5
  have n6 := hz.1.b3.k6
  have n7 := hz.1.b3.k7
  simp only [noC, noA, List.length_nil] at n0 n1 n2 n3 n4 n5 n6 n7
  clear hz HF
  go_wp2_with fail
  with_reducible refine (HSM.out _).mono ?_
  rintro e w6 ⟨rfl, hb6⟩
  go_wp2_with fail
  go_ret
  exact ⟨rfl, HB1.out.trans ((HB5.out.trans ((HZ.out.trans (hb6.mono HZ.out.size)).mono HB5.out.size)).mono HB1.out.size)⟩
end Go.Proofs.YtninglnchengeaaGreat.coiTells

/-
  interlocklaw35.CoiSame: the walk (written by coisame.py).
-/
namespace Go.Proofs.YtninglnchengeaaGreat.coiSame
open Go.RowKit Base Circuit Coi StrashP BadP coiTells
set_option linter.unusedVariables false
set_option linter.unusedSimpArgs false

theorem not_strange {mx : Int} {A : List (List Int)} (h : A.any (strangeL mx) = false) : ∀ y ∈ A.flatten, 0 ≤ y := fun y hy => by
  obtain ⟨l, hl, hyl⟩ := List.mem_flatten.1 hy
  have h1 := List.any_eq_false.1 h l hl
  have h2 : LitsC.oddM mx y = false := by
    cases hq : LitsC.oddM mx y with
    | false => rfl
    | true => exact absurd (List.any_eq_true.2 ⟨y, hyl, hq⟩) h1
  unfold LitsC.oddM at h2
  simp at h2
  omega

set_option maxRecDepth 8000 in
set_option maxHeartbeats 4000000 in
theorem walk_no (w : World) (x : Circ) (p : At) (hin : InCirc w x p) (hw : WfC x) (aA : Option Addr) (n cA : Nat) (vals : List Value) (A : List (List Int)) (hA : Sl2 w aA n cA vals A) (hA64 : ∀ y ∈ A.flatten, Circuit.I64 y) (bad : Int) (hb0 : -9223372036854775808 ≤ bad) (hb1' : bad ≤ 9223372036854775807) (hno : askE x A bad ≠ 0) (hza : x.ands.length * 24 ≤ 140737488355328) :
    Calls Tryz.prog 4 #[.agg (cells x p), .slice aA n cA, .int .i64 bad] w fun e w' => e = .returned (.bool true) ∧ Below w.heap.size w w' := by
  obtain ⟨W1, hW1⟩ : ∃ W1, w.alloc (.cells (cells x p) 27) = W1 := ⟨_, rfl⟩
  obtain ⟨hb1, hc1⟩ := cbox_new w x p W1 hW1
  have HB1 := Lib.hid hb1
  have HAL := Lib.hid (Coi.alive_any W1)
  have HCB := Lib.hid (fun (U : World) (hU : Below W1.heap.size W1 U) => hc1.next hU (Nat.le_refl _))
  have HRD := fun (U : World) (hU : Below W1.heap.size W1 U) => reduce_no U x p ((hin.next hb1).next hU) hw aA n cA vals A ((hA.next hb1).next hU) hA64 bad hb0 hb1' hno
  have HAK := fun (U : World) (hU : Below W1.heap.size W1 U) => lawAsked_any U x p ((hin.next hb1).next hU) hw aA n cA vals A ((hA.next hb1).next hU) hA64 bad hb0 hb1' hza
  obtain ⟨a1, c1, a2, c2, a3, c3, a4, c4, a5, c5, a6, c6, a7, c7⟩ := p
  simp only [cells] at *
  generalize askE x A bad = er at *
  have hne : (er != 0) = true := by simpa using hno
  have hee : (er == er) = true := by simp
  have HR := Lib.hid HRD
  have HK := Lib.hid HAK
  clear hin hw hA hA64 hb1 hc1 hb0 hb1' hno HRD HAK hza
  go_enter Tryz.func4, Tryz.ntmps4
  go_wp2_with fail
  clear hW1
  with_reducible refine HAL.out.mono ?_
  rintro e w2 ⟨rfl, hb2⟩
  have HB2 := Lib.hid hb2
  have HR2 := Lib.hid (HR.out w2 hb2)
  have hcw := HCB.out w2 hb2
  have k0 := hcw.k0
  have k1 := hcw.k1
  have k2 := hcw.k2
  have k3 := hcw.k3
  have k4 := hcw.k4
  have k5 := hcw.k5
  have k6 := hcw.k6
  have k7 := hcw.k7
  try simp only at k0 k1 k2 k3 k4 k5 k6 k7
  clear hcw
  clear hb2
  go_wp2_with fail
  with_reducible refine HR2.out.mono ?_
  rintro e w4 ⟨rfl, hb4⟩
  obtain ⟨W5, hW5⟩ : ∃ U, w4.alloc (.cells (cells noC noA) 27) = U := ⟨_, rfl⟩
  obtain ⟨hb5, hc5⟩ := cbox_new w4 noC noA W5 hW5
  rw [noC_cells] at hW5
  have hb15 : Below W1.heap.size W1 W5 := HB2.out.trans ((hb4.trans (hb5.mono hb4.size)).mono HB2.out.size)
  have HB5 := Lib.hid hb15
  have hf0 : TH w.heap.size w4.heap.size x noC ⟨a1, c1, a2, c2, a3, c3, a4, c4, a5, c5, a6, c6, a7, c7⟩ noA W5 W5.drew := ⟨(Below.refl _ _).drew, (HCB.out W5 hb15).next (Below.refl _ _).drew (Nat.le_refl _), hc5.next (Below.refl _ _).drew (Nat.le_refl _)⟩
  have HF := th_all hf0
  have C8' := call_keep (S := fun U => TAll w.heap.size w4.heap.size x noC ⟨a1, c1, a2, c2, a3, c3, a4, c4, a5, c5, a6, c6, a7, c7⟩ noA W5 U) (fun U hU => (num_any U er).mono fun e U' h => ⟨h.1, h.2 ▸ Below.refl _ _⟩) (fun U U' h hb => th_all (h.1.more hb))
  have C8 := Lib.hid C8'
  have C9' := call_keep (S := fun U => TAll w.heap.size w4.heap.size x noC ⟨a1, c1, a2, c2, a3, c3, a4, c4, a5, c5, a6, c6, a7, c7⟩ noA W5 U) (fun U hU => HK.out U (HB5.out.trans (hU.1.below.mono HB5.out.size))) (fun U U' h hb => th_all (h.1.more hb))
  have C9 := Lib.hid C9'
  have HW5 := Lib.hid hW5
  clear C8' C9' hb4 hb5 hb15 hf0 k0 k1 k2 k3 k4 k5 k6 k7 hc5 hW5
  go_upto_region 5 with fail
  rw [HW5.out]
  refine Lex.region (fun w' => TAll w.heap.size w4.heap.size x noC ⟨a1, c1, a2, c2, a3, c3, a4, c4, a5, c5, a6, c6, a7, c7⟩ noA W5 w') (by kernel_rfl) (by kernel_rfl) HF ?_
  (refine Lex.step_val (v := ?_) ?_ (fun w' hSw => ?_) ?_; rotate_left; (focus rfl); (focus (clear hSw; go_simp; (try with_reducible rfl); done)); (try simp only [Act.put, List.setIfInBounds_toArray, List.set_cons_zero, List.set_cons_succ]))
  (refine Lex.step_call (v := ?_) (f := ?_) (args := ?_) ?_ (fun w' hSw => ?_) ?_ ?_; rotate_left 3; (focus rfl); (focus (clear hSw; go_simp; (refine And.intro ?_ ?_ <;> with_reducible rfl); done)); (focus (first | with_reducible exact C8.out | with_reducible exact C9.out)); (try simp only [Act.put, List.setIfInBounds_toArray, List.set_cons_zero, List.set_cons_succ]))
  (refine Lex.step_val (v := ?_) ?_ (fun w' hSw => ?_) ?_; rotate_left; (focus rfl); (focus ((try dsimp only at hSw); go_simp; (try with_reducible rfl); done)); (try simp only [Act.put, List.setIfInBounds_toArray, List.set_cons_zero, List.set_cons_succ]))
  (refine Lex.step_val (v := ?_) ?_ (fun w' hSw => ?_) ?_; rotate_left; (focus rfl); (focus (clear hSw; go_simp; (try with_reducible rfl); done)); (try simp only [Act.put, List.setIfInBounds_toArray, List.set_cons_zero, List.set_cons_succ]))
  (refine Lex.step_val (v := ?_) ?_ (fun w' hSw => ?_) ?_; rotate_left; (focus rfl); (focus (clear hSw; go_simp; (try with_reducible rfl); done)); (try simp only [Act.put, List.setIfInBounds_toArray, List.set_cons_zero, List.set_cons_succ]))
  (refine Lex.step_call (v := ?_) (f := ?_) (args := ?_) ?_ (fun w' hSw => ?_) ?_ ?_; rotate_left 3; (focus rfl); (focus (clear hSw; go_simp; (refine And.intro ?_ ?_ <;> with_reducible rfl); done)); (focus (first | with_reducible exact C8.out | with_reducible exact C9.out)); (try simp only [Act.put, List.setIfInBounds_toArray, List.set_cons_zero, List.set_cons_succ]))
  (refine Lex.step_val (v := ?_) ?_ (fun w' hSw => ?_) ?_; rotate_left; (focus rfl); (focus (clear hSw; go_simp; (try with_reducible rfl); done)); (try simp only [Act.put, List.setIfInBounds_toArray, List.set_cons_zero, List.set_cons_succ]))
  (refine Lex.step_val (v := ?_) ?_ (fun w' hSw => ?_) ?_; rotate_left; (focus rfl); (focus (clear hSw; go_simp; (try with_reducible rfl); done)); (try simp only [Act.put, List.setIfInBounds_toArray, List.set_cons_zero, List.set_cons_succ]))
  refine Lex.step_nil ?_
  intro W6 hz
  have HZ := Lib.hid hz.1.below
  clear hz HF
  go_wp2_with fail
  go_ret
  exact ⟨rfl, HB1.out.trans ((HB5.out.trans (HZ.out.mono HB5.out.size)).mono HB1.out.size)⟩

set_option maxRecDepth 8000 in
set_option maxHeartbeats 16000000 in
theorem walk_ok (w : World) (x : Circ) (p : At) (hin : InCirc w x p) (hw : WfC x) (aA : Option Addr) (n cA : Nat) (vals : List Value) (A : List (List Int)) (hA : Sl2 w aA n cA vals A) (hA64 : ∀ y ∈ A.flatten, Circuit.I64 y) (k : Nat) (hk : k < x.bads.length) (hok : askE x A k = 0)
    (hz1 : n ≤ 4000000) (hz2 : A.flatten.length ≤ 4000000) (hz3 : x.ands.length ≤ 4000000) :
    Calls Tryz.prog 4 #[.agg (cells x p), .slice aA n cA, .int .i64 k] w fun e w' => e = .returned (.bool true) ∧ Below w.heap.size w w' := by
  obtain ⟨W1, hW1⟩ : ∃ W1, w.alloc (.cells (cells x p) 27) = W1 := ⟨_, rfl⟩
  obtain ⟨hb1, hc1⟩ := cbox_new w x p W1 hW1
  have HB1 := Lib.hid hb1
  have HAL := Lib.hid (Coi.alive_any W1)
  have HCB := Lib.hid (fun (U : World) (hU : Below W1.heap.size W1 U) => hc1.next hU (Nat.le_refl _))
  have HIN := fun (U : World) (hU : Below W1.heap.size W1 U) => (hin.next hb1).next hU
  obtain ⟨hck, _, _, hst⟩ := askE_zero hok
  have hA0 := not_strange hst
  have hA00 : ∀ y ∈ A.flatten, 0 ≤ y ∧ y ≤ 9223372036854775807 := fun y hy => ⟨hA0 y hy, (hA64 y hy).2⟩
  have HRD := fun (U : World) (hU : Below W1.heap.size W1 U) => reduce_ok U x p ((hin.next hb1).next hU) hw aA n cA vals A ((hA.next hb1).next hU) hA64 k hk hok hz1 hz2 hz3
  have HAK := fun (U : World) (hU : Below W1.heap.size W1 U) => lawAsked_any U x p ((hin.next hb1).next hU) hw aA n cA vals A ((hA.next hb1).next hU) hA64 k (by omega) (by have := hck.1.2.2.2.2.2.1; omega) (by omega)
  rw [hok] at HAK
  have HSY := fun (U : World) (hU : Below W1.heap.size W1 U) => small_any U x p (HIN U hU)
  have HBC := fun (U : World) (hU : Below W1.heap.size W1 U) (h4 : x.lats.length ≤ 4) (h3 : x.ins.length ≤ 3) => bad_any U x p (HIN U hU) hw hck (by omega) h4 h3 aA n cA vals A ((hA.next hb1).next hU) hA00 k hk
  have hbm : x.bads[k] ∈ x.bads := List.getElem_mem _
  generalize hbl : x.bads[k] = bl at *
  obtain ⟨l, hl⟩ : ∃ l, A.flatten ++ x.invs ++ [bl] = l := ⟨_, rfl⟩
  simp only [hl] at HRD
  have HHT : Hid (∀ m, Hit x A bl m ↔ Hit (reduced x l bl) A bl m) := fun m => hit_red hck (fun y hy => by rw [← hl]; simp [hy]) (fun y hy => by rw [← hl]; simp [hy]) (by rw [← hl]; simp) m
  obtain ⟨fI, hfI⟩ : ∃ f, x.ins.filter (fun t : Int => cnt x l t) = f := ⟨_, rfl⟩
  obtain ⟨fL, hfL⟩ : ∃ f, x.lats.filter (fun t : Tri => cnt x l t.1) = f := ⟨_, rfl⟩
  obtain ⟨fA, hfA⟩ : ∃ f, x.ands.filter (fun t : Tri => cnt x l t.1) = f := ⟨_, rfl⟩
  have hy : reduced x l bl = (⟨x.max, fI, fL, [], [bl], x.invs, fA, []⟩ : Circ) := by rw [← hfI, ← hfL, ← hfA]; rfl
  have hyok : CheckOk (⟨x.max, fI, fL, [], [bl], x.invs, fA, []⟩ : Circ) := by rw [← hy]; exact red_ok hck hbm (by rw [← hl]; simp) (fun m hm => by rw [← hl]; simp [hm])
  have hywf : WfC (⟨x.max, fI, fL, [], [bl], x.invs, fA, []⟩ : Circ) := by rw [← hy]; exact ⟨hw.mx, fun m hm => hw.ins m (List.mem_filter.1 hm).1, fun t ht => hw.lats t (List.mem_filter.1 ht).1, fun m hm => (by cases hm), fun m hm => by rw [List.mem_singleton.1 hm]; exact hw.bads bl hbm, hw.invs, fun t ht => hw.ands t (List.mem_filter.1 ht).1, fun t ht => (by cases ht)⟩
  have hya : fA.length ≤ x.ands.length := by rw [← hfA]; exact List.length_filter_le _ _
  have hyl : fL.length ≤ x.lats.length := by rw [← hfL]; exact List.length_filter_le _ _
  have hyi : fI.length ≤ x.ins.length := by rw [← hfI]; exact List.length_filter_le _ _
  have HBY := Lib.hid (fun (U : World) (hU : Below W1.heap.size W1 U) (h4 : x.lats.length ≤ 4) (h3 : x.ins.length ≤ 3) (q : At) (hq : InCirc U (⟨x.max, fI, fL, [], [bl], x.invs, fA, []⟩ : Circ) q) => bad_any U (⟨x.max, fI, fL, [], [bl], x.invs, fA, []⟩ : Circ) q hq hywf hyok (by show fA.length * 24 ≤ _; omega) (by show fL.length ≤ 4; omega) (by show fI.length ≤ 3; omega) aA n cA vals A ((hA.next hb1).next hU) hA00 0 (Nat.zero_lt_one : 0 < ([bl] : List Int).length))
  rw [hy] at HRD HHT
  obtain ⟨a1, c1, a2, c2, a3, c3, a4, c4, a5, c5, a6, c6, a7, c7⟩ := p
  simp only [cells, List.length_nil, List.length_cons, Nat.zero_add] at hW1 HRD HAK HSY HBC ⊢
  have HR := Lib.hid HRD
  have HK := Lib.hid HAK
  have HS := Lib.hid HSY
  have HC := Lib.hid HBC
  clear hin hw hA hA64 hb1 hc1 hok hck hst hA0 hA00 HRD HAK HSY HBC HIN hz1 hz2 hz3 hbm hbl hl hfI hfL hfA hy hyok hywf hya hyl hyi hk
  go_enter Tryz.func4, Tryz.ntmps4
  go_wp2_with fail
  clear hW1
  with_reducible refine HAL.out.mono ?_
  rintro e w2 ⟨rfl, hb2⟩
  have HB2 := Lib.hid hb2
  have HR2 := Lib.hid (HR.out w2 hb2)
  have hcw := HCB.out w2 hb2
  have k0 := hcw.k0
  have k1 := hcw.k1
  have k2 := hcw.k2
  have k3 := hcw.k3
  have k4 := hcw.k4
  have k5 := hcw.k5
  have k6 := hcw.k6
  have k7 := hcw.k7
  try simp only at k0 k1 k2 k3 k4 k5 k6 k7
  clear hcw
  clear hb2
  go_wp2_with fail
  with_reducible refine HR2.out.mono ?_
  rintro e w4 ⟨p', rfl, hin4, hb4⟩
  obtain ⟨W5, hW5⟩ : ∃ U, w4.alloc (.cells (cells (⟨x.max, fI, fL, [], [bl], x.invs, fA, []⟩ : Circ) p') 27) = U := ⟨_, rfl⟩
  obtain ⟨hb5, hc5⟩ := cbox_new w4 (⟨x.max, fI, fL, [], [bl], x.invs, fA, []⟩ : Circ) p' W5 hW5
  have hb15 : Below W1.heap.size W1 W5 := HB2.out.trans ((hb4.trans (hb5.mono hb4.size)).mono HB2.out.size)
  have HB5 := Lib.hid hb15
  have HI5 := Lib.hid (hin4.next hb5)
  obtain ⟨b1, d1, b2, d2, b3, d3, b4, d4, b5, d5, b6, d6, b7, d7⟩ := p'
  have HC5 := Lib.hid hc5
  simp only [cells, List.length_nil, List.length_cons, Nat.zero_add] at hW5 ⊢
  have HW5 := Lib.hid hW5
  clear k0 k1 k2 k3 k4 k5 k6 k7 hc5 hin4 hb4 hb5 HR2
  have HSM := Lib.hid (HS.out W5 hb15)
  have hcw := HCB.out W5 hb15
  have k0 := hcw.k0
  have k1 := hcw.k1
  have k2 := hcw.k2
  have k3 := hcw.k3
  have k4 := hcw.k4
  have k5 := hcw.k5
  have k6 := hcw.k6
  have k7 := hcw.k7
  try simp only at k0 k1 k2 k3 k4 k5 k6 k7
  clear hcw hb15
  obtain ⟨sm, hsm⟩ : ∃ b, (decide (x.lats.length ≤ 4) && decide (x.ins.length ≤ 3) && decide (x.max ≤ 60)) = b := ⟨_, rfl⟩
  rw [hsm] at HSM
  have HSB := Lib.hid hsm
  clear hsm
  go_wp2_with fail
  clear hW5
  with_reducible refine HSM.out.mono ?_
  rintro e w6 ⟨rfl, hb6⟩
  have HB6 := Lib.hid hb6
  clear k0 k1 k2 k3 k4 k5 k6 k7 hb6
  have hf0 : TH w.heap.size w4.heap.size x (⟨x.max, fI, fL, [], [bl], x.invs, fA, []⟩ : Circ) ⟨a1, c1, a2, c2, a3, c3, a4, c4, a5, c5, a6, c6, a7, c7⟩ ⟨b1, d1, b2, d2, b3, d3, b4, d4, b5, d5, b6, d6, b7, d7⟩ w6 w6.drew := ⟨(Below.refl _ _).drew, ((HCB.out W5 HB5.out).next HB6.out (Nat.le_refl _)).next (Below.refl _ _).drew (Nat.le_refl _), (HC5.out.next HB6.out (Nat.le_refl _)).next (Below.refl _ _).drew (Nat.le_refl _)⟩
  have HF := th_all hf0
  have HB16 := Lib.hid (HB5.out.trans (HB6.out.mono HB5.out.size))
  clear hf0
  cases sm
  · skip
    have C8' := call_keep (S := fun U => TAll w.heap.size w4.heap.size x (⟨x.max, fI, fL, [], [bl], x.invs, fA, []⟩ : Circ) ⟨a1, c1, a2, c2, a3, c3, a4, c4, a5, c5, a6, c6, a7, c7⟩ ⟨b1, d1, b2, d2, b3, d3, b4, d4, b5, d5, b6, d6, b7, d7⟩ w6 U) (fun U hU => (num_any U 0).mono fun e U' h => ⟨h.1, h.2 ▸ Below.refl _ _⟩) (fun U U' h hb => th_all (h.1.more hb))
    have C8 := Lib.hid C8'
    have C9' := call_keep (S := fun U => TAll w.heap.size w4.heap.size x (⟨x.max, fI, fL, [], [bl], x.invs, fA, []⟩ : Circ) ⟨a1, c1, a2, c2, a3, c3, a4, c4, a5, c5, a6, c6, a7, c7⟩ ⟨b1, d1, b2, d2, b3, d3, b4, d4, b5, d5, b6, d6, b7, d7⟩ w6 U) (fun U hU => HK.out U (HB16.out.trans (hU.1.below.mono HB16.out.size))) (fun U U' h hb => th_all (h.1.more hb))
    have C9 := Lib.hid C9'
    clear C8' C9'
    go_upto_region 5 with fail
    refine Lex.region (fun w' => TAll w.heap.size w4.heap.size x (⟨x.max, fI, fL, [], [bl], x.invs, fA, []⟩ : Circ) ⟨a1, c1, a2, c2, a3, c3, a4, c4, a5, c5, a6, c6, a7, c7⟩ ⟨b1, d1, b2, d2, b3, d3, b4, d4, b5, d5, b6, d6, b7, d7⟩ w6 w') (by kernel_rfl) (by kernel_rfl) HF ?_
    (refine Lex.step_val (v := ?_) ?_ (fun w' hSw => ?_) ?_; rotate_left; (focus rfl); (focus (clear hSw; go_simp; (try with_reducible rfl); done)); (try simp only [Act.put, List.setIfInBounds_toArray, List.set_cons_zero, List.set_cons_succ]))
    (refine Lex.step_call (v := ?_) (f := ?_) (args := ?_) ?_ (fun w' hSw => ?_) ?_ ?_; rotate_left 3; (focus rfl); (focus (clear hSw; go_simp; (refine And.intro ?_ ?_ <;> with_reducible rfl); done)); (focus (first | with_reducible exact C8.out | with_reducible exact C9.out)); (try simp only [Act.put, List.setIfInBounds_toArray, List.set_cons_zero, List.set_cons_succ]))
    (refine Lex.step_val (v := ?_) ?_ (fun w' hSw => ?_) ?_; rotate_left; (focus rfl); (focus ((try dsimp only at hSw); go_simp; (try with_reducible rfl); done)); (try simp only [Act.put, List.setIfInBounds_toArray, List.set_cons_zero, List.set_cons_succ]))
    (refine Lex.step_val (v := ?_) ?_ (fun w' hSw => ?_) ?_; rotate_left; (focus rfl); (focus (clear hSw; go_simp; (try with_reducible rfl); done)); (try simp only [Act.put, List.setIfInBounds_toArray, List.set_cons_zero, List.set_cons_succ]))
    (refine Lex.step_val (v := ?_) ?_ (fun w' hSw => ?_) ?_; rotate_left; (focus rfl); (focus (clear hSw; go_simp; (try with_reducible rfl); done)); (try simp only [Act.put, List.setIfInBounds_toArray, List.set_cons_zero, List.set_cons_succ]))
    (refine Lex.step_call (v := ?_) (f := ?_) (args := ?_) ?_ (fun w' hSw => ?_) ?_ ?_; rotate_left 3; (focus rfl); (focus (clear hSw; go_simp; (refine And.intro ?_ ?_ <;> with_reducible rfl); done)); (focus (first | with_reducible exact C8.out | with_reducible exact C9.out)); (try simp only [Act.put, List.setIfInBounds_toArray, List.set_cons_zero, List.set_cons_succ]))
    (refine Lex.step_val (v := ?_) ?_ (fun w' hSw => ?_) ?_; rotate_left; (focus rfl); (focus (clear hSw; go_simp; (try with_reducible rfl); done)); (try simp only [Act.put, List.setIfInBounds_toArray, List.set_cons_zero, List.set_cons_succ]))
    (refine Lex.step_val (v := ?_) ?_ (fun w' hSw => ?_) ?_; rotate_left; (focus rfl); (focus (clear hSw; go_simp; (try with_reducible rfl); done)); (try simp only [Act.put, List.setIfInBounds_toArray, List.set_cons_zero, List.set_cons_succ]))
    refine Lex.step_nil ?_
    intro W6 hz
    have HZ := Lib.hid hz.1.below
    clear hz HF
    go_wp2_with fail
    go_ret
    exact ⟨rfl, HB1.out.trans ((HB16.out.trans (HZ.out.mono HB16.out.size)).mono HB1.out.size)⟩
  · skip
    clear HF
    have hs3 := HSB.out
    simp only [Bool.and_eq_true, decide_eq_true_eq] at hs3
    have HS3 := Lib.hid hs3
    clear hs3
    have hSK : ∀ U : World, Below w6.heap.size w6 U → U.cell? ⟨w.heap.size, 0, none⟩ = some (.int .i64 x.max) ∧ U.cell? ⟨w.heap.size, 1, none⟩ = some (.slice a1 x.ins.length c1) ∧ U.cell? ⟨w.heap.size, 2, none⟩ = some (.slice a2 x.lats.length c2) ∧ U.cell? ⟨w.heap.size, 3, none⟩ = some (.slice a3 x.outs.length c3) ∧ U.cell? ⟨w.heap.size, 4, none⟩ = some (.slice a4 x.bads.length c4) ∧ U.cell? ⟨w.heap.size, 5, none⟩ = some (.slice a5 x.invs.length c5) ∧ U.cell? ⟨w.heap.size, 6, none⟩ = some (.slice a6 x.ands.length c6) ∧ U.cell? ⟨w.heap.size, 7, none⟩ = some (.slice a7 x.names.length c7) ∧ U.cell? ⟨w4.heap.size, 0, none⟩ = some (.int .i64 x.max) ∧ U.cell? ⟨w4.heap.size, 1, none⟩ = some (.slice b1 fI.length d1) ∧ U.cell? ⟨w4.heap.size, 2, none⟩ = some (.slice b2 fL.length d2) ∧ U.cell? ⟨w4.heap.size, 3, none⟩ = some (.slice b3 0 d3) ∧ U.cell? ⟨w4.heap.size, 4, none⟩ = some (.slice b4 1 d4) ∧ U.cell? ⟨w4.heap.size, 5, none⟩ = some (.slice b5 x.invs.length d5) ∧ U.cell? ⟨w4.heap.size, 6, none⟩ = some (.slice b6 fA.length d6) ∧ U.cell? ⟨w4.heap.size, 7, none⟩ = some (.slice b7 0 d7) := fun U hU => by
      have c := ((HCB.out W5 HB5.out).next HB6.out (Nat.le_refl _)).next hU (Nat.le_refl _)
      have d := (HC5.out.next HB6.out (Nat.le_refl _)).next hU (Nat.le_refl _)
      exact ⟨c.k0, c.k1, c.k2, c.k3, c.k4, c.k5, c.k6, c.k7, d.k0, d.k1, d.k2, d.k3, d.k4, d.k5, d.k6, d.k7⟩
    have b00 : Below w6.heap.size w6 w6.drew := (Below.refl _ _).drew
    have hS0 := hSK _ b00
    go_upto_region 6 with fail
    refine HeldAll.region (fun U : World => U.cell? ⟨w.heap.size, 0, none⟩ = some (.int .i64 x.max) ∧ U.cell? ⟨w.heap.size, 1, none⟩ = some (.slice a1 x.ins.length c1) ∧ U.cell? ⟨w.heap.size, 2, none⟩ = some (.slice a2 x.lats.length c2) ∧ U.cell? ⟨w.heap.size, 3, none⟩ = some (.slice a3 x.outs.length c3) ∧ U.cell? ⟨w.heap.size, 4, none⟩ = some (.slice a4 x.bads.length c4) ∧ U.cell? ⟨w.heap.size, 5, none⟩ = some (.slice a5 x.invs.length c5) ∧ U.cell? ⟨w.heap.size, 6, none⟩ = some (.slice a6 x.ands.length c6) ∧ U.cell? ⟨w.heap.size, 7, none⟩ = some (.slice a7 x.names.length c7) ∧ U.cell? ⟨w4.heap.size, 0, none⟩ = some (.int .i64 x.max) ∧ U.cell? ⟨w4.heap.size, 1, none⟩ = some (.slice b1 fI.length d1) ∧ U.cell? ⟨w4.heap.size, 2, none⟩ = some (.slice b2 fL.length d2) ∧ U.cell? ⟨w4.heap.size, 3, none⟩ = some (.slice b3 0 d3) ∧ U.cell? ⟨w4.heap.size, 4, none⟩ = some (.slice b4 1 d4) ∧ U.cell? ⟨w4.heap.size, 5, none⟩ = some (.slice b5 x.invs.length d5) ∧ U.cell? ⟨w4.heap.size, 6, none⟩ = some (.slice b6 fA.length d6) ∧ U.cell? ⟨w4.heap.size, 7, none⟩ = some (.slice b7 0 d7)) (by kernel_rfl) ?_
    (refine HeldAll.take (i := 0) (oi := _) (d := some 32) (v := ?_) rfl rfl (by kernel_rfl) (by kernel_rfl) (by kernel_rfl) (fun _ _ _ h => h) (Or.inl ⟨by rfl, ?_⟩) hS0 ?_; rotate_left; (focus (intro w hSw; (try dsimp only at hSw); go_simp; (try with_reducible rfl); done)); (try simp only [Act.put, List.setIfInBounds_toArray, List.set_cons_zero, List.set_cons_succ]))
    (refine HeldAll.take (i := 1) (oi := _) (d := some 33) (v := ?_) rfl rfl (by kernel_rfl) (by kernel_rfl) (by kernel_rfl) (fun _ _ _ h => h) (Or.inl ⟨by rfl, ?_⟩) hS0 ?_; rotate_left; (focus (intro w hSw; clear hSw; go_simp; (try with_reducible rfl); done)); (try simp only [Act.put, List.setIfInBounds_toArray, List.set_cons_zero, List.set_cons_succ]))
    (refine HeldAll.take (i := 2) (oi := _) (d := some 34) (v := ?_) rfl rfl (by kernel_rfl) (by kernel_rfl) (by kernel_rfl) (fun _ _ _ h => h) (Or.inl ⟨by rfl, ?_⟩) hS0 ?_; rotate_left; (focus (intro w hSw; clear hSw; go_simp; (try with_reducible rfl); done)); (try simp only [Act.put, List.setIfInBounds_toArray, List.set_cons_zero, List.set_cons_succ]))
    (refine HeldAll.take (i := 4) (oi := _) (d := some 36) (v := ?_) rfl rfl (by kernel_rfl) (by kernel_rfl) (by kernel_rfl) (fun _ _ _ h => h) (Or.inl ⟨by rfl, ?_⟩) hS0 ?_; rotate_left; (focus (intro w hSw; (try dsimp only at hSw); go_simp; (try with_reducible rfl); done)); (try simp only [Act.put, List.setIfInBounds_toArray, List.set_cons_zero, List.set_cons_succ]))
    (refine HeldAll.take (i := 5) (oi := _) (d := some 37) (v := ?_) rfl rfl (by kernel_rfl) (by kernel_rfl) (by kernel_rfl) (fun _ _ _ h => h) (Or.inl ⟨by rfl, ?_⟩) hS0 ?_; rotate_left; (focus (intro w hSw; clear hSw; go_simp; (try with_reducible rfl); done)); (try simp only [Act.put, List.setIfInBounds_toArray, List.set_cons_zero, List.set_cons_succ]))
    refine HeldAll.one (i := 3) (by kernel_rfl) ?_
    refine HeldAll.opCall (i := 3) (oi := _) (d := some 35) (R := fun v w' => ∃ r, v = .int .i64 r ∧ IsBad x A bl r ∧ Below w6.drew.heap.size w6.drew w') rfl rfl (by rfl) (by go_simp; done) ((HC.out w6.drew (HB16.out.trans (b00.mono HB16.out.size)) HS3.out.1.1 HS3.out.1.2).mono fun e w' h => by obtain ⟨r, he, h1, h2⟩ := h; exact ⟨_, he, r, rfl, h1, h2⟩) ?_
    rintro v u1 ⟨r1, rfl, hr1, su1⟩
    have bu1 : Below w6.heap.size w6 u1 := b00.trans (su1.mono b00.size)
    refine ⟨hSK _ bu1, ?_⟩
    (try simp only [Act.put, List.setIfInBounds_toArray, List.set_cons_zero, List.set_cons_succ])
    have hby := HBY.out u1 (HB16.out.trans (bu1.mono HB16.out.size)) HS3.out.1.1 HS3.out.1.2 ⟨b1, d1, b2, d2, b3, d3, b4, d4, b5, d5, b6, d6, b7, d7⟩ ((HI5.out.next HB6.out).next bu1)
    simp only [cells, List.length_nil, List.length_cons, Nat.zero_add] at hby
    have hz0 : ((0 : Nat) : Int) = 0 := rfl
    rw [hz0] at hby
    refine HeldAll.one (i := 6) (by kernel_rfl) ?_
    refine HeldAll.opCall (i := 6) (oi := _) (d := some 38) (R := fun v w' => ∃ r, v = .int .i64 r ∧ IsBad (⟨x.max, fI, fL, [], [bl], x.invs, fA, []⟩ : Circ) A bl r ∧ Below u1.heap.size u1 w') rfl rfl (by rfl) (by go_simp; done) (hby.mono fun e w' h => by obtain ⟨r, he, h1, h2⟩ := h; exact ⟨_, he, r, rfl, h1, h2⟩) ?_
    rintro v u2 ⟨r2, rfl, hr2, su2⟩
    have bu2 : Below w6.heap.size w6 u2 := bu1.trans (su2.mono bu1.size)
    refine ⟨hSK _ bu2, ?_⟩
    (try simp only [Act.put, List.setIfInBounds_toArray, List.set_cons_zero, List.set_cons_succ])
    have hS0 := hSK _ bu2
    obtain rfl : r1 = r2 := isBad_same hr1 hr2 HHT.out
    (refine HeldAll.take (i := 7) (oi := _) (d := some 39) (v := ?_) rfl rfl (by kernel_rfl) (by kernel_rfl) (by kernel_rfl) (fun _ _ _ h => h) (Or.inl ⟨by rfl, ?_⟩) hS0 ?_; rotate_left; (focus (intro w hSw; clear hSw; go_simp; (try with_reducible rfl); done)); (try simp only [Act.put, List.setIfInBounds_toArray, List.set_cons_zero, List.set_cons_succ]))
    (refine HeldAll.take (i := 8) (oi := _) (d := some 6) (v := ?_) rfl rfl (by kernel_rfl) (by kernel_rfl) (by kernel_rfl) (fun _ _ _ h => h) (Or.inl ⟨by rfl, ?_⟩) hS0 ?_; rotate_left; (focus (intro w hSw; clear hSw; go_simp; (try with_reducible rfl); done)); (try simp only [Act.put, List.setIfInBounds_toArray, List.set_cons_zero, List.set_cons_succ]))
    refine HeldAll.done (by kernel_rfl) ?_ _
    clear hS0 hSK
    go_wp2_with fail
    go_ret
    exact ⟨by simp, HB1.out.trans ((HB16.out.trans (bu2.mono HB16.out.size)).mono HB1.out.size)⟩

theorem flat_le (A : List (List Int)) : A.flatten.length ≤ Open.bulkRows A ∧ A.length ≤ Open.bulkRows A := by
  unfold Open.bulkRows
  induction A with
  | nil => simp
  | cons y r ih =>
    have h := Open.bulkInts_eq y
    simp only [List.flatten_cons, List.length_append, List.map_cons, List.sum_cons, List.length_cons]
    omega

theorem walk (x : Circ) (p : At) {w : World} (hin : InCirc w x p) (hw : WfC x) (hz : Open.bulkCirc x ≤ 1048576) (aA : Option Addr) (cA : Nat) (A : List (List Int)) (vals : List Value) (hA : Sl2 w aA A.length cA vals A) (hwA : ∀ l ∈ A, Clause.Wf l) (hzA : Open.bulkRows A ≤ 1048576)
    (bad : Int) (hb : -9223372036854775808 ≤ bad ∧ bad ≤ 9223372036854775807) (W : World) (hW : W = w) :
    Calls Tryz.prog 4 #[.agg (cells x p), .slice aA A.length cA, .int .i64 bad] W fun e W' => e = .returned (.bool true) ∧ Below W.heap.size W W' := by
  subst hW
  have h64 : ∀ y ∈ A.flatten, Circuit.I64 y := fun y hy => by
    obtain ⟨l, hl, hyl⟩ := List.mem_flatten.1 hy
    exact hwA l hl y hyl
  obtain ⟨h1, h2⟩ := flat_le A
  have h3 : x.ands.length ≤ 4000000 := by unfold Open.bulkCirc at hz; omega
  by_cases hok : askE x A bad = 0
  · obtain ⟨_, g0, g1, _⟩ := askE_zero hok
    obtain ⟨k, rfl⟩ : ∃ k : Nat, bad = (k : Int) := ⟨bad.toNat, by omega⟩
    exact walk_ok W x p hin hw aA A.length cA vals A hA h64 k (by omega) hok (by omega) (by omega) h3
  · exact walk_no W x p hin hw aA A.length cA vals A hA h64 bad hb.1 hb.2 hok (by omega)
end Go.Proofs.YtninglnchengeaaGreat.coiSame
