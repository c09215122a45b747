/-
  Slices of structs of k cells in memory of one's own; what may be written; what lies from a block on stays. No program's function.
-/
import Derived.Test.YtninglnchengeaaCirc
namespace Go.Proofs.Ytninglnchengeaa
open Go.RowKit
set_option linter.unusedVariables false
set_option linter.unusedSimpArgs false
namespace Base

theorem flat_len {k : Nat} {vs : List (List Value)} (h : ∀ r ∈ vs, r.length = k) : vs.flatten.length = vs.length * k := by
  induction vs with
  | nil => simp
  | cons x r ih =>
    rw [List.flatten_cons, List.length_append, List.length_cons, ih (fun y hy => h y (List.mem_cons_of_mem _ hy)), h x List.mem_cons_self, Nat.succ_mul, Nat.add_comm]

theorem flat_at {k : Nat} {vs : List (List Value)} (h : ∀ r ∈ vs, r.length = k) (i j : Nat) (hj : j < k) : vs.flatten[i * k + j]? = (vs[i]?).bind (·[j]?) := by
  induction vs generalizing i with
  | nil => simp
  | cons x r ih =>
    have hx := h x List.mem_cons_self
    rw [List.flatten_cons]
    cases i with
    | zero =>
      rw [Nat.zero_mul, Nat.zero_add, List.getElem?_append_left (by omega)]
      rfl
    | succ i =>
      rw [List.getElem?_append_right (by rw [hx, Nat.succ_mul]; omega)]
      have e : (i + 1) * k + j - x.length = i * k + j := by rw [hx, Nat.succ_mul]; omega
      rw [e, ih (fun y hy => h y (List.mem_cons_of_mem _ hy)), List.getElem?_cons_succ]

theorem tris_row (l : List Tri) : ∀ r ∈ tris l, r.length = 3 := by
  intro r hr
  unfold tris at hr
  obtain ⟨t, _, rfl⟩ := List.mem_map.1 hr
  rfl
theorem names_row (l : List (ByteArray × Int × ByteArray)) : ∀ r ∈ namesV l, r.length = 3 := by
  intro r hr
  unfold namesV at hr
  obtain ⟨t, _, rfl⟩ := List.mem_map.1 hr
  rfl
theorem tris_len (l : List Tri) : (tris l).length = l.length := by simp [tris]
theorem names_len (l : List (ByteArray × Int × ByteArray)) : (namesV l).length = l.length := by simp [namesV]
theorem tris_one (l : List Tri) : ∀ u ∈ (tris l).flatten, u.oneCell' = true := by
  intro u hu
  obtain ⟨r, hr, hu⟩ := List.mem_flatten.1 hu
  unfold tris at hr
  obtain ⟨t, _, rfl⟩ := List.mem_map.1 hr
  simp only [List.mem_cons, List.not_mem_nil, or_false] at hu
  rcases hu with rfl | rfl | rfl <;> rfl
theorem names_one (l : List (ByteArray × Int × ByteArray)) : ∀ u ∈ (namesV l).flatten, u.oneCell' = true := by
  intro u hu
  obtain ⟨r, hr, hu⟩ := List.mem_flatten.1 hu
  unfold namesV at hr
  obtain ⟨t, _, rfl⟩ := List.mem_map.1 hr
  simp only [List.mem_cons, List.not_mem_nil, or_false] at hu
  rcases hu with rfl | rfl | rfl <;> rfl

/-- The cells of a slice that can be read, one behind another. -/
theorem SlT.flat {w : World} {k : Nat} (hk : 0 < k) {ad : Addr} {n c : Nat} {vs : List (List Value)} (h : SlT w k (some ad) n c vs) : ∀ j u, vs.flatten[j]? = some u → w.cell? (ad.add j) = some u := by
  intro j u hu
  have hr : ∀ r ∈ vs, r.length = k := fun r hr => by
    obtain ⟨i, hi⟩ := List.getElem?_of_mem hr
    exact (h.cell i r hi).1
  have hj : j = (j / k) * k + j % k := by rw [Nat.mul_comm]; exact (Nat.div_add_mod j k).symm
  rw [hj, flat_at hr _ _ (Nat.mod_lt _ hk)] at hu
  obtain ⟨r, h1, h2⟩ := Option.bind_eq_some_iff.1 hu
  obtain ⟨_, b, o, ha, _, hc⟩ := h.cell _ r h1
  simp only [Option.some.injEq] at ha
  subst ha
  have := hc _ u h2
  rw [Addr.add_lit, hj, ← Nat.add_assoc]
  exact this

/-- What is owned, as a slice that can be read. -/
theorem own_slT {w : World} {B : Nat} {e : TypeId} {k : Nat} {v : Value} {n : Nat} {vs : List (List Value)} (hk : 0 < k) (hr : ∀ r ∈ vs, r.length = k) (hn : vs.length = n) (h : w.ownsRow B e k v n vs.flatten) :
    ∃ a c, v = .slice a n c ∧ SlT w k a n c vs := by
  obtain ⟨hl, h2⟩ := h
  rcases h2 with ⟨rfl, rfl⟩ | ⟨g, cap, cur, rfl, hg, hh, hnc, hcap, hcur, htake⟩
  · exact ⟨none, 0, rfl, hn, Nat.le_refl _, by omega, fun _ => ⟨rfl, rfl⟩, fun i x hx => by
      have := (List.getElem?_eq_some_iff.1 hx).1; omega⟩
  · refine ⟨_, _, rfl, hn, hnc, by unfold maxLen at hcap; omega, (fun h => by cases h), fun i r hi => ⟨hr r (List.mem_of_getElem? hi), g, 0, rfl, (Array.getElem?_eq_some_iff.1 hh).1, fun j x hx => ?_⟩⟩
    have hjk : j < k := by
      have h1 := (List.getElem?_eq_some_iff.1 hx).1
      rw [hr r (List.mem_of_getElem? hi)] at h1
      exact h1
    have hf : vs.flatten[i * k + j]? = some x := by rw [flat_at hr _ _ hjk, hi]; exact hx
    rw [← htake, List.getElem?_take] at hf
    rw [cell_of_row _ g (0 + i * k + j) cur e _ hh]
    split at hf
    · rw [Nat.zero_add]; simpa using hf
    · cases hf

/-- append of all of a slice to one's own, elements of k cells. -/
theorem wpL_appK {P : Program} {w : World} {ops : Array Oper} {rest : List Oper} {dst : Option Tmp} {ty : TypeId} {pos : String} {af : Array Edge} {a : Act} {Q : Exit → Act → World → Prop}
    {s x : Operand} {t e : TypeId} {z : Value} {k bytes : Nat} (hk : 0 < k) (B : Nat) (v : Value) (n : Nat) (vs : List (List Value)) (ao : Option Addr) (m c : Nat) (us : List (List Value))
    (hinfo : (P.info? e).map (fun i => (i.zero, i.size, i.bytes)) = some (some z, k, bytes)) (ht : P.underlying t = some (.slice e)) (hzs : z.cells.size = k)
    (hs : a.eval s = v) (hx : a.eval x = .slice ao m c) (hu : ∀ u ∈ us.flatten, u.oneCell' = true) (hur : ∀ r ∈ us, r.length = k)
    (hown : w.ownsRow B e k v n vs.flatten) (hsl : SlT w k ao m c us) (hB : B ≤ w.heap.size) (hn : (n + m) * bytes ≤ 140737488355328) (hn' : n + m ≤ 9223372036854775807) {W : World} (hb : Below B W w)
    (hK : ∀ a' c' w1, w1.ownsRow B e k (.slice a' (n + m) c') (n + m) (vs ++ us).flatten → Below B W w1 → w.heap.size ≤ w1.heap.size → wpList P ops Q rest (a.put dst (.slice a' (n + m) c')) w1) :
    wpList P ops Q (⟨dst, .call { callee := .builtin .append, args := #[s, x], argTypes := #[t, t] }, ty, pos, af, none⟩ :: rest) a w := by
  obtain ⟨i, hi, hz0, hz1, hz2⟩ := info_parts hinfo
  have shape : ∀ {w : World} {v : Value} {n : Nat} {xs : List Value}, w.ownsRow B e k v n xs → ∃ a c, v = .slice a n c := by
    intro w v n xs h
    rcases h.2 with ⟨rfl, rfl⟩ | ⟨g, cap, cur, rfl, _⟩
    · exact ⟨none, 0, rfl⟩
    · exact ⟨_, _, rfl⟩
  cases ao with
  | none =>
    obtain ⟨rfl, rfl⟩ := hsl.bare rfl
    have hus : us = [] := List.eq_nil_of_length_eq_zero hsl.len
    subst hus
    refine wpList_append_own_none rfl s x t rfl B e i k ht hi v n vs.flatten hs hown hx ?_
    obtain ⟨a', c', rfl⟩ := shape hown
    exact hK a' c' w (by simpa using hown) hb (Nat.le_refl _)
  | some ad =>
    have hl : us.flatten.length = m * k := by rw [flat_len hur, hsl.len]
    refine wpList_append_own _ rfl s x t rfl B e i z k bytes ht hi hz0 hz1 hz2 hzs hk v n vs.flatten hs hown ad m c us.flatten hx hl ?_ hu
      (by unfold maxLen; omega) hn hB ?_
    · exact hsl.flat hk
    · intro v' w1 hown' hgrow _
      obtain ⟨a', c', rfl⟩ := shape hown'
      exact hK a' c' w1 (by rw [List.flatten_append]; exact hown') (below_own hown hgrow hb hB) hgrow.size

/-- w2 is as w from block N on. -/
structure Holds (N : Nat) (w w2 : World) : Prop where
  size : w.heap.size ≤ w2.heap.size
  block : ∀ k, N ≤ k → k < w.heap.size → w2.heap[k]? = w.heap[k]?

theorem Holds.refl (N : Nat) (w : World) : Holds N w w := ⟨Nat.le_refl _, fun _ _ _ => rfl⟩
theorem Holds.of {N : Nat} {w w2 : World} (h : Below w.heap.size w w2) : Holds N w w2 := ⟨h.size, fun k _ hk => h.block k hk⟩
theorem Holds.trans {N : Nat} {w w1 w2 : World} (h : Holds N w w1) (h2 : Holds N w1 w2) : Holds N w w2 :=
  ⟨Nat.le_trans h.size h2.size, fun k hn hk => (h2.block k hn (Nat.lt_of_lt_of_le hk h.size)).trans (h.block k hn hk)⟩
theorem Holds.set {N : Nat} {w w2 : World} (h : Holds N w w2) {a : Addr} (hb : a.block < N) (u : Value) : Holds N w (w2.setCell a u) := by
  refine ⟨by simpa [World.setCell] using h.size, fun k hn hk => ?_⟩
  simp only [World.setCell, Array.getElem?_modify]
  rw [if_neg (by omega)]
  exact h.block k hn hk
theorem Holds.own {w w2 : World} {N B : Nat} {e : TypeId} {size : Nat} {v : Value} {n : Nat} {vs : List Value} (hk : Holds N w w2) (h : w.ownsRow B e size v n vs) (hN : N ≤ B) : w2.ownsRow B e size v n vs := by
  refine ⟨h.1, ?_⟩
  rcases h.2 with hn | ⟨g, cap, cur, rfl, hg, hh, r⟩
  · exact .inl hn
  · exact .inr ⟨g, cap, cur, rfl, hg, by rw [hk.block g (by omega) (Array.getElem?_eq_some_iff.1 hh).1]; exact hh, r⟩

/-- The first m cells of a slice may be written; they lie in a block from B to N. -/
def Writes (w : World) (B N : Nat) (a : Option Addr) (m : Nat) : Prop := m = 0 ∨ ∃ g, a = some ⟨g, 0, none⟩ ∧ B ≤ g ∧ g < N ∧ ∀ j, j < m → (∃ u, w.cell? ⟨g, j, none⟩ = some u) ∧ w.frozen? ⟨g, j, none⟩ = false

theorem Writes.set {w : World} {B N : Nat} {a : Option Addr} {m : Nat} (h : Writes w B N a m) (p : Addr) (u : Value) : Writes (w.setCell p u) B N a m := by
  rcases h with h | ⟨g, ha, h1, h2, hc⟩
  · exact .inl h
  · refine .inr ⟨g, ha, h1, h2, fun j hj => ⟨?_, by rw [World.frozen?_setCell]; exact (hc j hj).2⟩⟩
    obtain ⟨x, hx⟩ := (hc j hj).1
    exact cell?_setCell_some hx

theorem Writes.of {w : World} {B : Nat} {e : TypeId} {k : Nat} {a : Option Addr} {n c : Nat} {vs : List Value} (h : w.ownsRow B e k (.slice a n c) n vs) : Writes w B w.heap.size a (n * k) := by
  rcases h.2 with ⟨_, rfl⟩ | ⟨g, cap, cur, hv, hg, hh, hnc, hcap, hcur, htake⟩
  · exact .inl (by simp)
  · simp only [Value.slice.injEq, true_and] at hv
    obtain ⟨rfl, rfl⟩ := hv
    refine .inr ⟨g, rfl, hg, (Array.getElem?_eq_some_iff.1 hh).1, fun j hj => ⟨?_, ?_⟩⟩
    · rw [cell_of_row _ g j cur e _ hh]
      have hlt : j < cur.size := by rw [hcur]; exact Nat.lt_of_lt_of_le hj (Nat.mul_le_mul_right _ hnc)
      exact ⟨cur[j], by simp [hlt]⟩
    · simp [World.frozen?, hh]

theorem Writes.next {w w' : World} {B N : Nat} {a : Option Addr} {m : Nat} (h : Writes w B N a m) (hN : N ≤ w.heap.size) (hb : Below w.heap.size w w') : Writes w' B N a m := by
  rcases h with h | ⟨g, ha, h1, h2, hc⟩
  · exact .inl h
  · refine .inr ⟨g, ha, h1, h2, fun j hj => ⟨?_, ?_⟩⟩
    · obtain ⟨x, hx⟩ := (hc j hj).1
      exact ⟨x, (hb.cell (p := ⟨g, j, none⟩) (Nat.lt_of_lt_of_le h2 hN)).trans hx⟩
    · exact ((bcell hb).2 g j (Nat.lt_of_lt_of_le h2 hN)).trans (hc j hj).2
end Base
end Go.Proofs.Ytninglnchengeaa
