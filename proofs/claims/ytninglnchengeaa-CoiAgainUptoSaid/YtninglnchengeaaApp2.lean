/-
  append(append([]T{}, l...), x): its two makings and two appends, in whatever order they come: their runs. No program's function.
-/
import Derived.Test.YtninglnchengeaaTrip
import Derived.Laws.AppendOwn
import Derived.Laws.OwnMore
import Derived.Maps.AppendAt
namespace Go.Proofs.Ytninglnchengeaa
open Go.RowKit Base
set_option linter.unusedVariables false
set_option linter.unusedSimpArgs false
namespace App2

theorem shape {w : World} {B : Nat} {e : TypeId} {k : Nat} {v : Value} {n : Nat} {xs : List Value} (h : w.ownsRow B e k v n xs) : ∃ a c, v = .slice a n c := by
  rcases h.2 with ⟨rfl, rfl⟩ | ⟨g, cap, cur, rfl, _⟩
  · exact ⟨none, 0, rfl⟩
  · exact ⟨_, _, rfl⟩

/-- append of a slice to a row of one's own: its run. -/
theorem runV {P : Program} {e t : TypeId} {k bytes : Nat} {z : Value} (ty : TypeId) (hk : 0 < k) (hinfo : (P.info? e).map (fun i => (i.zero, i.size, i.bytes)) = some (some z, k, bytes)) (ht : P.underlying t = some (.slice e)) (hzs : z.cells.size = k)
    (V : World) (B : Nat) (hB : B ≤ V.heap.size) (v : Value) (n : Nat) (vs : List (List Value)) (hown : V.ownsRow B e k v n vs.flatten) (ao : Option Addr) (m c : Nat) (us : List (List Value)) (hsl : SlT V k ao m c us) (hur : ∀ r ∈ us, r.length = k)
    (hu : ∀ u ∈ us.flatten, u.oneCell' = true) (hn : (n + m) * bytes ≤ 140737488355328) (hn' : n + m ≤ 9223372036854775807) :
    ∃ a' c' w1, (Builtin.append_ #[t, t] ty #[v, .slice ao m c]).run P V = .ok (.slice a' (n + m) c') w1 ∧ w1.ownsRow B e k (.slice a' (n + m) c') (n + m) (vs ++ us).flatten ∧ V.grownBy w1 v.ownBlock := by
  obtain ⟨i, hi, hz0, hz1, hz2⟩ := info_parts hinfo
  cases ao with
  | none =>
    obtain ⟨rfl, rfl⟩ := hsl.bare rfl
    have hus : us = [] := List.eq_nil_of_length_eq_zero hsl.len
    subst hus
    obtain ⟨a', c', rfl⟩ := shape hown
    exact ⟨a', c', V, run_append_owned_none (P := P) (w := V) B t ty e i k ht hi _ n _ hown, by simpa using hown, ⟨rfl, rfl, rfl, Nat.le_refl _, fun _ _ _ => rfl⟩⟩
  | some ad =>
    have hl : us.flatten.length = m * k := by rw [flat_len hur, hsl.len]
    obtain ⟨v', w1, hr, hown', hgrow, _, _⟩ := run_append_own_at (P := P) V B t ty e i z k bytes ht hi hz0 hz1 hz2 hzs hk v n vs.flatten hown ad m c us.flatten hl (hsl.flat hk) hu (by unfold maxLen; omega) hn hB
    obtain ⟨a', c', rfl⟩ := shape hown'
    exact ⟨a', c', w1, hr, by rw [List.flatten_append]; exact hown', hgrow⟩

theorem sl_grown {w w' : World} {k n c : Nat} {vs : List (List Value)} {g : Nat} (h : SlT w k (some ⟨g, 0, none⟩) n c vs) {ob : Option Nat} (hg : w.grownBy w' ob) (hne : some g ≠ ob) : SlT w' k (some ⟨g, 0, none⟩) n c vs :=
  ⟨h.len, h.cap, h.big, h.bare, fun i r hi => by
    obtain ⟨hl, b, o, ha, hs, hc⟩ := h.cell i r hi
    simp only [Option.some.injEq, Addr.mk.injEq] at ha
    obtain ⟨rfl, rfl, _⟩ := ha
    exact ⟨hl, g, 0, rfl, Nat.lt_of_lt_of_le hs hg.size, fun j x hx => (World.cell?_of_block (w := w) (a := ⟨g, 0 + i * k + j, none⟩) (hg.block g hs hne)).trans (hc j x hx)⟩⟩

theorem sl_one (w : World) (N : List Value) (e : TypeId) (k : Nat) (hN : N.length = k) : SlT (w.alloc (.cells N.toArray e)) k (some ⟨w.heap.size, 0, none⟩) 1 1 [N] :=
  ⟨rfl, Nat.le_refl _, by omega, fun h => (by cases h), fun i r hi => by
    obtain ⟨hi0, rfl⟩ := List.getElem?_eq_some_iff.1 hi
    have hi1 : i = 0 := by simp at hi0; omega
    subst hi1
    refine ⟨hN, w.heap.size, 0, rfl, by simp, fun j x hx => ?_⟩
    rw [World.cell?_alloc_new]
    simp at hx ⊢
    exact hx⟩

theorem exec_append {P : Program} {w : World} {o : Oper} {a : Act} {s x : Operand} {t : TypeId} {v vx v' : Value} {w' : World}
    (ho : o.op = .call { callee := .builtin .append, args := #[s, x], argTypes := #[t, t] }) (hs : a.eval s = v) (hx : a.eval x = vx)
    (hr : (Builtin.append_ #[t, t] o.type #[v, vx]).run P w = .ok v' w') : (execOp a.eval o).run P w = .ok (.value v') w' := by
  unfold execOp
  simp only [ho, resolve, invoke, builtin, Sem.run_bind, Sem.run_pure, Result.andThen_ok, List.map_toArray, List.map_cons, List.map_nil, hs, hx, hr]

def Good (U w : World) (B : Nat) (e : TypeId) (k m : Nat) (rows : List (List Value)) (A : Option Addr) (C : Nat) : Prop :=
  w.ownsRow B e k (.slice A (m + 1) C) (m + 1) rows.flatten ∧ Below B U w

theorem app2 {P : Program} {e t : TypeId} {k bytes : Nat} {z : Value} (ty : TypeId) (hk : 0 < k) (hinfo : (P.info? e).map (fun i => (i.zero, i.size, i.bytes)) = some (some z, k, bytes)) (ht : P.underlying t = some (.slice e)) (hzs : z.cells.size = k)
    (U : World) (ao : Option Addr) (m c : Nat) (us : List (List Value)) (hsl : SlT U k ao m c us) (hur : ∀ r ∈ us, r.length = k) (hu : ∀ u ∈ us.flatten, u.oneCell' = true)
    (N : List Value) (hN : N.length = k) (hN1 : ∀ u ∈ N, u.oneCell' = true) (hn : (m + 1) * bytes ≤ 140737488355328) (hn' : m + 1 ≤ 9223372036854775807) :
    (∃ A1 C1 w2, (Builtin.append_ #[t, t] ty #[.slice (some ⟨U.heap.size, 0, none⟩) 0 0, .slice ao m c]).run P (U.alloc (.cells #[] e)) = .ok (.slice A1 m C1) w2 ∧ Below U.heap.size U w2 ∧
      ∃ A2 C2 w4, (Builtin.append_ #[t, t] ty #[.slice A1 m C1, .slice (some ⟨w2.heap.size, 0, none⟩) 1 1]).run P (w2.alloc (.cells N.toArray e)) = .ok (.slice A2 (m + 1) C2) w4 ∧ Good U w4 U.heap.size e k m (us ++ [N]) A2 C2) ∧
    (∃ A1 C1 w2, (Builtin.append_ #[t, t] ty #[.slice (some ⟨U.heap.size, 0, none⟩) 0 0, .slice ao m c]).run P ((U.alloc (.cells #[] e)).alloc (.cells N.toArray e)) = .ok (.slice A1 m C1) w2 ∧ Below U.heap.size U w2 ∧
      ∃ A2 C2 w4, (Builtin.append_ #[t, t] ty #[.slice A1 m C1, .slice (some ⟨U.heap.size + 1, 0, none⟩) 1 1]).run P w2 = .ok (.slice A2 (m + 1) C2) w4 ∧ Good U w4 U.heap.size e k m (us ++ [N]) A2 C2) ∧
    (∃ A1 C1 w2, (Builtin.append_ #[t, t] ty #[.slice (some ⟨U.heap.size + 1, 0, none⟩) 0 0, .slice ao m c]).run P ((U.alloc (.cells N.toArray e)).alloc (.cells #[] e)) = .ok (.slice A1 m C1) w2 ∧ Below U.heap.size U w2 ∧
      ∃ A2 C2 w4, (Builtin.append_ #[t, t] ty #[.slice A1 m C1, .slice (some ⟨U.heap.size, 0, none⟩) 1 1]).run P w2 = .ok (.slice A2 (m + 1) C2) w4 ∧ Good U w4 U.heap.size e k m (us ++ [N]) A2 C2) := by
  have hm : (0 + m) * bytes ≤ 140737488355328 := by
    rw [Nat.zero_add]; exact Nat.le_trans (Nat.mul_le_mul_right _ (Nat.le_succ m)) hn
  have s1 : (U.alloc (.cells #[] e)).heap.size = U.heap.size + 1 := by simp
  have s2 : (U.alloc (.cells N.toArray e)).heap.size = U.heap.size + 1 := by simp
  have b1 : Below U.heap.size U (U.alloc (.cells #[] e)) := (Below.refl _ _).alloc (Nat.le_refl _) _
  have b2 : Below U.heap.size U (U.alloc (.cells N.toArray e)) := (Below.refl _ _).alloc (Nat.le_refl _) _
  have hone : ∀ u ∈ [N].flatten, u.oneCell' = true := fun u hu' => hN1 u (by simpa using hu')
  have hrow : ∀ r ∈ [N], r.length = k := fun r hr => by rw [List.mem_singleton.1 hr]; exact hN
  have o1 : (U.alloc (.cells #[] e)).ownsRow U.heap.size e k (.slice (some ⟨U.heap.size, 0, none⟩) 0 0) 0 ([] : List (List Value)).flatten :=
    World.ownsRow_lit U #[] 0 (Nat.le_refl _) (by unfold maxLen; omega) (by simp)
  have e1 : ∀ (v : Value) (ws : List (List Value)) (w : World), w.ownsRow U.heap.size e k v (0 + m) ([] ++ ws).flatten → w.ownsRow U.heap.size e k v m ws.flatten := fun v ws w h => by simpa using h
  refine ⟨?_, ?_, ?_⟩
  · obtain ⟨A1, C1, w2, r1, own1, g1⟩ := runV (P := P) ty hk hinfo ht hzs _ U.heap.size (by omega) _ 0 [] o1 ao m c us (hsl.next b1) hur hu hm (by omega)
    rw [Nat.zero_add] at r1 own1
    have bw2 : Below U.heap.size U w2 := b1.grown g1 (by omega) fun q hq => by simp [Value.ownBlock] at hq; omega
    have o2 : w2.ownsRow U.heap.size e k (.slice A1 m C1) m us.flatten := by simpa using own1
    obtain ⟨A2, C2, w4, r2, own2, g2⟩ := runV (P := P) ty hk hinfo ht hzs (w2.alloc (.cells N.toArray e)) U.heap.size (by simp; have := bw2.size; omega) _ m us (o2.alloc _) (some ⟨w2.heap.size, 0, none⟩) 1 1 [N] (sl_one w2 N e k hN) hrow hone hn hn'
    exact ⟨A1, C1, w2, r1, bw2, A2, C2, w4, r2, own2, (bw2.alloc bw2.size _).grown g2 (by simp; have := bw2.size; omega) fun q hq => (o2.lt q hq).1⟩
  · have o1' := o1.alloc (.cells N.toArray e)
    have hs2 : SlT ((U.alloc (.cells #[] e)).alloc (.cells N.toArray e)) k (some ⟨U.heap.size + 1, 0, none⟩) 1 1 [N] := by
      have h := sl_one (U.alloc (.cells #[] e)) N e k hN
      rw [s1] at h; exact h
    have b12 : Below U.heap.size U ((U.alloc (.cells #[] e)).alloc (.cells N.toArray e)) := b1.alloc (by omega) _
    obtain ⟨A1, C1, w2, r1, own1, g1⟩ := runV (P := P) ty hk hinfo ht hzs _ U.heap.size b12.size _ 0 [] o1' ao m c us (hsl.next b12) hur hu hm (by omega)
    rw [Nat.zero_add] at r1 own1
    have bw2 : Below U.heap.size U w2 := b12.grown g1 b12.size fun q hq => by simp [Value.ownBlock] at hq; omega
    have o2 : w2.ownsRow U.heap.size e k (.slice A1 m C1) m us.flatten := by simpa using own1
    have hs3 := sl_grown hs2 g1 (by simp [Value.ownBlock])
    obtain ⟨A2, C2, w4, r2, own2, g2⟩ := runV (P := P) ty hk hinfo ht hzs w2 U.heap.size bw2.size _ m us o2 (some ⟨U.heap.size + 1, 0, none⟩) 1 1 [N] hs3 hrow hone hn hn'
    exact ⟨A1, C1, w2, r1, bw2, A2, C2, w4, r2, own2, bw2.grown g2 bw2.size fun q hq => (o2.lt q hq).1⟩
  · have o1' : ((U.alloc (.cells N.toArray e)).alloc (.cells #[] e)).ownsRow U.heap.size e k (.slice (some ⟨U.heap.size + 1, 0, none⟩) 0 0) 0 ([] : List (List Value)).flatten := by
      have h := World.ownsRow_lit (base := U.heap.size) (size := k) (e := e) (U.alloc (.cells N.toArray e)) #[] 0 (by omega) (by unfold maxLen; omega) (by simp)
      rw [s2] at h; exact h
    have hs2 : SlT ((U.alloc (.cells N.toArray e)).alloc (.cells #[] e)) k (some ⟨U.heap.size, 0, none⟩) 1 1 [N] := (sl_one U N e k hN).next ((Below.refl _ _).alloc (Nat.le_refl _) _)
    have b12 : Below U.heap.size U ((U.alloc (.cells N.toArray e)).alloc (.cells #[] e)) := b2.alloc (by omega) _
    obtain ⟨A1, C1, w2, r1, own1, g1⟩ := runV (P := P) ty hk hinfo ht hzs _ U.heap.size b12.size _ 0 [] o1' ao m c us (hsl.next b12) hur hu hm (by omega)
    rw [Nat.zero_add] at r1 own1
    have bw2 : Below U.heap.size U w2 := b12.grown g1 b12.size fun q hq => by simp [Value.ownBlock] at hq; omega
    have o2 : w2.ownsRow U.heap.size e k (.slice A1 m C1) m us.flatten := by simpa using own1
    have hs3 := sl_grown hs2 g1 (by simp [Value.ownBlock])
    obtain ⟨A2, C2, w4, r2, own2, g2⟩ := runV (P := P) ty hk hinfo ht hzs w2 U.heap.size bw2.size _ m us o2 (some ⟨U.heap.size, 0, none⟩) 1 1 [N] hs3 hrow hone hn hn'
    exact ⟨A1, C1, w2, r1, bw2, A2, C2, w4, r2, own2, bw2.grown g2 bw2.size fun q hq => (o2.lt q hq).1⟩
/-- Elements of one cell. -/
theorem sl_t1 {w : World} {a : Option Addr} {n c : Nat} {vs : List Value} (h : Sl w a n c vs) : SlT w 1 a n c (vs.map fun v => [v]) :=
  ⟨by rw [List.length_map]; exact h.len, h.cap, h.big, h.bare, fun i r hi => by
    rw [List.getElem?_map, Option.map_eq_some_iff] at hi
    obtain ⟨v, hv, rfl⟩ := hi
    obtain ⟨b, o, ha, hs, hc⟩ := h.cell i v hv
    refine ⟨rfl, b, o, ha, hs, fun j x hx => ?_⟩
    have hj : j = 0 := by have := (List.getElem?_eq_some_iff.1 hx).1; simp at this; omega
    subst hj
    simp only [List.getElem?_cons_zero, Option.some.injEq] at hx
    subst hx
    rw [Nat.mul_one, Nat.add_zero]
    exact hc⟩
theorem flat1 (vs : List Value) : (vs.map fun v => [v]).flatten = vs := by
  induction vs with
  | nil => rfl
  | cons x r ih => rw [List.map_cons, List.flatten_cons, ih]; rfl
end App2
end Go.Proofs.Ytninglnchengeaa
