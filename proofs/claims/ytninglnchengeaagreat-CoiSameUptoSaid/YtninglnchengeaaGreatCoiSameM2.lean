/-
  Several texts in one (written by merge2.py): XApp2 XLawNeed XBadT XBadV XBadN XBadW XBadZ XGate XSetI XSortedKeys XCloneI XCone XCoiSet XOffB XCoiAdd XCloneR XConcatI XCoiCnt XCloneLA
-/
import Derived.Test.YtninglnchengeaaGreatCoiSameM1
import Derived.Laws.AppendOwn
import Derived.Laws.OwnMore
import Derived.Maps.AppendAt
import Derived.Test.YtninglnchengeaaGreatRefCheck
import Derived.Test.YtninglnchengeaaGreatCheckP
import Derived.StillTailTactics
import Derived.Test.YtninglnchengeaaGreatGateP
import Derived.Test.YtninglnchengeaaGreatLaws
import Derived.Maps.OwnOps
import Derived.Maps.Views
import Derived.Lib.SlKeysI
import Derived.Test.YtninglnchengeaaGreatBase
import Derived.Shelf.SlIterI.Nil
import Derived.Shelf.SortM.Plain
import Derived.Shelf.SortM.SortNone
import Derived.Ground.GgzProg
import Derived.Ground.SlgmProg
import Derived.Test.YtninglnchengeaaGreatCBox
import Derived.WalkSmall
import Derived.Deep.DeepCutAuto
import Derived.BigQuiet
import Derived.Lib.AppendZeros
import Derived.Maps.OwnSet
import Derived.Lib.AppendZerosOnto
import Derived.Test.YtninglnchengeaaGreatWfC
/-
  append(append([]T{}, l...), x): its two makings and two appends, in whatever order they come: their runs. No program's function.
-/
namespace Go.Proofs.YtninglnchengeaaGreat
open Go.RowKit Base
set_option linter.unusedVariables false
set_option linter.unusedSimpArgs false
namespace App2

theorem shape {w : World} {B : Nat} {e : TypeId} {k : Nat} {v : Value} {n : Nat} {xs : List Value} (h : w.ownsRow B e k v n xs) : ∃ a c, v = .slice a n c := by
  rcases h.2 with ⟨rfl, rfl⟩ | ⟨g, cap, cur, rfl, _⟩
  · exact ⟨none, 0, rfl⟩
  · exact ⟨_, _, rfl⟩

/-- append of a slice to a row of one's own: its run. -/
theorem runV {P : Program} {e t : TypeId} {k bytes : Nat} {z : Value} (ty : TypeId) (hk : 0 < k) (hinfo : (P.info? e).map (fun i => (i.zero, i.size, i.bytes)) = some (some z, k, bytes)) (ht : P.underlying t = some (.slice e)) (hzs : z.cells.size = k)
    (V : World) (B : Nat) (hB : B ≤ V.heap.size) (v : Value) (n : Nat) (vs : List (List Value)) (hown : V.ownsRow B e k v n vs.flatten) (ao : Option Addr) (m c : Nat) (us : List (List Value)) (hsl : SlT V k ao m c us) (hur : ∀ r ∈ us, r.length = k)
    (hu : ∀ u ∈ us.flatten, u.oneCell' = true) (hn : (n + m) * bytes ≤ 140737488355328) (hn' : n + m ≤ 9223372036854775807) :
    ∃ a' c' w1, (Builtin.append_ #[t, t] ty #[v, .slice ao m c]).run P V = .ok (.slice a' (n + m) c') w1 ∧ w1.ownsRow B e k (.slice a' (n + m) c') (n + m) (vs ++ us).flatten ∧ V.grownBy w1 v.ownBlock := by
  obtain ⟨i, hi, hz0, hz1, hz2⟩ := info_parts hinfo
  cases ao with
  | none =>
    obtain ⟨rfl, rfl⟩ := hsl.bare rfl
    have hus : us = [] := List.eq_nil_of_length_eq_zero hsl.len
    subst hus
    obtain ⟨a', c', rfl⟩ := shape hown
    exact ⟨a', c', V, run_append_owned_none (P := P) (w := V) B t ty e i k ht hi _ n _ hown, by simpa using hown, ⟨rfl, rfl, rfl, Nat.le_refl _, fun _ _ _ => rfl⟩⟩
  | some ad =>
    have hl : us.flatten.length = m * k := by rw [flat_len hur, hsl.len]
    obtain ⟨v', w1, hr, hown', hgrow, _, _⟩ := run_append_own_at (P := P) V B t ty e i z k bytes ht hi hz0 hz1 hz2 hzs hk v n vs.flatten hown ad m c us.flatten hl (hsl.flat hk) hu (by unfold maxLen; omega) hn hB
    obtain ⟨a', c', rfl⟩ := shape hown'
    exact ⟨a', c', w1, hr, by rw [List.flatten_append]; exact hown', hgrow⟩

theorem sl_grown {w w' : World} {k n c : Nat} {vs : List (List Value)} {g : Nat} (h : SlT w k (some ⟨g, 0, none⟩) n c vs) {ob : Option Nat} (hg : w.grownBy w' ob) (hne : some g ≠ ob) : SlT w' k (some ⟨g, 0, none⟩) n c vs :=
  ⟨h.len, h.cap, h.big, h.bare, fun i r hi => by
    obtain ⟨hl, b, o, ha, hs, hc⟩ := h.cell i r hi
    simp only [Option.some.injEq, Addr.mk.injEq] at ha
    obtain ⟨rfl, rfl, _⟩ := ha
    exact ⟨hl, g, 0, rfl, Nat.lt_of_lt_of_le hs hg.size, fun j x hx => (World.cell?_of_block (w := w) (a := ⟨g, 0 + i * k + j, none⟩) (hg.block g hs hne)).trans (hc j x hx)⟩⟩

theorem sl_one (w : World) (N : List Value) (e : TypeId) (k : Nat) (hN : N.length = k) : SlT (w.alloc (.cells N.toArray e)) k (some ⟨w.heap.size, 0, none⟩) 1 1 [N] :=
  ⟨rfl, Nat.le_refl _, by omega, fun h => (by cases h), fun i r hi => by
    obtain ⟨hi0, rfl⟩ := List.getElem?_eq_some_iff.1 hi
    have hi1 : i = 0 := by simp at hi0; omega
    subst hi1
    refine ⟨hN, w.heap.size, 0, rfl, by simp, fun j x hx => ?_⟩
    rw [World.cell?_alloc_new]
    simp at hx ⊢
    exact hx⟩

theorem exec_append {P : Program} {w : World} {o : Oper} {a : Act} {s x : Operand} {t : TypeId} {v vx v' : Value} {w' : World}
    (ho : o.op = .call { callee := .builtin .append, args := #[s, x], argTypes := #[t, t] }) (hs : a.eval s = v) (hx : a.eval x = vx)
    (hr : (Builtin.append_ #[t, t] o.type #[v, vx]).run P w = .ok v' w') : (execOp a.eval o).run P w = .ok (.value v') w' := by
  unfold execOp
  simp only [ho, resolve, invoke, builtin, Sem.run_bind, Sem.run_pure, Result.andThen_ok, List.map_toArray, List.map_cons, List.map_nil, hs, hx, hr]

def Good (U w : World) (B : Nat) (e : TypeId) (k m : Nat) (rows : List (List Value)) (A : Option Addr) (C : Nat) : Prop :=
  w.ownsRow B e k (.slice A (m + 1) C) (m + 1) rows.flatten ∧ Below B U w

theorem app2 {P : Program} {e t : TypeId} {k bytes : Nat} {z : Value} (ty : TypeId) (hk : 0 < k) (hinfo : (P.info? e).map (fun i => (i.zero, i.size, i.bytes)) = some (some z, k, bytes)) (ht : P.underlying t = some (.slice e)) (hzs : z.cells.size = k)
    (U : World) (ao : Option Addr) (m c : Nat) (us : List (List Value)) (hsl : SlT U k ao m c us) (hur : ∀ r ∈ us, r.length = k) (hu : ∀ u ∈ us.flatten, u.oneCell' = true)
    (N : List Value) (hN : N.length = k) (hN1 : ∀ u ∈ N, u.oneCell' = true) (hn : (m + 1) * bytes ≤ 140737488355328) (hn' : m + 1 ≤ 9223372036854775807) :
    (∃ A1 C1 w2, (Builtin.append_ #[t, t] ty #[.slice (some ⟨U.heap.size, 0, none⟩) 0 0, .slice ao m c]).run P (U.alloc (.cells #[] e)) = .ok (.slice A1 m C1) w2 ∧ Below U.heap.size U w2 ∧
      ∃ A2 C2 w4, (Builtin.append_ #[t, t] ty #[.slice A1 m C1, .slice (some ⟨w2.heap.size, 0, none⟩) 1 1]).run P (w2.alloc (.cells N.toArray e)) = .ok (.slice A2 (m + 1) C2) w4 ∧ Good U w4 U.heap.size e k m (us ++ [N]) A2 C2) ∧
    (∃ A1 C1 w2, (Builtin.append_ #[t, t] ty #[.slice (some ⟨U.heap.size, 0, none⟩) 0 0, .slice ao m c]).run P ((U.alloc (.cells #[] e)).alloc (.cells N.toArray e)) = .ok (.slice A1 m C1) w2 ∧ Below U.heap.size U w2 ∧
      ∃ A2 C2 w4, (Builtin.append_ #[t, t] ty #[.slice A1 m C1, .slice (some ⟨U.heap.size + 1, 0, none⟩) 1 1]).run P w2 = .ok (.slice A2 (m + 1) C2) w4 ∧ Good U w4 U.heap.size e k m (us ++ [N]) A2 C2) ∧
    (∃ A1 C1 w2, (Builtin.append_ #[t, t] ty #[.slice (some ⟨U.heap.size + 1, 0, none⟩) 0 0, .slice ao m c]).run P ((U.alloc (.cells N.toArray e)).alloc (.cells #[] e)) = .ok (.slice A1 m C1) w2 ∧ Below U.heap.size U w2 ∧
      ∃ A2 C2 w4, (Builtin.append_ #[t, t] ty #[.slice A1 m C1, .slice (some ⟨U.heap.size, 0, none⟩) 1 1]).run P w2 = .ok (.slice A2 (m + 1) C2) w4 ∧ Good U w4 U.heap.size e k m (us ++ [N]) A2 C2) := by
  have hm : (0 + m) * bytes ≤ 140737488355328 := by
    rw [Nat.zero_add]; exact Nat.le_trans (Nat.mul_le_mul_right _ (Nat.le_succ m)) hn
  have s1 : (U.alloc (.cells #[] e)).heap.size = U.heap.size + 1 := by simp
  have s2 : (U.alloc (.cells N.toArray e)).heap.size = U.heap.size + 1 := by simp
  have b1 : Below U.heap.size U (U.alloc (.cells #[] e)) := (Below.refl _ _).alloc (Nat.le_refl _) _
  have b2 : Below U.heap.size U (U.alloc (.cells N.toArray e)) := (Below.refl _ _).alloc (Nat.le_refl _) _
  have hone : ∀ u ∈ [N].flatten, u.oneCell' = true := fun u hu' => hN1 u (by simpa using hu')
  have hrow : ∀ r ∈ [N], r.length = k := fun r hr => by rw [List.mem_singleton.1 hr]; exact hN
  have o1 : (U.alloc (.cells #[] e)).ownsRow U.heap.size e k (.slice (some ⟨U.heap.size, 0, none⟩) 0 0) 0 ([] : List (List Value)).flatten :=
    World.ownsRow_lit U #[] 0 (Nat.le_refl _) (by unfold maxLen; omega) (by simp)
  have e1 : ∀ (v : Value) (ws : List (List Value)) (w : World), w.ownsRow U.heap.size e k v (0 + m) ([] ++ ws).flatten → w.ownsRow U.heap.size e k v m ws.flatten := fun v ws w h => by simpa using h
  refine ⟨?_, ?_, ?_⟩
  · obtain ⟨A1, C1, w2, r1, own1, g1⟩ := runV (P := P) ty hk hinfo ht hzs _ U.heap.size (by omega) _ 0 [] o1 ao m c us (hsl.next b1) hur hu hm (by omega)
    rw [Nat.zero_add] at r1 own1
    have bw2 : Below U.heap.size U w2 := b1.grown g1 (by omega) fun q hq => by simp [Value.ownBlock] at hq; omega
    have o2 : w2.ownsRow U.heap.size e k (.slice A1 m C1) m us.flatten := by simpa using own1
    obtain ⟨A2, C2, w4, r2, own2, g2⟩ := runV (P := P) ty hk hinfo ht hzs (w2.alloc (.cells N.toArray e)) U.heap.size (by simp; have := bw2.size; omega) _ m us (o2.alloc _) (some ⟨w2.heap.size, 0, none⟩) 1 1 [N] (sl_one w2 N e k hN) hrow hone hn hn'
    exact ⟨A1, C1, w2, r1, bw2, A2, C2, w4, r2, own2, (bw2.alloc bw2.size _).grown g2 (by simp; have := bw2.size; omega) fun q hq => (o2.lt q hq).1⟩
  · have o1' := o1.alloc (.cells N.toArray e)
    have hs2 : SlT ((U.alloc (.cells #[] e)).alloc (.cells N.toArray e)) k (some ⟨U.heap.size + 1, 0, none⟩) 1 1 [N] := by
      have h := sl_one (U.alloc (.cells #[] e)) N e k hN
      rw [s1] at h; exact h
    have b12 : Below U.heap.size U ((U.alloc (.cells #[] e)).alloc (.cells N.toArray e)) := b1.alloc (by omega) _
    obtain ⟨A1, C1, w2, r1, own1, g1⟩ := runV (P := P) ty hk hinfo ht hzs _ U.heap.size b12.size _ 0 [] o1' ao m c us (hsl.next b12) hur hu hm (by omega)
    rw [Nat.zero_add] at r1 own1
    have bw2 : Below U.heap.size U w2 := b12.grown g1 b12.size fun q hq => by simp [Value.ownBlock] at hq; omega
    have o2 : w2.ownsRow U.heap.size e k (.slice A1 m C1) m us.flatten := by simpa using own1
    have hs3 := sl_grown hs2 g1 (by simp [Value.ownBlock])
    obtain ⟨A2, C2, w4, r2, own2, g2⟩ := runV (P := P) ty hk hinfo ht hzs w2 U.heap.size bw2.size _ m us o2 (some ⟨U.heap.size + 1, 0, none⟩) 1 1 [N] hs3 hrow hone hn hn'
    exact ⟨A1, C1, w2, r1, bw2, A2, C2, w4, r2, own2, bw2.grown g2 bw2.size fun q hq => (o2.lt q hq).1⟩
  · have o1' : ((U.alloc (.cells N.toArray e)).alloc (.cells #[] e)).ownsRow U.heap.size e k (.slice (some ⟨U.heap.size + 1, 0, none⟩) 0 0) 0 ([] : List (List Value)).flatten := by
      have h := World.ownsRow_lit (base := U.heap.size) (size := k) (e := e) (U.alloc (.cells N.toArray e)) #[] 0 (by omega) (by unfold maxLen; omega) (by simp)
      rw [s2] at h; exact h
    have hs2 : SlT ((U.alloc (.cells N.toArray e)).alloc (.cells #[] e)) k (some ⟨U.heap.size, 0, none⟩) 1 1 [N] := (sl_one U N e k hN).next ((Below.refl _ _).alloc (Nat.le_refl _) _)
    have b12 : Below U.heap.size U ((U.alloc (.cells N.toArray e)).alloc (.cells #[] e)) := b2.alloc (by omega) _
    obtain ⟨A1, C1, w2, r1, own1, g1⟩ := runV (P := P) ty hk hinfo ht hzs _ U.heap.size b12.size _ 0 [] o1' ao m c us (hsl.next b12) hur hu hm (by omega)
    rw [Nat.zero_add] at r1 own1
    have bw2 : Below U.heap.size U w2 := b12.grown g1 b12.size fun q hq => by simp [Value.ownBlock] at hq; omega
    have o2 : w2.ownsRow U.heap.size e k (.slice A1 m C1) m us.flatten := by simpa using own1
    have hs3 := sl_grown hs2 g1 (by simp [Value.ownBlock])
    obtain ⟨A2, C2, w4, r2, own2, g2⟩ := runV (P := P) ty hk hinfo ht hzs w2 U.heap.size bw2.size _ m us o2 (some ⟨U.heap.size, 0, none⟩) 1 1 [N] hs3 hrow hone hn hn'
    exact ⟨A1, C1, w2, r1, bw2, A2, C2, w4, r2, own2, bw2.grown g2 bw2.size fun q hq => (o2.lt q hq).1⟩
/-- Elements of one cell. -/
theorem sl_t1 {w : World} {a : Option Addr} {n c : Nat} {vs : List Value} (h : Sl w a n c vs) : SlT w 1 a n c (vs.map fun v => [v]) :=
  ⟨by rw [List.length_map]; exact h.len, h.cap, h.big, h.bare, fun i r hi => by
    rw [List.getElem?_map, Option.map_eq_some_iff] at hi
    obtain ⟨v, hv, rfl⟩ := hi
    obtain ⟨b, o, ha, hs, hc⟩ := h.cell i v hv
    refine ⟨rfl, b, o, ha, hs, fun j x hx => ?_⟩
    have hj : j = 0 := by have := (List.getElem?_eq_some_iff.1 hx).1; simp at this; omega
    subst hj
    simp only [List.getElem?_cons_zero, Option.some.injEq] at hx
    subst hx
    rw [Nat.mul_one, Nat.add_zero]
    exact hc⟩
theorem flat1 (vs : List Value) : (vs.map fun v => [v]).flatten = vs := by
  induction vs with
  | nil => rfl
  | cons x r ih => rw [List.map_cons, List.flatten_cons, ih]; rfl
end App2
end Go.Proofs.YtninglnchengeaaGreat

/-
  The law's needed.
-/
namespace Go.Proofs.YtninglnchengeaaGreat
open Go.RowKit Base
set_option linter.unusedVariables false
set_option linter.unusedSimpArgs false
namespace Coi
open Circuit RefS App2

theorem info_i1 : (Tryz.prog.info? 3).map (fun i => (i.zero, i.size, i.bytes)) = some (some (.int .i64 0), 1, 8) := by kernel_rfl
/-- append of one to nothing, then of a list. -/
theorem one_all (U : World) (bl : Int) (ao : Option Addr) (m c : Nat) (us : List Int) (hsl : Sl U ao m c (ints us)) (hm : m ≤ 100000000) :
    ∃ A1 C1 w2, (Builtin.append_ #[22, 22] 22 #[.slice none 0 0, .slice (some ⟨U.heap.size, 0, none⟩) 1 1]).run Tryz.prog (U.alloc (.cells #[.int .i64 bl] 3)) = .ok (.slice A1 1 C1) w2 ∧ Below U.heap.size U w2 ∧
      ∃ A2 C2 w4, (Builtin.append_ #[22, 22] 22 #[.slice A1 1 C1, .slice ao m c]).run Tryz.prog w2 = .ok (.slice A2 (1 + m) C2) w4 ∧ w4.ownsRow U.heap.size 3 1 (.slice A2 (1 + m) C2) (1 + m) (ints ([bl] ++ us)) ∧ Below U.heap.size U w4 := by
  have b1 : Below U.heap.size U (U.alloc (.cells #[.int .i64 bl] 3)) := (Below.refl _ _).alloc (Nat.le_refl _) _
  have o0 : (U.alloc (.cells #[.int .i64 bl] 3)).ownsRow U.heap.size 3 1 (.slice none 0 0) 0 ([] : List (List Value)).flatten := World.ownsRow_nil _ _ _ _
  obtain ⟨A1, C1, w2, r1, own1, g1⟩ := runV (P := Tryz.prog) 22 (by decide) info_i1 Tryz.underlying22 rfl _ U.heap.size b1.size _ 0 [] o0 (some ⟨U.heap.size, 0, none⟩) 1 1 [[.int .i64 bl]] (sl_one U [.int .i64 bl] 3 1 rfl) (by simp) (by simp [Value.oneCell']) (by omega) (by omega)
  have bw2 : Below U.heap.size U w2 := b1.grown g1 b1.size fun q hq => by simp [Value.ownBlock] at hq
  have o2 : w2.ownsRow U.heap.size 3 1 (.slice A1 1 C1) 1 ([[.int .i64 bl]] : List (List Value)).flatten := by simpa using own1
  obtain ⟨A2, C2, w4, r2, own2, g2⟩ := runV (P := Tryz.prog) 22 (by decide) info_i1 Tryz.underlying22 rfl w2 U.heap.size bw2.size _ 1 _ o2 ao m c ((ints us).map fun v => [v]) (sl_t1 (hsl.next bw2)) (fun r hr => by obtain ⟨v, hv, rfl⟩ := List.mem_map.1 hr; rfl) (fun u hu => by obtain ⟨l, hl, hu⟩ := List.mem_flatten.1 hu; obtain ⟨v, hv, rfl⟩ := List.mem_map.1 hl; rw [List.mem_singleton.1 hu]; exact Base.ints_one _ v hv) (by omega) (by omega)
  refine ⟨A1, C1, w2, by simpa using r1, bw2, A2, C2, w4, r2, ?_, bw2.grown g2 bw2.size fun q hq => (o2.lt q hq).1⟩
  have e1 : ∀ l : List Value, (l.map fun v => [v]).flatten = l := fun l => by induction l with
    | nil => rfl
    | cons v r ih => rw [List.map_cons, List.flatten_cons, ih]; rfl
  have e : ([[Value.int .i64 bl]] ++ (ints us).map fun v => [v]).flatten = ints ([bl] ++ us) := by
    rw [List.flatten_append, e1]
    rfl
  rw [← e]
  exact own2

theorem sl_far {w w' : World} {a : Option Addr} {n c : Nat} {vs : List Value} (h : Sl w a n c vs) {ob : Option Nat} (hg : w.grownBy w' ob) (hne : ∀ b o, a = some ⟨b, o, none⟩ → some b ≠ ob) : Sl w' a n c vs :=
  ⟨h.len, h.cap, h.big, h.bare, fun k v hv => by
    obtain ⟨b, o, ha, hs, hc⟩ := h.cell k v hv
    exact ⟨b, o, ha, Nat.lt_of_lt_of_le hs hg.size, (World.cell?_of_block (w := w) (a := ⟨b, o + k, none⟩) (hg.block b hs (hne b o ha))).trans hc⟩⟩
theorem lat_in {x : Circ} (hok : CheckOk x) {t : Tri} (ht : t ∈ x.lats) : 0 ≤ t.1 ∧ t.1 ≤ 9223372036854775807 := by
  have h1 := ((StrashP.ownOk_iff.1 hok.2.1.1).1 t.1 (by unfold ownL; exact List.mem_append_left _ (List.mem_append_right _ (List.mem_map.2 ⟨t, ht, rfl⟩))))
  have h2 := hok.1.2.1
  have h3 := h1.2.2
  have h4 := h1.1
  unfold var at h3
  omega
theorem lits_in {x : Circ} (hok : CheckOk x) (hw : WfC x) : (∀ y ∈ x.bads, 0 ≤ y ∧ y ≤ 9223372036854775807) ∧ (∀ y ∈ x.invs, 0 ≤ y ∧ y ≤ 9223372036854775807) ∧ (∀ t ∈ x.lats, 0 ≤ t.2.1 ∧ t.2.1 ≤ 9223372036854775807) := by
  obtain ⟨_, _, _, _, _, hl, _, _, _, _, hb, hi⟩ := (check_iff x).1 hok
  exact ⟨fun y hy => ⟨(hb.1 y hy).1, (hw.bads y hy).2⟩, fun y hy => ⟨(hi.1 y hy).1, (hw.invs y hy).2⟩, fun t ht => ⟨(hl t ht).2.1, (hw.lats t ht).2.1.2⟩⟩

theorem wpL_pushW {P : Program} {w : World} {ops : Array Oper} {rest : List Oper} {dst : Option Tmp} {ty : TypeId} {pos : String} {af : Array Edge} {a : Act} {Q : Exit → Act → World → Prop}
    {s x : Operand} {t e : TypeId} {z : Value} {bytes : Nat} (B : Nat) (w0 : World) (u : Value) (v : Value) (n : Nat) (vs : List Value)
    (hinfo : (P.info? e).map (fun i => (i.zero, i.size, i.bytes)) = some (some z, 1, bytes)) (ht : P.underlying t = some (.slice e)) (hzs : z.cells.size = 1)
    (hw : w = w0.alloc (.cells #[u] e)) (hs : a.eval s = v) (hx : a.eval x = .slice (some ⟨w0.heap.size, 0, none⟩) 1 1) (hu : u.oneCell' = true)
    (hown : w0.ownsRow B e 1 v n vs) (hB : B ≤ w0.heap.size) (hn : (n + 1) * bytes ≤ 140737488355328) (hn' : n + 1 ≤ 9223372036854775807)
    (hK : ∀ a' c w1, w1.ownsRow B e 1 (.slice a' (n + 1) c) (n + 1) (vs ++ [u]) → w0.grownBy w1 v.ownBlock → (Value.slice a' (n + 1) c).ownBlock = v.ownBlock ∨ (Value.slice a' (n + 1) c).ownBlock = some (w0.heap.size + 1) → wpList P ops Q rest (a.put dst (.slice a' (n + 1) c)) w1) :
    wpList P ops Q (⟨dst, .call { callee := .builtin .append, args := #[s, x], argTypes := #[t, t] }, ty, pos, af, none⟩ :: rest) a w := by
  obtain ⟨i, hi, hz0, hz1, hz2⟩ := info_parts hinfo
  subst hw
  obtain ⟨v', w1, hr, hown', hgrow, _, hob⟩ := run_append_own_at (P := P) (w0.alloc (.cells #[u] e)) B t ty e i z 1 bytes ht hi hz0 hz1 hz2 hzs (by decide) v n vs (hown.alloc _) ⟨w0.heap.size, 0, none⟩ 1 1 [u] rfl
    (cell_one_new _ _ _) (by intro q hq; simp at hq; subst hq; exact hu) (by unfold maxLen; omega) hn (by simp; omega)
  obtain ⟨a', c, rfl, _⟩ := own_sl hown'
  refine Lib.wpList_append_run _ rfl _ _ _ _ rfl _ _ hs hx _ _ hr ?_
  exact hK a' c w1 hown' (grown_alC hgrow) (by simpa using hob)

set_option maxRecDepth 8000 in
set_option maxHeartbeats 8000000 in
theorem lawNeeded_any (w : World) (x : Circ) (p : At) (hin : InCirc w x p) (hw : WfC x) (hok : CheckOk x) (aA : Option Addr) (n cA : Nat) (vals : List Value) (A : List (List Int)) (hA : Sl2 w aA n cA vals A) (hA64 : ∀ y ∈ A.flatten, 0 ≤ y ∧ y ≤ 9223372036854775807) (k : Nat) (hk : k < x.bads.length)
    (hz1 : A.flatten.length ≤ 4000000) (hz2 : x.ands.length ≤ 4000000) :
    Calls Tryz.prog 11 #[.agg (cells x p), .slice aA n cA, .int .i64 k] w fun e w' => ∃ a' c' T, e = .returned (.slice a' T.length c') ∧ w'.ownsRow w.heap.size 3 1 (.slice a' T.length c') T.length (ints T) ∧ T.Pairwise (· < ·) ∧ (∀ v, v ∈ T ↔ v ≠ 0 ∧ NR x (A.flatten ++ x.invs ++ [x.bads[k]]) v) ∧ Below w.heap.size w w' := by
  obtain ⟨W1, hW1⟩ : ∃ W1, w.alloc (.cells (cells x p) 27) = W1 := ⟨_, rfl⟩
  obtain ⟨hb1, hc1⟩ := cbox_new w x p W1 hW1
  have HB1 := Lib.hid hb1
  have HCB := Lib.hid (fun (U : World) (hU : Below W1.heap.size W1 U) => hc1.next hU (Nat.le_refl _))
  have HIN := Lib.hid (fun (U : World) (hU : Below W1.heap.size W1 U) => (hin.next hb1).next hU)
  have HA := Lib.hid (fun (U : World) (hU : Below W1.heap.size W1 U) => (hA.next hb1).next hU)
  have HA64 := Lib.hid hA64
  have HOK := Lib.hid hok
  have HLI := Lib.hid (lits_in hok hw)
  have HBI : Hid (x.bads[k] ∈ x.bads) := List.getElem_mem hk
  have HK := Lib.hid hk
  have k4 := hc1.k4
  have k5 := hc1.k5
  have hsb := (hin.next hb1).bads
  have hcb := hsb.cap
  have hbb := hsb.big
  obtain ⟨b, o, hx, hae, hbs, e0⟩ := hsb.int hk
  obtain ⟨a1, c1, a2, c2, a3, c3, a4, c4, a5, c5, a6, c6, a7, c7⟩ := p
  simp only [cells] at *
  clear hin hok hw hA hA64 hb1 hc1 hsb
  subst hae
  go_enter Tryz.func11, Tryz.ntmps11
  go_wp2_with fail
  have hD := (Below.refl W1.heap.size W1).drew
  have hSK : ∀ U : World, Below W1.heap.size W1 U → U.cell? ⟨w.heap.size, 4, none⟩ = some (.slice (some ⟨b, o, none⟩) x.bads.length c4) ∧ U.cell? ⟨w.heap.size, 5, none⟩ = some (.slice a5 x.invs.length c5) ∧ U.cell? ⟨b, o + k, none⟩ = some (.int .i64 x.bads[k]) := fun U hU => ⟨(HCB.out U hU).k4, (HCB.out U hU).k5, (hU.cell (p := ⟨b, o + k, none⟩) hbs).trans e0⟩
  have hS0 := hSK _ hD
  obtain ⟨A1, C1, u1, r1, hu1, A2, C2, u2, r2, ho2, hu2⟩ := one_all W1.drew x.bads[k] a5 x.invs.length c5 x.invs (HIN.out _ hD).invs (by have := HOK.out.1.2.2.2.2.2.2; omega)
  generalize hbl : x.bads[k] = bl at *
  have HBL := Lib.hid hbl
  clear hbl
  have hB0 : Below W1.heap.size W1 (W1.drew.alloc (.cells #[.int .i64 bl] 3)) := hD.alloc hD.size _
  have hB1 : Below W1.heap.size W1 u1 := hD.trans hu1
  have hB2 : Below W1.heap.size W1 u2 := hD.trans hu2
  have hkl : (k : Int) < (x.bads.length : Int) := by omega
  refine HeldAll.region (fun U : World => U.cell? ⟨w.heap.size, 4, none⟩ = some (.slice (some ⟨b, o, none⟩) x.bads.length c4) ∧ U.cell? ⟨w.heap.size, 5, none⟩ = some (.slice a5 x.invs.length c5) ∧ U.cell? ⟨b, o + k, none⟩ = some (.int .i64 bl)) (by kernel_rfl) ?_
  (refine HeldAll.take (i := 0) (oi := _) (d := some 12) (v := ?_) rfl rfl (by kernel_rfl) (by kernel_rfl) (by kernel_rfl) (fun _ _ _ h => h) (Or.inl ⟨by rfl, ?_⟩) hS0 ?_; rotate_left; (focus (intro w hSw; clear hSw; go_simp; (try with_reducible rfl); done)); (try simp only [Act.put, List.setIfInBounds_toArray, List.set_cons_zero, List.set_cons_succ]))
  (refine HeldAll.take (i := 1) (oi := _) (d := some 13) (v := ?_) rfl rfl (by kernel_rfl) (by kernel_rfl) (by kernel_rfl) (fun _ _ _ h => h) (Or.inl ⟨by rfl, ?_⟩) hS0 ?_; rotate_left; (focus (intro w hSw; clear hSw; go_simp; (try with_reducible rfl); done)); (try simp only [Act.put, List.setIfInBounds_toArray, List.set_cons_zero, List.set_cons_succ]))
  (refine HeldAll.take (i := 2) (oi := _) (d := some 14) (v := ?_) rfl rfl (by kernel_rfl) (by kernel_rfl) (by kernel_rfl) (fun _ _ _ h => h) (Or.inl ⟨by rfl, ?_⟩) hS0 ?_; rotate_left; (focus (intro w hSw; (try dsimp only at hSw); go_simp; (try with_reducible rfl); done)); (try simp only [Act.put, List.setIfInBounds_toArray, List.set_cons_zero, List.set_cons_succ]))
  (refine HeldAll.take (i := 3) (oi := _) (d := some 15) (v := ?_) rfl rfl (by kernel_rfl) (by kernel_rfl) (by kernel_rfl) (fun _ _ _ h => h) (Or.inl ⟨by rfl, ?_⟩) hS0 ?_; rotate_left; (focus (intro w hSw; clear hSw; go_simp; (try with_reducible rfl); done)); (try simp only [Act.put, List.setIfInBounds_toArray, List.set_cons_zero, List.set_cons_succ]))
  (refine HeldAll.take (i := 4) (oi := _) (d := some 16) (v := ?_) rfl rfl (by kernel_rfl) (by kernel_rfl) (by kernel_rfl) (fun _ _ _ h => h) (Or.inl ⟨by rfl, ?_⟩) hS0 ?_; rotate_left; (focus (intro w hSw; clear hSw; go_simp; (try with_reducible rfl); done)); (try simp only [Act.put, List.setIfInBounds_toArray, List.set_cons_zero, List.set_cons_succ]))
  (refine HeldAll.take (i := 5) (oi := _) (d := some 17) (v := ?_) rfl rfl (by kernel_rfl) (by kernel_rfl) (by kernel_rfl) (fun _ _ _ h => h) (Or.inl ⟨by rfl, ?_⟩) hS0 ?_; rotate_left; (focus (intro w hSw; (try dsimp only at hSw); go_simp; (try with_reducible rfl); done)); (try simp only [Act.put, List.setIfInBounds_toArray, List.set_cons_zero, List.set_cons_succ]))
  (refine HeldAll.take (i := 8) (oi := _) (d := some 20) (v := ?_) rfl rfl (by kernel_rfl) (by kernel_rfl) (by kernel_rfl) (fun _ _ _ h => h) (Or.inl ⟨by rfl, ?_⟩) hS0 ?_; rotate_left; (focus (intro w hSw; clear hSw; go_simp; (try with_reducible rfl); done)); (try simp only [Act.put, List.setIfInBounds_toArray, List.set_cons_zero, List.set_cons_succ]))
  (refine HeldAll.take (i := 9) (oi := _) (d := some 21) (v := ?_) rfl rfl (by kernel_rfl) (by kernel_rfl) (by kernel_rfl) (fun _ _ _ h => h) (Or.inl ⟨by rfl, ?_⟩) hS0 ?_; rotate_left; (focus (intro w hSw; (try dsimp only at hSw); go_simp; (try with_reducible rfl); done)); (try simp only [Act.put, List.setIfInBounds_toArray, List.set_cons_zero, List.set_cons_succ]))
  refine HeldAll.one (i := 6) (by kernel_rfl) ?_
  refine HeldAll.opVal (i := 6) (oi := _) (d := some 18) (v := .slice (some ⟨W1.drew.heap.size, 0, none⟩) 1 1) (w2 := W1.drew.alloc (.cells #[.int .i64 bl] 3)) rfl rfl (by rfl) (by go_simp; done) (hSK _ hB0) ?_
  (try simp only [Act.put, List.setIfInBounds_toArray, List.set_cons_zero, List.set_cons_succ])
  refine HeldAll.one (i := 7) (by kernel_rfl) ?_
  refine HeldAll.opVal (i := 7) (oi := _) (d := some 19) (v := .slice A1 1 C1) (w2 := u1) rfl rfl (by rfl) (App2.exec_append rfl rfl rfl r1) (hSK _ hB1) ?_
  (try simp only [Act.put, List.setIfInBounds_toArray, List.set_cons_zero, List.set_cons_succ])
  refine HeldAll.one (i := 10) (by kernel_rfl) ?_
  refine HeldAll.opVal (i := 10) (oi := _) (d := some 22) (v := .slice A2 (1 + x.invs.length) C2) (w2 := u2) rfl rfl (by rfl) (App2.exec_append rfl rfl rfl r2) (hSK _ hB2) ?_
  (try simp only [Act.put, List.setIfInBounds_toArray, List.set_cons_zero, List.set_cons_succ])
  refine HeldAll.one (i := 11) (by kernel_rfl) ?_
  refine HeldAll.opVal (i := 11) (oi := _) (d := some 7) (v := .slice A2 (1 + x.invs.length) C2) (w2 := u2) rfl rfl (by rfl) (by go_simp; done) (hSK _ hB2) ?_
  (try simp only [Act.put, List.setIfInBounds_toArray, List.set_cons_zero, List.set_cons_succ])
  refine HeldAll.done (by kernel_rfl) ?_ _
  have HB2 := Lib.hid hB2
  have HO2 := Lib.hid (own_mono ho2 hD.size)
  clear hSK hS0 r1 r2 hu1 hu2 hB0 hB1 hB2 ho2 hD k4 k5 e0 hW1
  have hcapA := (HA.out W1 (Below.refl _ _)).sl.cap
  have hbigA := (HA.out W1 (Below.refl _ _)).sl.big
  have HAL := Lib.hid (HA.out W1 (Below.refl _ _)).len
  have HFI : Hid (x.invs.length ≤ 64) := by show _ ≤ _; have := HOK.out.1.2.2.2.2.2.2; omega
  have HZ := Lib.hid (And.intro hz1 hz2)
  have HTF : Hid (∀ j, ((A.take j).flatten).length ≤ A.flatten.length) := fun j => by
    have e : A.flatten = (A.take j).flatten ++ (A.drop j).flatten := by rw [← List.flatten_append, List.take_append_drop]
    rw [e, List.length_append]; omega
  clear hz1 hz2
  go_wp2_with fail
  go_loopw [7, 8] (fun s u wr => ∃ (j : Nat) (M : List Int) (a' : Option Addr) (c' : Nat), j ≤ n ∧ u = .int .i64 j ∧ s = .slice a' M.length c' ∧ Hid (M = [bl] ++ x.invs ++ (A.take j).flatten) ∧ Hid (wr.ownsRow W1.heap.size 3 1 (.slice a' M.length c') M.length (ints M)) ∧ Hid (Below W1.heap.size W1 wr)) (fun _ u _ => n - (intOf u).toNat)
  case atStart =>
    have e : ([bl] ++ x.invs : List Int).length = 1 + x.invs.length := by simp; omega
    exact ⟨0, [bl] ++ x.invs, A2, C2, Nat.zero_le _, rfl, by rw [e], (by show _ = _; simp), by show World.ownsRow _ _ _ _ _ _ _; rw [e]; exact HO2.out, HB2.out⟩
  case round =>
    clear HO2 HB2
    obtain ⟨j, M, a', c', hj, rfl, rfl, hM, hO, hB⟩ := hrel
    by_cases hlt : j < n
    · obtain ⟨b', o', a2', c2', hx2, rfl, hbs2, e0, hs0, hv⟩ := (HA.out wr hB.out).at hlt
      have HM2 : Hid (M ++ A[j] = [bl] ++ x.invs ++ (A.take (j + 1)).flatten) := by
        show _ = _
        rw [hM.out, List.take_succ_eq_append_getElem hx2, List.flatten_append]; simp
      have hml : M.length + A[j].length ≤ 4000065 := by
        have h := congrArg List.length HM2.out
        simp only [List.length_append, List.length_singleton] at h
        have := HTF.out (j + 1); have := HZ.out.1; have := HFI.out
        omega
      have HBS := Lib.hid hB.out.size
      have hown := hO.out
      have hbb2 := hB.out
      have hsz := hB.out.size
      clear hM hO hv
      generalize A[j] = l at *
      clear hx2
      go_wp2_with ((with_reducible refine wpL_app W1.heap.size (.slice a' M.length c') M.length (ints M) a2' l.length c2' (ints l) info_i1 Tryz.underlying22 ?_ ?_ ?_ (Base.ints_one _) hown hs0 hsz ?_ ?_ hbb2 ?_); rfl; rfl; rfl; omega; omega; (intro a5' c5' w5 hown5 hb5 hs5))
      have e5 : (M ++ l).length = M.length + l.length := List.length_append
      have HO5 : Hid (w5.ownsRow W1.heap.size 3 1 (.slice a5' (M ++ l).length c5') (M ++ l).length (ints (M ++ l))) := by
        show World.ownsRow _ _ _ _ _ _ _
        rw [e5, ← ints_app]; exact hown5
      have HB5 := Lib.hid hb5
      clear hown hbb2 hsz hown5 hb5 hs5 hs0
      go_roundw
      case rel =>
        refine ⟨_, _, _, _, _, _, _, _, _, _, _, _, _, _, ?_, rfl⟩
        exact ⟨j + 1, M ++ l, a5', c5', by omega, by go_num, by rw [e5], HM2.out, HO5.out, HB5.out⟩
      case measure => simp [intOf]; omega
    · have HMM : Hid (M = [bl] ++ x.invs ++ A.flatten) := by
        show _ = _
        rw [hM.out, List.take_of_length_le (by have := HAL.out; omega)]
      generalize wr = w3 at *
      have CB := HCB.out w3 hB.out
      have m0 : w3.cell? ⟨w.heap.size, 0, none⟩ = some (.int .i64 x.max) := CB.k0
      have m1 : w3.cell? ⟨w.heap.size, 1, none⟩ = some (.slice a1 x.ins.length c1) := CB.k1
      have m2 : w3.cell? ⟨w.heap.size, 2, none⟩ = some (.slice a2 x.lats.length c2) := CB.k2
      have m3 : w3.cell? ⟨w.heap.size, 3, none⟩ = some (.slice a3 x.outs.length c3) := CB.k3
      have m4 : w3.cell? ⟨w.heap.size, 4, none⟩ = some (.slice (some ⟨b, o, none⟩) x.bads.length c4) := CB.k4
      have m5 : w3.cell? ⟨w.heap.size, 5, none⟩ = some (.slice a5 x.invs.length c5) := CB.k5
      have m6 : w3.cell? ⟨w.heap.size, 6, none⟩ = some (.slice a6 x.ands.length c6) := CB.k6
      have m7 : w3.cell? ⟨w.heap.size, 7, none⟩ = some (.slice a7 x.names.length c7) := CB.k7
      have HMR : Hid (∀ y ∈ M, 0 ≤ y ∧ y ≤ 9223372036854775807) := fun y hy => by
        rw [HMM.out, List.mem_append, List.mem_append, List.mem_singleton] at hy
        rcases hy with (rfl | hy) | hy
        · exact HLI.out.1 _ HBI.out
        · exact HLI.out.2.1 y hy
        · exact HA64.out y hy
      have HML : Hid (M.length ≤ 4000065) := by
        show _ ≤ _
        have h := congrArg List.length HMM.out
        simp only [List.length_append, List.length_singleton] at h
        have := HZ.out.1; have := HFI.out
        omega
      have HCO := Lib.hid (refCone_any w3 x (⟨a1, c1, a2, c2, a3, c3, some ⟨b, o, none⟩, c4, a5, c5, a6, c6, a7, c7⟩ : At) (HIN.out w3 hB.out) HOK.out a' c' M (own_sl' hO.out) HMR.out (by have := HML.out; have := HZ.out.2; omega))
      simp only [cells] at HCO
      clear hM CB
      go_wp2_with fail
      with_reducible refine HCO.out.mono ?_
      rintro e w4 ⟨aT, cT, T, rfl, hsT, hT1, hT2, hb4⟩
      have HST := Lib.hid (own_mono hsT hB.out.size)
      have HDJ : Hid (∀ g, (Value.slice aT T.length cT).ownBlock = some g → (Value.slice a' M.length c').ownBlock ≠ some g) := fun g h1 h2 => by
        have := (hsT.lt g h1).1
        have := (hO.out.lt g h2).2
        omega
      have HLV := Lib.hid (linv_start hT1 hT2)
      have HB4 := Lib.hid (hB.out.trans (hb4.mono hB.out.size))
      have HO4 := Lib.hid (own_next hO.out hb4)
      clear hsT hT1 hT2 hb4 hB hO m0 m1 m2 m3 m4 m5 m6 m7 HCO
      go_wp2_with fail
      go_loopw [7, 9, 10] (fun s7 s9 s10 wr => ∃ (L T : List Int) (aL : Option Addr) (cL : Nat) (aT : Option Addr) (cT : Nat) (q : Int), s7 = .slice aL L.length cL ∧ s9 = .slice aT T.length cT ∧ s10 = .int .i64 q ∧ Hid (-1 ≤ q ∧ q ≤ T.length ∧ L.length ≤ M.length + 64 * (q + 1)) ∧ Hid (wr.ownsRow W1.heap.size 3 1 (.slice aL L.length cL) L.length (ints L)) ∧ Hid (wr.ownsRow W1.heap.size 3 1 (.slice aT T.length cT) T.length (ints T)) ∧ Hid (∀ g, (Value.slice aT T.length cT).ownBlock = some g → (Value.slice aL L.length cL).ownBlock ≠ some g) ∧ Hid (LInv x M L T) ∧ Hid (∀ y ∈ L, 0 ≤ y ∧ y ≤ 9223372036854775807) ∧ Hid (q = T.length → LShut x T) ∧ Hid (Below W1.heap.size W1 wr)) (fun _ _ u _ => M.length + 2 * x.ands.length + x.lats.length + 1 - (intOf u + 1).toNat)
      case atStart => exact ⟨M, T, a', c', aT, cT, -1, rfl, rfl, rfl, ⟨by omega, by omega, by omega⟩, HO4.out, own_next HST.out (Below.refl _ _), HDJ.out, HLV.out, HMR.out, (fun h => by omega), HB4.out⟩
      case round =>
        clear HO4 HST HDJ HLV HMR HB4
        obtain ⟨L, T2, aL, cL, aT2, cT2, q, rfl, rfl, rfl, hq, hO, hT, hdj, hLV, hLR, hsh, hB⟩ := hrel
        by_cases hlt : q < T2.length
        · have hd : decide (q < (T2.length : Int)) = true := decide_eq_true hlt
          have HT := Lib.hid (own_sl' hT.out)
          have HNE : Hid (∀ b o, aT2 = some ⟨b, o, none⟩ → b < wr.heap.size ∧ some b ≠ (Value.slice aL L.length cL).ownBlock) := fun b o e => ⟨(hT.out.lt b (by rw [e]; rfl)).2, fun h => hdj.out b (by rw [e]; rfl) h.symm⟩
          have HLO := hO
          have HB0 := hB
          have hT64 : T2.length ≤ 9223372036854775807 := by have := linv_few hLV.out; have := HML.out; have := HZ.out.2; have := HOK.out.1.2.2.2.1; omega
          generalize wr = w5 at *
          clear hsh hdj hT hO hB
          go_wp2_with fail
          go_loopw [7, 11] (fun s7 u wq => ∃ (i : Nat) (L2 : List Int) (aL2 : Option Addr) (cL2 : Nat), i ≤ x.lats.length ∧ u = .int .i64 i ∧ s7 = .slice aL2 L2.length cL2 ∧ Hid (L2 = L ++ nexts T2 (x.lats.take i)) ∧ Hid (wq.ownsRow W1.heap.size 3 1 (.slice aL2 L2.length cL2) L2.length (ints L2)) ∧ Hid (Sl wq aT2 T2.length cT2 (ints T2)) ∧ Hid (∀ b o, aT2 = some ⟨b, o, none⟩ → b < wq.heap.size ∧ some b ≠ (Value.slice aL2 L2.length cL2).ownBlock) ∧ Hid (Below W1.heap.size W1 wq)) (fun _ u _ => x.lats.length - (intOf u).toNat)
          case atStart => exact ⟨0, L, aL, cL, Nat.zero_le _, rfl, rfl, (by show _ = _; simp [nexts]), HLO.out, HT.out, HNE.out, HB0.out⟩
          case round =>
            clear HLO HT HNE HB0
            obtain ⟨i, L2, aL2, cL2, hi, rfl, rfl, hL2, hO, hS, hne, hB⟩ := hrel
            have m2 := (HCB.out wr hB.out).k2
            have hla := (HIN.out wr hB.out).lats
            have hca := hla.cap
            have hga := hla.big
            simp only at m2 hca hga
            by_cases hil : i < x.lats.length
            · obtain ⟨bt, ot, hxt, hae, hbt, d0, d1, d2⟩ := hla.tri hil
              simp only at hae
              subst hae
              have hlit : 0 ≤ x.lats[i].1 ∧ x.lats[i].1 ≤ 9223372036854775807 := lat_in HOK.out (List.getElem_mem hxt)
              obtain ⟨vq, hvq, hvq2⟩ : ∃ v : Int, Int.tdiv x.lats[i].1 2 = v ∧ v = var x.lats[i].1 := ⟨_, rfl, by unfold var; rw [Int.max_eq_left hlit.1]; exact Int.tdiv_eq_ediv_of_nonneg hlit.1⟩
              have hwq : IntKind.i64.wrap vq = vq := IntWalk.i64_in _ (by rw [hvq2]; unfold var; omega)
              have HHAS := Lib.hid (Circuit.has_any wr aT2 T2.length cT2 T2 hS.out vq)
              by_cases hin : var x.lats[i].1 ∈ T2
              · have HN2 : Hid (L2 ++ [x.lats[i].2.1] = L ++ nexts T2 (x.lats.take (i + 1))) := by show _ = _; rw [nexts_yes hxt hin, hL2.out, List.append_assoc]
                rw [← hvq2] at hin
                rw [tt_pos hin] at HHAS
                clear hin hL2 hvq2 hlit
                generalize x.lats[i] = t at *
                go_wp2_with fail
                with_reducible refine HHAS.out.mono ?_
                rintro e wx ⟨rfl, rfl⟩
                have hownL := hO.out
                have hszL := hB.out.size
                have hlenL : L2.length ≤ 1000000000000 := by
                  have h := congrArg List.length HN2.out
                  simp only [List.length_append, List.length_singleton] at h
                  have h2 := nexts_len T2 (x.lats.take (i + 1))
                  rw [List.length_take] at h2
                  have := hq.out; have := HML.out; have := HOK.out.1.2.2.2.1; have := linv_few hLV.out; have := HZ.out.2
                  omega
                go_wp2_with ((with_reducible refine wpL_pushW (B := W1.heap.size) _ (.int .i64 t.2.1) _ L2.length (ints L2) info_i1 Tryz.underlying22 ?_ ?_ ?_ ?_ ?_ hownL ?_ ?_ ?_ ?_); rfl; rfl; rfl; rfl; rfl; (exact hszL); omega; omega; (intro a7' c7' w6 hown6 hg6 how6))
                have hS6 := sl_far hS.out hg6 (fun b o e => (hne.out b o e).2)
                have hB6 := hB.out.grown hg6 hszL (fun q hq => (hownL.lt q hq).1)
                have hne6 : Hid (∀ b o, aT2 = some ⟨b, o, none⟩ → b < w6.heap.size ∧ some b ≠ (Value.slice a7' (L2.length + 1) c7').ownBlock) := fun b o e => ⟨Nat.lt_of_lt_of_le (hne.out b o e).1 hg6.size, fun h => by
                  rcases how6 with h6 | h6
                  · exact (hne.out b o e).2 (h.trans h6)
                  · rw [h6] at h
                    have h1 := (hne.out b o e).1
                    injection h with h
                    omega⟩
                have e6 : (L2 ++ [t.2.1]).length = L2.length + 1 := List.length_append
                have HO6 : Hid (w6.ownsRow W1.heap.size 3 1 (.slice a7' (L2 ++ [t.2.1]).length c7') (L2 ++ [t.2.1]).length (ints (L2 ++ [t.2.1]))) := by
                  show World.ownsRow _ _ _ _ _ _ _
                  rw [e6, ← ints_app]; exact hown6
                have HS6 := Lib.hid hS6
                have HB6 := Lib.hid hB6
                clear hownL hszL hown6 hg6 how6 hS6 hB6
                go_roundw
                case rel =>
                  exact ⟨i + 1, L2 ++ [t.2.1], a7', c7', by omega, by go_num, by rw [e6], HN2.out, HO6.out, HS6.out, (by rw [e6]; exact hne6.out), HB6.out⟩
                case measure => simp [intOf]; omega
              · have HN2 : Hid (L2 = L ++ nexts T2 (x.lats.take (i + 1))) := by show _ = _; rw [nexts_no hxt hin, hL2.out]
                rw [← hvq2] at hin
                rw [tt_neg hin] at HHAS
                clear hin hL2 hvq2 hlit
                generalize x.lats[i] = t at *
                go_wp2_with fail
                with_reducible refine HHAS.out.mono ?_
                rintro e wx ⟨rfl, rfl⟩
                go_wp2_with fail
                go_roundw
                case rel => exact ⟨i + 1, L2, aL2, cL2, by omega, by go_num, rfl, HN2.out, hO.out, hS.out, hne.out, hB.out⟩
                case measure => simp [intOf]; omega
            · have HL3 : Hid (L2 = L ++ nexts T2 x.lats) := by
                show _ = _
                rw [hL2.out, List.take_of_length_le (by omega)]
              clear m2 hla hca hga hL2
              generalize wr = w7 at *
              have CB := HCB.out w7 hB.out
              have m0 : w7.cell? ⟨w.heap.size, 0, none⟩ = some (.int .i64 x.max) := CB.k0
              have m1 : w7.cell? ⟨w.heap.size, 1, none⟩ = some (.slice a1 x.ins.length c1) := CB.k1
              have m2 : w7.cell? ⟨w.heap.size, 2, none⟩ = some (.slice a2 x.lats.length c2) := CB.k2
              have m3 : w7.cell? ⟨w.heap.size, 3, none⟩ = some (.slice a3 x.outs.length c3) := CB.k3
              have m4 : w7.cell? ⟨w.heap.size, 4, none⟩ = some (.slice (some ⟨b, o, none⟩) x.bads.length c4) := CB.k4
              have m5 : w7.cell? ⟨w.heap.size, 5, none⟩ = some (.slice a5 x.invs.length c5) := CB.k5
              have m6 : w7.cell? ⟨w.heap.size, 6, none⟩ = some (.slice a6 x.ands.length c6) := CB.k6
              have m7 : w7.cell? ⟨w.heap.size, 7, none⟩ = some (.slice a7 x.names.length c7) := CB.k7
              have HLR2 : Hid (∀ y ∈ L2, 0 ≤ y ∧ y ≤ 9223372036854775807) := fun y hy => by
                rw [HL3.out] at hy
                rcases List.mem_append.1 hy with hy | hy
                · exact hLR.out y hy
                · obtain ⟨t, ht, _, rfl⟩ := nexts_mem.1 hy
                  exact HLI.out.2.2 t ht
              have HLL : Hid (L2.length ≤ M.length + 64 * (T2.length + 1)) := by
                show _ ≤ _
                have h := congrArg List.length HL3.out
                rw [List.length_append] at h
                have h2 := nexts_len T2 x.lats
                have := hq.out; have := HOK.out.1.2.2.2.1
                omega
              have HCO := Lib.hid (refCone_any w7 x (⟨a1, c1, a2, c2, a3, c3, some ⟨b, o, none⟩, c4, a5, c5, a6, c6, a7, c7⟩ : At) (HIN.out w7 hB.out) HOK.out aL2 cL2 L2 (own_sl' hO.out) HLR2.out (by have := HLL.out; have := HML.out; have := HZ.out.2; have := linv_few hLV.out; have := HOK.out.1.2.2.2.1; omega))
              simp only [cells] at HCO
              clear CB
              go_wp2_with fail
              with_reducible refine HCO.out.mono ?_
              rintro e w8 ⟨aT3, cT3, T3, rfl, hsT, hT1, hT2, hb8⟩
              have HN := Lib.hid (linv_next hLV.out hT1 (by rw [← HL3.out]; exact hT2))
              rw [← HL3.out] at HN
              have HST := Lib.hid (own_mono hsT hB.out.size)
              have HDJ : Hid (∀ g, (Value.slice aT3 T3.length cT3).ownBlock = some g → (Value.slice aL2 L2.length cL2).ownBlock ≠ some g) := fun g h1 h2 => by
                have := (hsT.lt g h1).1
                have := (hO.out.lt g h2).2
                omega
              have HB8 := Lib.hid (hB.out.trans (hb8.mono hB.out.size))
              have HO8 := Lib.hid (own_next hO.out hb8)
              clear hsT hT1 hT2 hb8 hB hO m0 m1 m2 m3 m4 m5 m6 m7 HCO
              have hqq : (-1 : Int) ≤ (T2.length : Int) ∧ (T2.length : Int) ≤ T3.length ∧ (L2.length : Int) ≤ M.length + 64 * ((T2.length : Int) + 1) := ⟨by omega, by have := HN.out.2.1; omega, by have := HLL.out; omega⟩
              have HQQ := Lib.hid hqq
              have HME := Lib.hid (And.intro (linv_few hLV.out) hq.out.1)
              clear hqq
              go_wp2_with fail
              go_roundw
              case rel => exact ⟨L2, T3, aL2, cL2, aT3, cT3, T2.length, rfl, rfl, rfl, HQQ.out, HO8.out, HST.out, HDJ.out, HN.out.1, HLR2.out, (fun h => HN.out.2.2 (by omega)), HB8.out⟩
              case measure => have := HME.out; simp [intOf]; omega
        · have hd : decide (q < (T2.length : Int)) = false := decide_eq_false hlt
          have HE := Lib.hid (linv_end hLV.out (hsh.out (by have := hq.out; omega)))
          have HNS := Lib.hid (fun v => nr_same (x := x) (l := M) (l2 := A.flatten ++ x.invs ++ [bl]) (fun t => by rw [HMM.out]; simp only [List.mem_append, List.mem_singleton]; constructor <;> intro h <;> (rcases h with (h | h) | h) <;> simp [h]) v)
          go_wp2_with fail
          go_ret
          exact ⟨aT2, cT2, T2, rfl, own_mono hT.out HB1.out.size, hLV.out.rise, fun v => (HE.out v).trans (and_congr Iff.rfl (by rw [HBL.out, ← List.append_assoc]; exact HNS.out v)), HB1.out.trans (hB.out.mono HB1.out.size)⟩
end Coi
end Go.Proofs.YtninglnchengeaaGreat

/-
  interlockref07's Allowed, Values, Next.
-/
namespace Go.Proofs.YtninglnchengeaaGreat
open Go.RowKit Base
set_option linter.unusedVariables false
set_option linter.unusedSimpArgs false
namespace BadP
open Circuit Coi

set_option maxHeartbeats 4000000 in
theorem allowed_any (w : World) (x : Circ) (p : At) (hin : InCirc w x p) (L : List Bool) (hL : L.length ≤ 9223372036854775807) (hv64 : ∀ y ∈ x.invs, 0 ≤ y ∧ y ≤ 9223372036854775807) (aA : Option Addr) (n cA : Nat) (vs : List Value) (A : List (List Int)) (hA : Sl2 w aA n cA vs A) (hA64 : ∀ y ∈ A.flatten, 0 ≤ y ∧ y ≤ 9223372036854775807) :
    Calls Tryz.prog 40 #[.agg (cells x p), .slice aA n cA, .string (bs L)] w fun e w' => e = .returned (.bool (allow x A L)) ∧ Below w.heap.size w w' := by
  obtain ⟨W1, hW1⟩ : ∃ U, w.alloc (.cells (cells x p) 27) = U := ⟨_, rfl⟩
  obtain ⟨hb1, hx1⟩ := cbox_new w x p W1 hW1
  have HB1 := Lib.hid hb1
  have HV := Lib.hid (hin.next hb1).invs
  have HA := Lib.hid (hA.next hb1)
  have HT : Hid (∀ y, y ∈ x.invs → Calls Tryz.prog 41 #[.string (bs L), .int .i64 y] W1 fun e w' => e = .returned (.bool (litV L y)) ∧ w' = W1) := fun y h => refTrue_any W1 L y (hv64 y h).1 (hv64 y h).2 hL
  have HH : Hid (∀ (k : Nat) (h : k < A.length) (a : Option Addr) (m c : Nat), Sl W1 a m c (ints A[k]) → Calls Tryz.prog 67 #[.string (bs L), .slice a m c] W1 fun e w' => e = .returned (.bool (A[k].any (litV L))) ∧ w' = W1) := fun k h a m c hs =>
    holds_any W1 L hL a m c A[k] hs (fun y hy => hA64 y (List.mem_flatten.2 ⟨A[k], List.getElem_mem h, hy⟩))
  have HX := Lib.hid hx1
  have hcv := hin.invs.cap
  have hgv := hin.invs.big
  have hca := hA.sl.cap
  have hga := hA.sl.big
  have HAL := Lib.hid hA.len
  obtain ⟨a1, c1, a2, c2, a3, c3, a4, c4, a5, c5, a6, c6, a7, c7⟩ := p
  simp only [cells] at *
  have HOK : Hid (allow x A L = (x.invs.all (litV L) && A.all fun c => c.any (litV L))) := rfl
  generalize bs L = s at *
  clear hin hA hA64 hv64 hL hb1 hx1
  go_enter Tryz.func40, Tryz.ntmps40
  go_wp2_with fail
  go_loopw [7] (fun i wr => ∃ k : Nat, k ≤ x.invs.length ∧ i = .int .i64 k ∧ Hid ((x.invs.take k).all (litV L) = true) ∧ wr = W1) (fun i _ => x.invs.length - (intOf i).toNat)
  case atStart => exact ⟨0, Nat.zero_le _, rfl, rfl, rfl⟩
  case round =>
    obtain ⟨k, hk, rfl, hF, rfl⟩ := hrel
    have m5 := HX.out.k5
    try simp only at m5 hcv hgv
    by_cases hlt : k < x.invs.length
    · obtain ⟨b, o, hx, hae, hbs, d0⟩ := HV.out.int hlt
      try simp only at hae
      subst hae
      have HTK := Lib.hid (HT.out _ (List.getElem_mem hx))
      have HNO : Hid (litV L x.invs[k] = false → allow x A L = false) := fun h => by
        show (_ && _) = false
        rw [Bool.and_eq_false_iff]
        left
        rw [List.all_eq_false]
        exact ⟨_, List.getElem_mem hx, by rw [h]; decide⟩
      have HYE : Hid (litV L x.invs[k] = true → (x.invs.take (k + 1)).all (litV L) = true) := fun h => by rw [List.take_succ_eq_append_getElem hx, List.all_append, hF.out]; simp [h]
      generalize x.invs[k] = y at *
      generalize litV L y = q at *
      cases q
      · have HN2 : Hid (allow x A L = false) := HNO.out rfl
        clear HNO HYE
        go_wp2_with fail
        with_reducible refine HTK.out.mono ?_
        rintro e wx ⟨rfl, rfl⟩
        go_wp2_with fail
        go_ret
        exact ⟨by rw [HN2.out]; rfl, HB1.out⟩
      · have HY2 : Hid ((x.invs.take (k + 1)).all (litV L) = true) := HYE.out rfl
        clear HNO HYE
        go_wp2_with fail
        with_reducible refine HTK.out.mono ?_
        rintro e wx ⟨rfl, rfl⟩
        go_wp2_with fail
        go_roundw
        case rel => exact ⟨k + 1, by omega, by go_num, HY2.out, by first | rfl | trivial⟩
        case measure => simp [intOf]; omega
    · have HVA : Hid (x.invs.all (litV L) = true) := by
        show _ = _
        have h := hF.out
        rwa [List.take_of_length_le (by omega)] at h
      go_wp2_with fail
      go_loopw [8] (fun i wq => ∃ k : Nat, k ≤ n ∧ i = .int .i64 k ∧ Hid ((A.take k).all (fun c => c.any (litV L)) = true) ∧ wq = wr) (fun i _ => n - (intOf i).toNat)
      case atStart => exact ⟨0, Nat.zero_le _, rfl, rfl, rfl⟩
      case round =>
        obtain ⟨j, hj, rfl, hG, rfl⟩ := hrel
        by_cases hjt : j < n
        · obtain ⟨b', o', a2', c2', hx2, rfl, hbs2, e0, hs0, hv⟩ := HA.out.at hjt
          have HTK := Lib.hid (HH.out j hx2 _ _ _ hs0)
          have HNO : Hid (A[j].any (litV L) = false → allow x A L = false) := fun h => by
            show (_ && _) = false
            rw [Bool.and_eq_false_iff]
            right
            rw [List.all_eq_false]
            exact ⟨_, List.getElem_mem hx2, by rw [h]; decide⟩
          have HYE : Hid (A[j].any (litV L) = true → (A.take (j + 1)).all (fun c => c.any (litV L)) = true) := fun h => by rw [List.take_succ_eq_append_getElem hx2, List.all_append, hG.out]; simp [h]
          clear hv
          generalize A[j].any (litV L) = q at *
          generalize A[j] = l at *
          cases q
          · have HN2 : Hid (allow x A L = false) := HNO.out rfl
            clear HNO HYE
            go_wp2_with fail
            with_reducible refine HTK.out.mono ?_
            rintro e wx ⟨rfl, rfl⟩
            go_wp2_with fail
            go_ret
            exact ⟨by rw [HN2.out]; rfl, HB1.out⟩
          · have HY2 : Hid ((A.take (j + 1)).all (fun c => c.any (litV L)) = true) := HYE.out rfl
            clear HNO HYE
            go_wp2_with fail
            with_reducible refine HTK.out.mono ?_
            rintro e wx ⟨rfl, rfl⟩
            go_wp2_with fail
            go_roundw
            case rel => exact ⟨j + 1, by omega, by go_num, HY2.out, by first | rfl | trivial⟩
            case measure => simp [intOf]; omega
        · have HE : Hid (allow x A L = true) := by
            show (_ && _) = true
            rw [HVA.out]
            have h := hG.out
            rw [List.take_of_length_le (by have := HAL.out; omega)] at h
            rw [h]; rfl
          go_wp2_with fail
          go_ret
          exact ⟨by rw [HE.out]; rfl, HB1.out⟩
end BadP
end Go.Proofs.YtninglnchengeaaGreat

/-
  interlockref07's Values (written by values.py).
-/
namespace Go.Proofs.YtninglnchengeaaGreat
open Go.RowKit Base
set_option linter.unusedVariables false
set_option linter.unusedSimpArgs false
namespace BadP
open Circuit Coi

theorem putAll_snoc (ps : List (Int × Bool)) (p : Int × Bool) (L : List Bool) : putAll (ps ++ [p]) L = setB (putAll ps L) (var p.1) p.2 := by unfold putAll; rw [List.foldl_append]; rfl
theorem bits_bs (L : List Bool) {n : Nat} (h : L.length = n) : RefBits.bits (bs L).data.toList (n : Int) = true := by
  unfold RefBits.bits
  rw [bs_list, Bool.and_eq_true]
  refine ⟨List.all_eq_true.2 fun c hc => ?_, decide_eq_true (by rw [List.length_map]; omega)⟩
  obtain ⟨b, _, rfl⟩ := List.mem_map.1 hc
  cases b <;> rfl
theorem own_pos {x : Circ} (hok : CheckOk x) : ∀ y ∈ ownL x, 0 ≤ y ∧ y ≤ 9223372036854775807 := fun y hy => by
  have h1 := (StrashP.ownOk_iff.1 hok.2.1.1).1 y hy
  have h2 := hok.1.2.1
  have h3 := h1.2.2
  have h4 := h1.1
  unfold var at h3
  omega
theorem and_lits {x : Circ} (hok : CheckOk x) : ∀ t ∈ x.ands, (0 ≤ t.2.1 ∧ t.2.1 ≤ 9223372036854775807) ∧ (0 ≤ t.2.2 ∧ t.2.2 ≤ 9223372036854775807) := fun t ht => by
  obtain ⟨k1, k2, k3, k4⟩ := hok.2.2.2.1 t ht
  have h1 := own_pos hok t.1 (and_own ht)
  have h3 := k1.1
  have h4 := k2.1
  omega

set_option maxRecDepth 8000 in
set_option maxHeartbeats 16000000 in
theorem values_any (w : World) (x : Circ) (p : At) (hin : InCirc w x p) (hw : WfC x) (hok : CheckOk x) (hza : x.ands.length * 24 ≤ 140737488355328) (st inp : List Bool) (hst : st.length = x.lats.length) (hinp : inp.length = x.ins.length) :
    Calls Tryz.prog 39 #[.agg (cells x p), .string (bs st), .string (bs inp)] w fun e w' => e = .returned (.tuple #[.string (bs (vals x st inp)), .int .i64 0]) ∧ Below w.heap.size w w' := by
  obtain ⟨W1, hW1⟩ : ∃ U, w.alloc (.cells (cells x p) 27) = U := ⟨_, rfl⟩
  obtain ⟨hb1, hx1⟩ := cbox_new w x p W1 hW1
  have HB1 := Lib.hid hb1
  have HX := Lib.hid (fun (U : World) (hU : Below W1.heap.size W1 U) => hx1.next hU (Nat.le_refl _))
  have HIN := Lib.hid (fun (U : World) (hU : Below W1.heap.size W1 U) => (hin.next hb1).next hU)
  have hrc := refCheck_any W1 x p (hin.next hb1) hw hza
  rw [refchk_pos ((check_iff _).1 hok)] at hrc
  have HOWN := Lib.hid (own_at hok)
  have HOW2 := Lib.hid (own_pos hok)
  have HAN := Lib.hid (and_lits hok)
  have HMX : Hid (0 ≤ x.max ∧ x.max ≤ 2048) := ⟨hok.1.1, hok.1.2.1⟩
  obtain ⟨mx, hmx⟩ : ∃ m : Nat, x.max = (m : Int) := ⟨x.max.toNat, by have := HMX.out.1; omega⟩
  have HMM := Lib.hid hmx
  have hmx2 : mx ≤ 2048 := by have := HMX.out; omega
  have HstL := Lib.hid hst
  have HinpL := Lib.hid hinp
  obtain ⟨tst, htst⟩ : ∃ t, bs st = t := ⟨_, rfl⟩
  obtain ⟨tinp, htinp⟩ : ∃ t, bs inp = t := ⟨_, rfl⟩
  have HstZ : Hid (tst.size = st.length) := by show _ = _; rw [← htst, bs_size]
  have HinpZ : Hid (tinp.size = inp.length) := by show _ = _; rw [← htinp, bs_size]
  have HstB : Hid (∀ (j : Nat) (h : j < tst.size) (h2 : j < st.length), tst[j]'h = byteB st[j]) := fun j h h2 => by subst htst; rw [bs_at st h, List.getD_eq_getElem?_getD, List.getElem?_eq_getElem h2]; rfl
  have HinpB : Hid (∀ (j : Nat) (h : j < tinp.size) (h2 : j < inp.length), tinp[j]'h = byteB inp[j]) := fun j h h2 => by subst htinp; rw [bs_at inp h, List.getD_eq_getElem?_getD, List.getElem?_eq_getElem h2]; rfl
  have HBT1 := fun (U : World) => RefBits.bits_any U tst (by rw [HstZ.out, hst]; have := hok.1.2.2.2.1; omega) (x.lats.length : Int)
  rw [← htst, bits_bs st hst, htst] at HBT1
  have HBT2 := fun (U : World) => RefBits.bits_any U tinp (by rw [HinpZ.out, hinp]; have := hok.1.2.2.1; omega) (x.ins.length : Int)
  rw [← htinp, bits_bs inp hinp, htinp] at HBT2
  have HT1 := Lib.hid HBT1
  have HT2 := Lib.hid HBT2
  rw [htst, htinp]
  obtain ⟨a1, c1, a2, c2, a3, c3, a4, c4, a5, c5, a6, c6, a7, c7⟩ := p
  simp only [cells] at hW1 hrc ⊢
  have HRC := Lib.hid hrc
  have hf0 := hx1.k0
  have hf1 := hx1.k1
  have hf2 := hx1.k2
  clear hmx hin hw hok hza hst hinp hb1 hrc htst htinp HBT1 HBT2 hx1
  try simp only at hf0 hf1 hf2
  go_enter Tryz.func39, Tryz.ntmps39
  clear hf0 hf1 hf2
  have c := HX.out W1 (Below.refl _ _)
  have k0 := c.k0
  have k1 := c.k1
  have k2 := c.k2
  have k3 := c.k3
  have k4 := c.k4
  have k5 := c.k5
  have k6 := c.k6
  have k7 := c.k7
  clear c
  go_wp2_with fail
  clear hW1
  with_reducible refine HRC.out.mono ?_
  rintro e w2 ⟨rfl, hb2⟩
  have HB2 := Lib.hid hb2
  clear k0 k1 k2 k3 k4 k5 k6 k7
  have c := HX.out w2 hb2
  have k1 := c.k1
  have k2 := c.k2
  have k0 := c.k0
  rw [HMM.out] at k0
  try simp only at k1 k2
  clear c hb2
  go_wp2_with fail
  with_reducible refine (HT1.out w2).mono ?_
  rintro e w3 ⟨rfl, rfl⟩
  go_wp2_with fail
  with_reducible refine (HT2.out w2).mono ?_
  rintro e w3 ⟨rfl, rfl⟩
  clear k1 k2
  go_wp2_with fail
  go_loopw [8, 9] (fun s u wr => ∃ j : Nat, j ≤ mx + 1 ∧ u = .int .i64 j ∧ s = .string (bs (List.replicate j false)) ∧ wr = w2) (fun _ u _ => mx + 1 - (intOf u).toNat)
  case atStart => exact ⟨0, Nat.zero_le _, rfl, rfl, rfl⟩
  case round =>
    obtain ⟨j, hj, rfl, rfl, rfl⟩ := hrel
    by_cases hlt : j ≤ mx
    · have HS2 : Hid (bs (List.replicate j false) ++ ⟨#[48]⟩ = bs (List.replicate (j + 1) false)) := by
        show _ = _
        rw [List.replicate_succ', bs_app]; rfl
      have hz : (bs (List.replicate j false)).size = j := by rw [bs_size, List.length_replicate]
      have hlim : ¬ 9223372036854775807 < j + 1 := by omega
      generalize bs (List.replicate j false) = s1 at *
      go_wp2_with fail
      go_roundw
      case rel => exact ⟨j + 1, by omega, by go_num, by rw [HS2.out], by first | rfl | trivial⟩
      case measure => simp [intOf]; omega
    · have hjm : j = mx + 1 := by omega
      have hzero : List.replicate j false = zero x := by
        unfold zero
        have : (x.max + 1).toNat = j := by have := HMM.out; omega
        rw [this]
      rw [hzero]
      have HZL : Hid ((zero x).length = (x.max + 1).toNat) := by show _ = _; simp [zero]
      clear hzero hjm
      go_wp2_with fail
      clear k0
      have HBW := HB2
      go_loopw [8, 10] (fun s u wr => ∃ j : Nat, j ≤ x.ins.length ∧ u = .int .i64 j ∧ s = .string (bs (putAll ((x.ins.zip inp).take j) (zero x))) ∧ Hid (Below W1.heap.size W1 wr)) (fun _ u _ => x.ins.length - (intOf u).toNat)
      case atStart => exact ⟨0, Nat.zero_le _, rfl, rfl, HBW.out⟩
      case round =>
        clear HBW
        obtain ⟨j, hj, rfl, rfl, hB⟩ := hrel
        have m1 := (HX.out wr hB.out).k1
        have hla := (HIN.out wr hB.out).ins
        have hca := hla.cap
        have hga := hla.big
        try simp only at m1 hca hga
        by_cases hlt : j < x.ins.length
        · skip
          obtain ⟨b, o, hx, hae, hbs, d0⟩ := hla.int hlt
          try simp only at hae
          subst hae
          have hown := HOWN.out x.ins[j] (ins_own (List.getElem_mem hx))
          have hown2 := HOW2.out x.ins[j] (ins_own (List.getElem_mem hx))
          obtain ⟨vq, hvq, hvq2⟩ : ∃ v : Int, Int.tdiv x.ins[j] 2 = v ∧ v = var x.ins[j] := ⟨_, rfl, by unfold var; rw [Int.max_eq_left hown2.1]; exact Int.tdiv_eq_ediv_of_nonneg hown2.1⟩
          have hwq : IntKind.i64.wrap vq = vq := IntWalk.i64_in _ (by rw [hvq2]; unfold var; omega)
          have hjn : j < inp.length := by have := HinpL.out; omega
          have hjs : j < tinp.size := by rw [HinpZ.out]; exact hjn
          have hjs2 : (j : Int) < (tinp.size : Int) := by omega
          have hby : tinp[j] = byteB inp[j] := HinpB.out j hjs hjn
          have HZ : Hid (putAll ((x.ins.zip inp).take (j + 1)) (zero x) = setB (putAll ((x.ins.zip inp).take j) (zero x)) vq inp[j]) := by
            show _ = _
            have hz : j < (x.ins.zip inp).length := by simp; omega
            rw [List.take_succ_eq_append_getElem hz, putAll_snoc, hvq2]
            simp
          have hpl : (putAll ((x.ins.zip inp).take j) (zero x)).length = (x.max + 1).toNat := by rw [putAll_len, HZL.out]
          have HST := Lib.hid (set_bs wr.drew (putAll ((x.ins.zip inp).take j) (zero x)) vq inp[j] (by rw [hvq2]; exact var_nn _) (by rw [hvq2, hpl]; exact hown.2) (by rw [hpl]; have := HMX.out; omega) _ rfl)
          rw [← HZ.out] at HST
          have HBD := Lib.hid (hB.out.trans (Below.refl _ _).drew)
          generalize inp[j] = bb at *
          generalize x.ins[j] = t at *
          obtain ⟨q2, hq2⟩ : ∃ q, putAll ((x.ins.zip inp).take j) (zero x) = q := ⟨_, rfl⟩
          obtain ⟨q3, hq3⟩ : ∃ q, putAll ((x.ins.zip inp).take (j + 1)) (zero x) = q := ⟨_, rfl⟩
          rw [hq2] at HST ⊢
          rw [hq3] at HST
          have HQ3 := Lib.hid hq3
          clear hown hown2 hvq2 hpl HZ hB hla hq2 hq3
          go_upto_region 13 with fail
          refine wp_region_still_tail 10 (by kernel_rfl) (by kernel_rfl) ?_
          simp only [List.take_succ_cons, List.take_zero, List.drop_succ_cons, List.drop_zero]
          repeat still_step
          refine wpStill_nil ?_
          go_wp2_with fail
          with_reducible refine HST.out.mono ?_
          rintro e wx ⟨rfl, hbx⟩
          have HBX := Lib.hid (HBD.out.trans (hbx.mono HBD.out.size))
          clear hbx
          go_wp2_with fail
          go_roundw
          case rel => exact ⟨j + 1, by omega, by go_num, by rw [HQ3.out], HBX.out⟩
          case measure => simp [intOf]; omega
        · skip
          have hall : (x.ins.zip inp).take j = (x.ins.zip inp) := List.take_of_length_le (by simp; omega)
          rw [hall]
          clear hall
          go_wp2_with fail
          have HBW3 := hB
          clear hla hca hga m1 hB
          go_loopw [8, 11] (fun s u wr => ∃ j : Nat, j ≤ x.lats.length ∧ u = .int .i64 j ∧ s = .string (bs (putAll (((x.lats.zip st).map fun p => (p.1.1, p.2)).take j) (putAll (x.ins.zip inp) (zero x)))) ∧ Hid (Below W1.heap.size W1 wr)) (fun _ u _ => x.lats.length - (intOf u).toNat)
          case atStart => exact ⟨0, Nat.zero_le _, rfl, rfl, HBW3.out⟩
          case round =>
            clear HBW3
            obtain ⟨j, hj, rfl, rfl, hB⟩ := hrel
            have m2 := (HX.out wr hB.out).k2
            have hla := (HIN.out wr hB.out).lats
            have hca := hla.cap
            have hga := hla.big
            try simp only at m2 hca hga
            by_cases hlt : j < x.lats.length
            · skip
              obtain ⟨b, o, hx, hae, hbs, d0, d1, d2⟩ := hla.tri hlt
              try simp only at hae
              subst hae
              have hown := HOWN.out x.lats[j].1 (lat_own (List.getElem_mem hx))
              have hown2 := HOW2.out x.lats[j].1 (lat_own (List.getElem_mem hx))
              obtain ⟨vq, hvq, hvq2⟩ : ∃ v : Int, Int.tdiv x.lats[j].1 2 = v ∧ v = var x.lats[j].1 := ⟨_, rfl, by unfold var; rw [Int.max_eq_left hown2.1]; exact Int.tdiv_eq_ediv_of_nonneg hown2.1⟩
              have hwq : IntKind.i64.wrap vq = vq := IntWalk.i64_in _ (by rw [hvq2]; unfold var; omega)
              have hjn : j < st.length := by have := HstL.out; omega
              have hjs : j < tst.size := by rw [HstZ.out]; exact hjn
              have hjs2 : (j : Int) < (tst.size : Int) := by omega
              have hby : tst[j] = byteB st[j] := HstB.out j hjs hjn
              have HZ : Hid (putAll (((x.lats.zip st).map fun p => (p.1.1, p.2)).take (j + 1)) (putAll (x.ins.zip inp) (zero x)) = setB (putAll (((x.lats.zip st).map fun p => (p.1.1, p.2)).take j) (putAll (x.ins.zip inp) (zero x))) vq st[j]) := by
                show _ = _
                have hz : j < ((x.lats.zip st).map fun p => (p.1.1, p.2)).length := by simp; omega
                rw [List.take_succ_eq_append_getElem hz, putAll_snoc, hvq2]
                simp
              have hpl : (putAll (((x.lats.zip st).map fun p => (p.1.1, p.2)).take j) (putAll (x.ins.zip inp) (zero x))).length = (x.max + 1).toNat := by rw [putAll_len, putAll_len, HZL.out]
              have HST := Lib.hid (set_bs wr.drew (putAll (((x.lats.zip st).map fun p => (p.1.1, p.2)).take j) (putAll (x.ins.zip inp) (zero x))) vq st[j] (by rw [hvq2]; exact var_nn _) (by rw [hvq2, hpl]; exact hown.2) (by rw [hpl]; have := HMX.out; omega) _ rfl)
              rw [← HZ.out] at HST
              have HBD := Lib.hid (hB.out.trans (Below.refl _ _).drew)
              generalize st[j] = bb at *
              generalize x.lats[j] = t at *
              obtain ⟨q2, hq2⟩ : ∃ q, putAll (((x.lats.zip st).map fun p => (p.1.1, p.2)).take j) (putAll (x.ins.zip inp) (zero x)) = q := ⟨_, rfl⟩
              obtain ⟨q3, hq3⟩ : ∃ q, putAll (((x.lats.zip st).map fun p => (p.1.1, p.2)).take (j + 1)) (putAll (x.ins.zip inp) (zero x)) = q := ⟨_, rfl⟩
              rw [hq2] at HST ⊢
              rw [hq3] at HST
              have HQ3 := Lib.hid hq3
              clear hown hown2 hvq2 hpl HZ hB hla hq2 hq3
              go_upto_region 17 with fail
              refine wp_region_still_tail 11 (by kernel_rfl) (by kernel_rfl) ?_
              simp only [List.take_succ_cons, List.take_zero, List.drop_succ_cons, List.drop_zero]
              repeat still_step
              refine wpStill_nil ?_
              go_wp2_with fail
              with_reducible refine HST.out.mono ?_
              rintro e wx ⟨rfl, hbx⟩
              have HBX := Lib.hid (HBD.out.trans (hbx.mono HBD.out.size))
              clear hbx
              go_wp2_with fail
              go_roundw
              case rel => exact ⟨j + 1, by omega, by go_num, by rw [HQ3.out], HBX.out⟩
              case measure => simp [intOf]; omega
            · skip
              have hall : ((x.lats.zip st).map fun p => (p.1.1, p.2)).take j = ((x.lats.zip st).map fun p => (p.1.1, p.2)) := List.take_of_length_le (by simp; omega)
              rw [hall]
              clear hall
              go_wp2_with fail
              have HBW4 := hB
              have hbase : putAll ((x.lats.zip st).map fun p => (p.1.1, p.2)) (putAll (x.ins.zip inp) (zero x)) = base x st inp := rfl
              rw [hbase]
              clear hbase hla hca hga m2 hB
              go_loopw [8, 12] (fun s u wr => ∃ j : Nat, j ≤ x.ands.length ∧ u = .int .i64 j ∧ s = .string (bs ((x.ands.take j).foldl stepA (base x st inp))) ∧ Hid (Below W1.heap.size W1 wr)) (fun _ u _ => x.ands.length - (intOf u).toNat)
              case atStart => exact ⟨0, Nat.zero_le _, rfl, rfl, HBW4.out⟩
              case round =>
                clear HBW4
                obtain ⟨j, hj, rfl, rfl, hB⟩ := hrel
                have m6 := (HX.out wr hB.out).k6
                have hla := (HIN.out wr hB.out).ands
                have hca := hla.cap
                have hga := hla.big
                try simp only at m6 hca hga
                by_cases hlt : j < x.ands.length
                · obtain ⟨b, o, hx, hae, hbs, d0, d1, d2⟩ := hla.tri hlt
                  try simp only at hae
                  subst hae
                  have hown := HOWN.out x.ands[j].1 (and_own (List.getElem_mem hx))
                  have hown2 := HOW2.out x.ands[j].1 (and_own (List.getElem_mem hx))
                  have hal := HAN.out x.ands[j] (List.getElem_mem hx)
                  obtain ⟨vq, hvq, hvq2⟩ : ∃ v : Int, Int.tdiv x.ands[j].1 2 = v ∧ v = var x.ands[j].1 := ⟨_, rfl, by unfold var; rw [Int.max_eq_left hown2.1]; exact Int.tdiv_eq_ediv_of_nonneg hown2.1⟩
                  have hwq : IntKind.i64.wrap vq = vq := IntWalk.i64_in _ (by rw [hvq2]; unfold var; omega)
                  have HSP : Hid ((x.ands.take (j + 1)).foldl stepA (base x st inp) = stepA ((x.ands.take j).foldl stepA (base x st inp)) x.ands[j]) := by
                    show _ = _
                    rw [List.take_succ_eq_append_getElem hx, List.foldl_append]; rfl
                  have hpl : ((x.ands.take j).foldl stepA (base x st inp)).length = (x.max + 1).toNat := by rw [fold_len, base_len]
                  generalize (x.ands.take j).foldl stepA (base x st inp) = P at *
                  have hpl2 : P.length ≤ 9223372036854775807 := by rw [hpl]; have := HMX.out; omega
                  have HTL := Lib.hid (refTrue_any wr P x.ands[j].2.1 hal.1.1 hal.1.2 hpl2)
                  have HTR := Lib.hid (refTrue_any wr P x.ands[j].2.2 hal.2.1 hal.2.2 hpl2)
                  have HST := Lib.hid (set_bs wr P vq true (by rw [hvq2]; exact var_nn _) (by rw [hvq2, hpl]; exact hown.2) (by rw [hpl]; have := HMX.out; omega) 49 rfl)
                  have HSV : Hid (stepA P x.ands[j] = if litV P x.ands[j].2.1 && litV P x.ands[j].2.2 then setB P vq true else P) := by show _ = _; rw [hvq2]; rfl
                  generalize litV P x.ands[j].2.1 = b1 at *
                  generalize litV P x.ands[j].2.2 = b2 at *
                  generalize stepA P x.ands[j] = P2 at *
                  generalize setB P vq true = P3 at *
                  generalize x.ands[j] = t at *
                  generalize hsp : bs P = sp at *
                  have HEP := Lib.hid hsp
                  clear hown hown2 hvq2 hpl hpl2 hla hal hsp
                  cases b1
                  · have HE : Hid (P2 = P) := HSV.out
                    clear HSV
                    go_wp2_with fail
                    with_reducible refine HTL.out.mono ?_
                    rintro e wx ⟨rfl, rfl⟩
                    go_wp2_with fail
                    go_roundw
                    case rel => exact ⟨j + 1, by omega, by go_num, by rw [HSP.out, HE.out, HEP.out], hB.out⟩
                    case measure => simp [intOf]; omega
                  · cases b2
                    · have HE : Hid (P2 = P) := HSV.out
                      clear HSV
                      go_wp2_with fail
                      with_reducible refine HTL.out.mono ?_
                      rintro e wx ⟨rfl, rfl⟩
                      go_wp2_with fail
                      with_reducible refine HTR.out.mono ?_
                      rintro e wx ⟨rfl, rfl⟩
                      go_wp2_with fail
                      go_roundw
                      case rel => exact ⟨j + 1, by omega, by go_num, by rw [HSP.out, HE.out, HEP.out], hB.out⟩
                      case measure => simp [intOf]; omega
                    · have HE : Hid (P2 = P3) := HSV.out
                      clear HSV
                      go_wp2_with fail
                      with_reducible refine HTL.out.mono ?_
                      rintro e wx ⟨rfl, rfl⟩
                      go_wp2_with fail
                      with_reducible refine HTR.out.mono ?_
                      rintro e wx ⟨rfl, rfl⟩
                      go_wp2_with fail
                      with_reducible refine HST.out.mono ?_
                      rintro e wx ⟨rfl, hbx⟩
                      have HBX := Lib.hid (hB.out.trans (hbx.mono hB.out.size))
                      clear hbx
                      go_wp2_with fail
                      go_roundw
                      case rel => exact ⟨j + 1, by omega, by go_num, by rw [HSP.out, HE.out], HBX.out⟩
                      case measure => simp [intOf]; omega
                · have hall : x.ands.take j = x.ands := List.take_of_length_le (by omega)
                  rw [hall]
                  go_wp2_with fail
                  refine bodyPost_ret (v := .tuple #[.string (bs (vals x st inp)), .int .i64 0]) (by simp [results, Tryz.results39, go_sem, vals]) rfl ?_
                  exact ⟨rfl, HB1.out.trans (hB.out.mono HB1.out.size)⟩
end BadP
end Go.Proofs.YtninglnchengeaaGreat

/-
  interlockref07's Next; interlockplain.Small.
-/
namespace Go.Proofs.YtninglnchengeaaGreat
open Go.RowKit Base
set_option linter.unusedVariables false
set_option linter.unusedSimpArgs false
namespace BadP
open Circuit Coi

set_option maxRecDepth 8000 in
set_option maxHeartbeats 8000000 in
theorem next_any (w : World) (x : Circ) (p : At) (hin : InCirc w x p) (hw : WfC x) (hok : CheckOk x) (hza : x.ands.length * 24 ≤ 140737488355328) (st inp : List Bool) (hst : st.length = x.lats.length) (hinp : inp.length = x.ins.length) :
    Calls Tryz.prog 63 #[.agg (cells x p), .string (bs st), .string (bs inp)] w fun e w' => e = .returned (.tuple #[.string (bs (next x st inp)), .int .i64 0]) ∧ Below w.heap.size w w' := by
  obtain ⟨W1, hW1⟩ : ∃ U, w.alloc (.cells (cells x p) 27) = U := ⟨_, rfl⟩
  obtain ⟨hb1, hx1⟩ := cbox_new w x p W1 hW1
  have HB1 := Lib.hid hb1
  have HX := Lib.hid (fun (U : World) (hU : Below W1.heap.size W1 U) => hx1.next hU (Nat.le_refl _))
  have HIN := Lib.hid (fun (U : World) (hU : Below W1.heap.size W1 U) => (hin.next hb1).next hU)
  have HLI := Lib.hid (lits_in hok hw).2.2
  have hva := values_any W1 x p (hin.next hb1) hw hok hza st inp hst hinp
  have HNX : Hid (next x st inp = x.lats.map fun t => litV (vals x st inp) t.2.1) := rfl
  have HFW : Hid (x.lats.length ≤ 64) := hok.1.2.2.2.1
  have hvl : (vals x st inp).length ≤ 9223372036854775807 := by rw [vals_len]; have := hok.1.2.1; omega
  generalize vals x st inp = V at *
  have HTR := Lib.hid (fun (U : World) (l : Int) (h : 0 ≤ l ∧ l ≤ 9223372036854775807) => refTrue_any U V l h.1 h.2 hvl)
  obtain ⟨a1, c1, a2, c2, a3, c3, a4, c4, a5, c5, a6, c6, a7, c7⟩ := p
  simp only [cells] at hW1 hva ⊢
  have HVA := Lib.hid hva
  clear hin hw hok hza hst hinp hb1 hx1 hva hvl
  generalize bs st = s1 at *
  generalize bs inp = s2 at *
  have c := HX.out W1 (Below.refl _ _)
  have k0 := c.k0
  have k1 := c.k1
  have k2 := c.k2
  have k3 := c.k3
  have k4 := c.k4
  have k5 := c.k5
  have k6 := c.k6
  have k7 := c.k7
  clear c
  go_enter Tryz.func63, Tryz.ntmps63
  go_wp2_with fail
  clear hW1
  with_reducible refine HVA.out.mono ?_
  rintro e w2 ⟨rfl, hb2⟩
  have HB2 := Lib.hid hb2
  clear hb2 k0 k1 k2 k3 k4 k5 k6 k7
  generalize hsv : bs V = sv at *
  have HSV := Lib.hid hsv
  clear hsv
  go_wp2_with fail
  go_loopw [10, 11] (fun s u wr => ∃ j : Nat, j ≤ x.lats.length ∧ u = .int .i64 j ∧ s = .string (bs ((x.lats.take j).map fun t => litV V t.2.1)) ∧ Hid (Below W1.heap.size W1 wr)) (fun _ u _ => x.lats.length - (intOf u).toNat)
  case atStart => exact ⟨0, Nat.zero_le _, rfl, rfl, HB2.out⟩
  case round =>
    clear HB2
    obtain ⟨j, hj, rfl, rfl, hB⟩ := hrel
    have m2 := (HX.out wr hB.out).k2
    have hla := (HIN.out wr hB.out).lats
    have hca := hla.cap
    have hga := hla.big
    try simp only at m2 hca hga
    by_cases hlt : j < x.lats.length
    · obtain ⟨b, o, hx, hae, hbs, d0, d1, d2⟩ := hla.tri hlt
      try simp only at hae
      subst hae
      have HTK := HTR.out wr x.lats[j].2.1 (HLI.out _ (List.getElem_mem hx))
      have HST : Hid (bs ((x.lats.take (j + 1)).map fun t => litV V t.2.1) = bs ((x.lats.take j).map fun t => litV V t.2.1) ++ bs [litV V x.lats[j].2.1]) := by
        show _ = _
        rw [List.take_succ_eq_append_getElem hx, List.map_append, bs_app]; rfl
      have hz : (bs ((x.lats.take j).map fun t => litV V t.2.1)).size = j := by rw [bs_size, List.length_map, List.length_take]; omega
      have HFWO := HFW.out
      have hz2 : ∀ b : Bool, (bs [b]).size = 1 := fun b => bs_size _
      have hlim : ¬ 9223372036854775807 < j + 1 := by omega
      generalize bs ((x.lats.take j).map fun t => litV V t.2.1) = s8 at *
      generalize litV V x.lats[j].2.1 = q at *
      generalize x.lats[j] = t at *
      have HTK2 := Lib.hid HTK
      clear HTK hla
      have HBI := Lib.hid (fun U => bit_any U q)
      have hzq := hz2 q
      generalize bs [q] = s9 at *
      clear hz2 HFWO
      go_wp2_with fail
      with_reducible refine HTK2.out.mono ?_
      rintro e wx ⟨rfl, rfl⟩
      go_wp2_with fail
      with_reducible refine (HBI.out _).mono ?_
      rintro e wy ⟨rfl, rfl⟩
      go_wp2_with fail
      go_roundw
      case rel => exact ⟨j + 1, by omega, by go_num, by rw [HST.out], hB.out⟩
      case measure => simp [intOf]; omega
    · have hall : x.lats.take j = x.lats := List.take_of_length_le (by omega)
      rw [hall, ← HNX.out]
      go_wp2_with fail
      refine bodyPost_ret (v := .tuple #[.string (bs (next x st inp)), .int .i64 0]) (by simp [results, Tryz.results63, go_sem]) rfl ?_
      exact ⟨rfl, HB1.out.trans (hB.out.mono HB1.out.size)⟩

set_option maxHeartbeats 2000000 in
theorem small_any (w : World) (x : Circ) (p : At) (hin : InCirc w x p) :
    Calls Tryz.prog 15 #[.agg (cells x p)] w fun e w' => e = .returned (.bool (decide (x.lats.length ≤ 4) && decide (x.ins.length ≤ 3) && decide (x.max ≤ 60))) ∧ Below w.heap.size w w' := by
  obtain ⟨W1, hW1⟩ : ∃ U, w.alloc (.cells (cells x p) 27) = U := ⟨_, rfl⟩
  obtain ⟨hb1, hx1⟩ := cbox_new w x p W1 hW1
  have HB1 := Lib.hid hb1
  have hc2 := hin.lats.cap
  have hg2 := hin.lats.big
  have hc1 := hin.ins.cap
  have hg1 := hin.ins.big
  have k0 := hx1.k0
  have k1 := hx1.k1
  have k2 := hx1.k2
  obtain ⟨a1, c1, a2, c2, a3, c3, a4, c4, a5, c5, a6, c6, a7, c7⟩ := p
  simp only [cells] at *
  clear hin hb1 hx1
  have h1 : ((x.lats.length : Int) ≤ 4) ↔ x.lats.length ≤ 4 := by omega
  have h2 : ((x.ins.length : Int) ≤ 3) ↔ x.ins.length ≤ 3 := by omega
  have HE : Hid ((decide (x.lats.length ≤ 4) && decide (x.ins.length ≤ 3) && decide (x.max ≤ 60)) = (decide ((x.lats.length : Int) ≤ 4) && decide ((x.ins.length : Int) ≤ 3) && decide (x.max ≤ 60))) := by
    show _ = _
    rw [decide_eq_decide.2 h1, decide_eq_decide.2 h2]
  clear h1 h2
  generalize hd1 : decide ((x.lats.length : Int) ≤ 4) = d1 at *
  generalize hd2 : decide ((x.ins.length : Int) ≤ 3) = d2 at *
  generalize hd3 : decide (x.max ≤ 60) = d3 at *
  cases d1 <;> cases d2
  all_goals
    go_enter Tryz.func15, Tryz.ntmps15
    go_wp2_with fail
    go_ret
    exact ⟨ret_bool (by rw [HE.out]; simp_all), HB1.out⟩
end BadP
end Go.Proofs.YtninglnchengeaaGreat

/-
  interlockref07's Steps.
-/
namespace Go.Proofs.YtninglnchengeaaGreat
open Go.RowKit Base
set_option linter.unusedVariables false
set_option linter.unusedSimpArgs false
namespace BadP
open Circuit Coi

theorem box_own {w : World} {B g n : Nat} {e : TypeId} {vs : List Value} (h : w.ownsRow B e 1 (.slice (some ⟨g, 0, none⟩) n n) n vs) : BoxN g vs w := by
  have hs := own_sl' h
  obtain ⟨_, h2⟩ := h
  rcases h2 with ⟨h3, _⟩ | ⟨g', cap, cur, hv, _, hh, _, _, hcur, ht⟩
  · cases h3
  · simp only [Value.slice.injEq, Option.some.injEq, Addr.mk.injEq] at hv
    obtain ⟨⟨rfl, _⟩, _, rfl⟩ := hv
    refine ⟨(Array.getElem?_eq_some_iff.1 hh).1, fun j u hu => ?_, fun j => by simp [World.frozen?, hh]⟩
    obtain ⟨b, o, ha, hb, hc⟩ := hs.cell j u hu
    simp only [Option.some.injEq, Addr.mk.injEq, and_true] at ha
    obtain ⟨rfl, rfl⟩ := ha
    rw [Nat.zero_add] at hc
    exact hc
theorem ints_set (l : List Int) (j : Nat) (v : Int) : (ints l).set j (.int .i64 v) = ints (l.set j v) := by unfold ints; rw [List.map_set]
theorem ints_get {l : List Int} {j : Nat} {v : Int} (h : l[j]? = some v) : (ints l)[j]? = some (.int .i64 v) := by unfold ints; rw [List.getElem?_map, h]; rfl
theorem init_eq {x : Circ} {s : List Bool} (hs : s.length = x.lats.length) : Initial.initialB x.lats (bs s) = tt (initL x s) := by
  have h1 : RefBits.bits (bs s).data.toList (x.lats.length : Int) = true := bits_bs s hs
  have key : ∀ (lats : List Tri) (s : List Bool), s.length = lats.length → ((List.zipWith Initial.okLat lats (s.map byteB)).all id = true ↔ ∀ p ∈ lats.zip s, okB p.1 p.2 = true) := by
    intro lats
    induction lats with
    | nil => intro s h; simp
    | cons t r ih =>
      intro s h
      cases s with
      | nil => simp at h
      | cons b s =>
        have e : Initial.okLat t (byteB b) = okB t b := by unfold Initial.okLat okB; rw [byte_one]
        rw [List.map_cons, List.zipWith_cons_cons, List.all_cons, List.zip_cons_cons, Bool.and_eq_true, ih s (by simpa using h), e]
        simp
  unfold Initial.initialB
  rw [h1, Bool.true_and, bs_list]
  by_cases hq : ∀ p ∈ x.lats.zip s, okB p.1 p.2 = true
  · rw [(key x.lats s hs).2 hq, tt_pos ⟨hs, hq⟩]
  · rw [tt_neg (fun h => hq h.2), Bool.eq_false_iff]
    exact fun h => hq ((key x.lats s hs).1 h)

structure I1 (x : Circ) (i : Nat) (out : List Int) : Prop where
  len : out.length = 2 ^ x.lats.length
  at' : ∀ (j : Nat) s, j < i → (allL x.lats.length)[j]? = some s → out[j]? = some (if tt (initL x s) = true then 0 else -1)
theorem i1_more {x : Circ} {i : Nat} {out : List Int} (h : I1 x i out) {s : List Bool} (hs : (allL x.lats.length)[i]? = some s) {v : Int} (hv : v = if tt (initL x s) = true then 0 else -1) : I1 x (i + 1) (out.set i v) :=
  ⟨by rw [List.length_set]; exact h.len, fun j s' hj hs' => by
    have hi : i < out.length := by
      have := (List.getElem?_eq_some_iff.1 hs).1
      rw [allL_len] at this
      rw [h.len]; exact this
    rw [List.getElem?_set]
    by_cases e : i = j
    · subst e
      rw [hs] at hs'
      cases hs'
      rw [if_pos rfl, if_pos hi, hv]
    · rw [if_neg e]; exact h.at' j s' (by omega) hs'⟩
theorem set_twice (l : List Int) (i : Nat) (a b : Int) : (l.set i a).set i b = l.set i b := by simp

theorem str_bs {w : World} {a : Option Addr} {n c V : Nat} (h : Sl w a n c (AllS.strs (AllS.allS V))) {k : Nat} (hk : k < n) :
    ∃ b o s, a = some ⟨b, o, none⟩ ∧ b < w.heap.size ∧ (allL V)[k]? = some s ∧ w.cell? ⟨b, o + k, none⟩ = some (.string (bs s)) := by
  obtain ⟨b, o, hx, ha, hb, hc⟩ := AllS.str_at h hk
  have h2 : (AllS.allS V)[k]? = some (AllS.allS V)[k] := List.getElem?_eq_getElem hx
  generalize (AllS.allS V)[k] = y at *
  rw [allS_bs, List.getElem?_map, Option.map_eq_some_iff] at h2
  obtain ⟨s, hs, rfl⟩ := h2
  exact ⟨b, o, s, ha, hb, hs, hc⟩

theorem info_i : (Tryz.prog.info? 3).map (fun i => (i.zero, i.size, i.bytes)) = some (some (.int .i64 0), 1, 8) := by kernel_rfl

set_option maxRecDepth 8000 in
set_option maxHeartbeats 16000000 in
theorem steps_any (w : World) (x : Circ) (p : At) (hin : InCirc w x p) (hw : WfC x) (hok : CheckOk x) (hza : x.ands.length * 24 ≤ 140737488355328) (hl4 : x.lats.length ≤ 4) (hi3 : x.ins.length ≤ 3)
    (aA : Option Addr) (n cA : Nat) (vs : List Value) (A : List (List Int)) (hA : Sl2 w aA n cA vs A) (hA64 : ∀ y ∈ A.flatten, 0 ≤ y ∧ y ≤ 9223372036854775807) :
    Calls Tryz.prog 37 #[.agg (cells x p), .slice aA n cA] w fun e w' => ∃ g out, e = .returned (.slice (some ⟨g, 0, none⟩) (2 ^ x.lats.length) (2 ^ x.lats.length)) ∧ BoxN g (ints out) w' ∧ SOut x A out ∧ w.heap.size ≤ g ∧ Below w.heap.size w w' := by
  obtain ⟨W1, hW1⟩ : ∃ U, w.alloc (.cells (cells x p) 27) = U := ⟨_, rfl⟩
  obtain ⟨hb1, hx1⟩ := cbox_new w x p W1 hW1
  have HB1 := Lib.hid hb1
  have HX := Lib.hid (fun (U : World) (hU : Below W1.heap.size W1 U) => hx1.next hU (Nat.le_refl _))
  have HIN := fun (U : World) (hU : Below W1.heap.size W1 U) => (hin.next hb1).next hU
  have HVA := fun (U : World) (hU : Below W1.heap.size W1 U) (s i : List Bool) (hs : s.length = x.lats.length) (hi : i.length = x.ins.length) => values_any U x p (HIN U hU) hw hok hza s i hs hi
  have HNA := fun (U : World) (hU : Below W1.heap.size W1 U) (s i : List Bool) (hs : s.length = x.lats.length) (hi : i.length = x.ins.length) => next_any U x p (HIN U hU) hw hok hza s i hs hi
  have hvl : ∀ s i, (vals x s i).length ≤ 9223372036854775807 := fun s i => by rw [vals_len]; have := hok.1.2.1; omega
  have HAA := fun (U : World) (hU : Below W1.heap.size W1 U) (s i : List Bool) => allowed_any U x p (HIN U hU) (vals x s i) (hvl s i) (lits_in hok hw).2.1 aA n cA vs A ((hA.next hb1).next hU) hA64
  have HIA := fun (U : World) (hU : Below W1.heap.size W1 U) (s : List Bool) (hs : s.length = x.lats.length) => Initial.initial_any U x p (HIN U hU) (bs s) (by rw [bs_size]; omega)
  have HL1 := Lib.hid (fun (U : World) => AllS.all_any U x.lats.length (by omega))
  have HL2 := Lib.hid (fun (U : World) => AllS.all_any U x.ins.length (by omega))
  obtain ⟨N, hN⟩ : ∃ m, 2 ^ x.lats.length = m := ⟨_, rfl⟩
  obtain ⟨K, hK⟩ : ∃ m, 2 ^ x.ins.length = m := ⟨_, rfl⟩
  have hN16 : N ≤ 16 := by rw [← hN]; exact Nat.pow_le_pow_right (by decide) hl4
  have hK8 : K ≤ 8 := by rw [← hK]; exact Nat.pow_le_pow_right (by decide) hi3
  rw [AllS.allS_len, hN] at HL1
  rw [AllS.allS_len, hK] at HL2
  have HNN := Lib.hid hN
  have HKK := Lib.hid hK
  have c0 := hx1
  have hc2 := hin.lats.cap
  have hg2 := hin.lats.big
  have hc1 := hin.ins.cap
  have hg1 := hin.ins.big
  have HSM : Hid (x.lats.length ≤ 4 ∧ x.ins.length ≤ 3) := ⟨hl4, hi3⟩
  rw [hN]
  obtain ⟨a1, c1, a2, c2, a3, c3, a4, c4, a5, c5, a6, c6, a7, c7⟩ := p
  simp only [cells] at hW1 HVA HNA HAA HIA hc2 hg2 hc1 hg1 ⊢
  have k1 := c0.k1
  have k2 := c0.k2
  try simp only at k1 k2
  have HVV := Lib.hid HVA
  have HNV := Lib.hid HNA
  have HAV := Lib.hid HAA
  have HIV := Lib.hid HIA
  clear hin hw hok hza hA hA64 hb1 hx1 HIN HVA HNA HAA HIA hvl hN hK c0 hl4 hi3
  go_enter Tryz.func37, Tryz.ntmps37
  go_wp2_with fail
  clear hW1
  have hSK : ∀ U : World, Below W1.heap.size W1 U → U.cell? ⟨w.heap.size, 1, none⟩ = some (.slice a1 x.ins.length c1) ∧ U.cell? ⟨w.heap.size, 2, none⟩ = some (.slice a2 x.lats.length c2) := fun U hU => by
    have c := HX.out U ((fun (U : World) (hU : Below W1.heap.size W1 U) => hU) U hU)
    exact ⟨c.k1, c.k2⟩
  have b00 : Below W1.heap.size W1 W1.drew := (Below.refl _ _).drew
  have hS0 := hSK _ b00
  refine HeldAll.region (fun U : World => U.cell? ⟨w.heap.size, 1, none⟩ = some (.slice a1 x.ins.length c1) ∧ U.cell? ⟨w.heap.size, 2, none⟩ = some (.slice a2 x.lats.length c2)) (by kernel_rfl) ?_
  (refine HeldAll.take (i := 0) (oi := _) (d := some 16) (v := ?_) rfl rfl (by kernel_rfl) (by kernel_rfl) (by kernel_rfl) (fun _ _ _ h => h) (Or.inl ⟨by rfl, ?_⟩) hS0 ?_; rotate_left; (focus (intro w hSw; clear hSw; go_simp; (try with_reducible rfl); done)); (try simp only [Act.put, List.setIfInBounds_toArray, List.set_cons_zero, List.set_cons_succ]))
  (refine HeldAll.take (i := 1) (oi := _) (d := some 17) (v := ?_) rfl rfl (by kernel_rfl) (by kernel_rfl) (by kernel_rfl) (fun _ _ _ h => h) (Or.inl ⟨by rfl, ?_⟩) hS0 ?_; rotate_left; (focus (intro w hSw; (try dsimp only at hSw); go_simp; (try with_reducible rfl); done)); (try simp only [Act.put, List.setIfInBounds_toArray, List.set_cons_zero, List.set_cons_succ]))
  (refine HeldAll.take (i := 2) (oi := _) (d := some 18) (v := ?_) rfl rfl (by kernel_rfl) (by kernel_rfl) (by kernel_rfl) (fun _ _ _ h => h) (Or.inl ⟨by rfl, ?_⟩) hS0 ?_; rotate_left; (focus (intro w hSw; clear hSw; go_simp; (try with_reducible rfl); done)); (try simp only [Act.put, List.setIfInBounds_toArray, List.set_cons_zero, List.set_cons_succ]))
  (refine HeldAll.take (i := 4) (oi := _) (d := some 20) (v := ?_) rfl rfl (by kernel_rfl) (by kernel_rfl) (by kernel_rfl) (fun _ _ _ h => h) (Or.inl ⟨by rfl, ?_⟩) hS0 ?_; rotate_left; (focus (intro w hSw; clear hSw; go_simp; (try with_reducible rfl); done)); (try simp only [Act.put, List.setIfInBounds_toArray, List.set_cons_zero, List.set_cons_succ]))
  (refine HeldAll.take (i := 5) (oi := _) (d := some 21) (v := ?_) rfl rfl (by kernel_rfl) (by kernel_rfl) (by kernel_rfl) (fun _ _ _ h => h) (Or.inl ⟨by rfl, ?_⟩) hS0 ?_; rotate_left; (focus (intro w hSw; (try dsimp only at hSw); go_simp; (try with_reducible rfl); done)); (try simp only [Act.put, List.setIfInBounds_toArray, List.set_cons_zero, List.set_cons_succ]))
  (refine HeldAll.take (i := 6) (oi := _) (d := some 22) (v := ?_) rfl rfl (by kernel_rfl) (by kernel_rfl) (by kernel_rfl) (fun _ _ _ h => h) (Or.inl ⟨by rfl, ?_⟩) hS0 ?_; rotate_left; (focus (intro w hSw; clear hSw; go_simp; (try with_reducible rfl); done)); (try simp only [Act.put, List.setIfInBounds_toArray, List.set_cons_zero, List.set_cons_succ]))
  refine HeldAll.one (i := 3) (by kernel_rfl) ?_
  refine HeldAll.opCall (i := 3) (oi := _) (d := some 19) (R := fun v w' => ∃ a c, v = .slice a N c ∧ w'.ownsRow W1.drew.heap.size 9 1 (.slice a N c) N (AllS.strs (AllS.allS x.lats.length)) ∧ Below W1.drew.heap.size W1.drew w') rfl rfl (by rfl) (by go_simp; done) ((HL1.out W1.drew).mono fun e w' h => by obtain ⟨a, c, he, ho, hb⟩ := h; exact ⟨_, he, a, c, rfl, ho, hb⟩) ?_
  rintro v u1 ⟨aS, cS, rfl, oS, su1⟩
  have b1 : Below W1.heap.size W1 u1 := b00.trans (su1.mono b00.size)
  refine ⟨hSK _ b1, ?_⟩
  (try simp only [Act.put, List.setIfInBounds_toArray, List.set_cons_zero, List.set_cons_succ])
  refine HeldAll.one (i := 7) (by kernel_rfl) ?_
  refine HeldAll.opCall (i := 7) (oi := _) (d := some 23) (R := fun v w' => ∃ a c, v = .slice a K c ∧ w'.ownsRow u1.heap.size 9 1 (.slice a K c) K (AllS.strs (AllS.allS x.ins.length)) ∧ Below u1.heap.size u1 w') rfl rfl (by rfl) (by go_simp; done) ((HL2.out u1).mono fun e w' h => by obtain ⟨a, c, he, ho, hb⟩ := h; exact ⟨_, he, a, c, rfl, ho, hb⟩) ?_
  rintro v u2 ⟨aI, cI, rfl, oI, su2⟩
  have b2 : Below W1.heap.size W1 u2 := b1.trans (su2.mono b1.size)
  refine ⟨hSK _ b2, ?_⟩
  (try simp only [Act.put, List.setIfInBounds_toArray, List.set_cons_zero, List.set_cons_succ])
  have hS0 := hSK _ b2
  (refine HeldAll.take (i := 8) (oi := _) (d := some 5) (v := ?_) rfl rfl (by kernel_rfl) (by kernel_rfl) (by kernel_rfl) (fun _ _ _ h => h) (Or.inl ⟨by rfl, ?_⟩) hS0 ?_; rotate_left; (focus (intro w hSw; clear hSw; go_simp; (try with_reducible rfl); done)); (try simp only [Act.put, List.setIfInBounds_toArray, List.set_cons_zero, List.set_cons_succ]))
  (refine HeldAll.take (i := 9) (oi := _) (d := some 6) (v := ?_) rfl rfl (by kernel_rfl) (by kernel_rfl) (by kernel_rfl) (fun _ _ _ h => h) (Or.inl ⟨by rfl, ?_⟩) hS0 ?_; rotate_left; (focus (intro w hSw; clear hSw; go_simp; (try with_reducible rfl); done)); (try simp only [Act.put, List.setIfInBounds_toArray, List.set_cons_zero, List.set_cons_succ]))
  refine HeldAll.done (by kernel_rfl) ?_ _
  have HSS := Lib.hid (own_sl' (own_next oS su2))
  have HSI := Lib.hid (own_sl' oI)
  have hcS := HSS.out.cap
  have hgS := HSS.out.big
  have hcI := HSI.out.cap
  have hgI := HSI.out.big
  have HB3 := Lib.hid b2
  clear oS oI su1 su2 b1 b2 b00 hSK hS0 k1 k2 hc1 hg1 hc2 hg2
  skip
  go_upto_region 2 with fail
  go_upto_region 3 with (at_make; (with_reducible refine wpL_make N (L := (N : Int)) (C := (N : Int)) info_i Tryz.underlying22 ?_ ?_ ?_ ?_ ?_ ?_ ?_ ?_); rfl; rfl; rfl; omega; omega; omega; omega; (intro g w4 hown4 hb4 hge hlt4))
  have HBX := Lib.hid (box_own hown4)
  have HB4 := Lib.hid hb4
  have HB13 := HB3
  have HGE := Lib.hid hge
  have hge0 : u2.heap.size ≤ g := hge
  clear hown4 hb4 hlt4
  go_wp2_with fail
  go_loopw [8] (fun u wr => ∃ (i : Nat) (out : List Int), i ≤ N ∧ u = .int .i64 i ∧ Hid (I1 x i out) ∧ Hid (BoxN g (ints out) wr) ∧ Hid (Below u2.heap.size u2 wr)) (fun u _ => N - (intOf u).toNat)
  case atStart => exact ⟨0, List.replicate N 0, Nat.zero_le _, rfl, ⟨by rw [List.length_replicate, HNN.out], fun j s hj => by omega⟩, by show BoxN g (ints (List.replicate N 0)) _; unfold ints; rw [List.map_replicate]; exact HBX.out, HB4.out⟩
  case round =>
    clear HBX HB4
    obtain ⟨i, out, hi, rfl, hI, hX, hB⟩ := hrel
    by_cases hlt : i < N
    · skip
      have HSU := (HSS.out.next hB.out)
      obtain ⟨bt, ot, s, hae, hbt, hs, d0⟩ := str_bs HSU hlt
      subst hae
      have hol : i < out.length := by rw [hI.out.len, HNN.out]; exact hlt
      obtain ⟨v0, hv0⟩ : ∃ v, out[i]? = some v := ⟨_, List.getElem?_eq_getElem hol⟩
      have e0 := hX.out.at' i _ (ints_get hv0)
      have z0 := hX.out.fz i
      have hsl := at_len _ _ _ hs
      obtain ⟨w5, hw5⟩ : ∃ U, wr.setCell ⟨g, i, none⟩ (.int .i64 (-1)) = U := ⟨_, rfl⟩
      have hX5 : BoxN g (ints (out.set i (-1))) w5 := by rw [← hw5, ← ints_set]; exact hX.out.set i _
      have hB5 : Below u2.heap.size u2 w5 := by rw [← hw5]; exact hB.out.setCell (p := ⟨g, i, none⟩) hge0 _
      have HX5 := Lib.hid hX5
      have HB5 := Lib.hid hB5
      have HB5d := Lib.hid (hB5.trans (Below.refl _ _).drew)
      have hiv := HIV.out w5.drew (HB13.out.trans (HB5d.out.mono HB13.out.size)) s hsl
      rw [init_eq hsl] at hiv
      have HIW := Lib.hid hiv
      have c := HX.out w5 (HB13.out.trans (hB5.mono HB13.out.size))
      have k0 := c.k0
      have k1 := c.k1
      have k2 := c.k2
      have k3 := c.k3
      have k4 := c.k4
      have k5 := c.k5
      have k6 := c.k6
      have k7 := c.k7
      try simp only at k0 k1 k2 k3 k4 k5 k6 k7
      have d5 : w5.cell? ⟨bt, ot + i, none⟩ = some (.string (bs s)) := (hB5.cell (p := ⟨bt, ot + i, none⟩) (by show bt < u2.heap.size; have := (HSS.out.at hlt); obtain ⟨b9, o9, x9, ha9, hs9, _⟩ := this; simp only [Option.some.injEq, Addr.mk.injEq] at ha9; omega)).trans (((hB.out.cell (p := ⟨bt, ot + i, none⟩) (by show bt < u2.heap.size; have := (HSS.out.at hlt); obtain ⟨b9, o9, x9, ha9, hs9, _⟩ := this; simp only [Option.some.injEq, Addr.mk.injEq] at ha9; omega)).symm).trans d0)
      have HI2 : Hid (∀ v, v = (if tt (initL x s) = true then (0 : Int) else -1) → I1 x (i + 1) (out.set i v)) := fun v hv => i1_more hI.out hs hv
      generalize hqq : tt (initL x s) = qq at *
      clear hqq hsl hs HSU d0 hX5 hB5 hiv c hI
      go_upto_region 7 with fail
      refine wp_region_still_tail 5 (by kernel_rfl) (by kernel_rfl) ?_
      simp only [List.take_succ_cons, List.take_zero, List.drop_succ_cons, List.drop_zero]
      repeat still_step
      refine wpStill_nil ?_
      go_wp2_with fail
      with_reducible refine HIW.out.mono ?_
      rintro e w6 ⟨rfl, hb6⟩
      have HB6 := Lib.hid (HB5d.out.trans (hb6.mono HB5d.out.size))
      have hx6 := (HX5.out.next (Below.refl _ _).drew HX5.out.lt).next hb6 (by show g < w5.drew.heap.size; exact HX5.out.lt)
      have HX6 := Lib.hid hx6
      clear k0 k1 k2 k3 k4 k5 k6 k7
      clear hb6 d5 hw5 e0 z0
      have hol2 : i < (out.set i (-1)).length := by rw [List.length_set]; exact hol
      have e6 := hx6.at' i _ (ints_get (by rw [List.getElem?_set, if_pos rfl, if_pos hol]))
      have z6 := hx6.fz i
      clear hx6
      cases qq
      · skip
        have HI3 : Hid (I1 x (i + 1) (out.set i (-1))) := HI2.out (-1) rfl
        clear HI2
        go_wp2_with fail
        go_roundw
        case rel => exact ⟨i + 1, out.set i (-1), by omega, by go_num, HI3.out, HX6.out, HB6.out⟩
        case measure => simp [intOf]; omega
      · skip
        have HI3 : Hid (I1 x (i + 1) (out.set i 0)) := HI2.out 0 rfl
        clear HI2
        have HX7 : Hid (BoxN g (ints (out.set i 0)) (w6.setCell ⟨g, i, none⟩ (.int .i64 0))) := by
          have h := HX6.out.set i (.int .i64 0)
          rw [ints_set, set_twice] at h
          exact h
        have HB7 := Lib.hid (HB6.out.setCell (p := ⟨g, i, none⟩) hge0 (.int .i64 0))
        go_wp2_with fail
        go_roundw
        case rel => exact ⟨i + 1, out.set i 0, by omega, by go_num, HI3.out, HX7.out, HB7.out⟩
        case measure => simp [intOf]; omega
    · skip
      have hin : i = N := by omega
      have HLV : Hid (Lv x A 0 out) := lv_first hI.out.len (fun j s hs => hI.out.at' j s (by have := (List.getElem?_eq_some_iff.1 hs).1; rw [allL_len, HNN.out] at this; omega) hs)
      clear hin hI
      go_wp2_with fail
      clear hlt hi
      go_loopw [9] (fun u wr => ∃ (m : Nat) (out : List Int), m ≤ N ∧ u = .int .i64 m ∧ Hid (Lv x A m out) ∧ Hid (BoxN g (ints out) wr) ∧ Hid (Below u2.heap.size u2 wr)) (fun u _ => N - (intOf u).toNat)
      case atStart => exact ⟨0, out, Nat.zero_le _, rfl, HLV.out, hX.out, hB.out⟩
      case round =>
        clear HLV hX hB
        obtain ⟨m, out, hm, rfl, hV, hX, hB⟩ := hrel
        by_cases hlt : m < N
        · skip
          have HMD := Lib.hid (mid_start hV.out)
          clear hV
          go_wp2_with fail
          go_loopw [10] (fun u wr => ∃ (i : Nat) (out : List Int), i ≤ N ∧ u = .int .i64 i ∧ Hid (Mid x A m i 0 out) ∧ Hid (BoxN g (ints out) wr) ∧ Hid (Below u2.heap.size u2 wr)) (fun u _ => N - (intOf u).toNat)
          case atStart => exact ⟨0, out, Nat.zero_le _, rfl, HMD.out, hX.out, hB.out⟩
          case round =>
            clear HMD hX hB
            obtain ⟨i, out, hi, rfl, hM, hX, hB⟩ := hrel
            by_cases hli : i < N
            · skip
              have HM0 := hM
              clear hM
              go_wp2_with fail
              go_loopw [11] (fun u wr => ∃ (k : Nat) (out : List Int), k ≤ K ∧ u = .int .i64 k ∧ Hid (Mid x A m i k out) ∧ Hid (BoxN g (ints out) wr) ∧ Hid (Below u2.heap.size u2 wr)) (fun u _ => K - (intOf u).toNat)
              case atStart => exact ⟨0, out, Nat.zero_le _, rfl, HM0.out, hX.out, hB.out⟩
              case round =>
                clear HM0 hX hB
                obtain ⟨k, out, hk, rfl, hM, hX, hB⟩ := hrel
                have hol : i < out.length := by rw [hM.out.len, HNN.out]; exact hli
                obtain ⟨v0, hv0⟩ : ∃ v, out[i]? = some v := ⟨_, List.getElem?_eq_getElem hol⟩
                have e0 := hX.out.at' i _ (ints_get hv0)
                by_cases hkt : k < K
                · skip
                  have hd : decide ((k : Int) < (K : Int)) = true := decide_eq_true (by omega)
                  by_cases hvm : v0 = (m : Int)
                  · skip
                    have hq0 : (v0 == (m : Int)) = true := by simpa using hvm
                    have HOI : Hid (out[i]? = some (m : Int)) := by show _ = _; rw [hv0, hvm]
                    clear hvm hv0
                    obtain ⟨bt, ot, s, hae, hbt, hs, d0⟩ := str_bs (HSS.out.next hB.out) hli
                    obtain ⟨bq, oq, q, haq, hbq, hq, d1⟩ := str_bs (HSI.out.next hB.out) hkt
                    obtain ⟨_, _, _, ht1, hbs2, _⟩ := HSS.out.at hli
                    obtain ⟨_, _, _, ht2, hbq2, _⟩ := HSI.out.at hkt
                    rw [hae] at ht1
                    rw [haq] at ht2
                    simp only [Option.some.injEq, Addr.mk.injEq] at ht1 ht2
                    rw [← ht1.1] at hbs2
                    rw [← ht2.1] at hbq2
                    clear ht1 ht2
                    subst hae
                    subst haq
                    have hsl := at_len _ _ _ hs
                    have hql := at_len _ _ _ hq
                    have HBD := Lib.hid (hB.out.trans (Below.refl _ _).drew)
                    have HCV := Lib.hid (HVV.out wr.drew (HB13.out.trans (HBD.out.mono HB13.out.size)) s q hsl hql)
                    have HXD := Lib.hid (hX.out.next (Below.refl _ _).drew hX.out.lt)
                    have c := HX.out wr (HB13.out.trans (hB.out.mono HB13.out.size))
                    have k0 := c.k0
                    have k1 := c.k1
                    have k2 := c.k2
                    have k3 := c.k3
                    have k4 := c.k4
                    have k5 := c.k5
                    have k6 := c.k6
                    have k7 := c.k7
                    try simp only at k0 k1 k2 k3 k4 k5 k6 k7
                    have HSL := Lib.hid hsl
                    have HQL := Lib.hid hql
                    have HS0 := Lib.hid hs
                    have HQ0 := Lib.hid hq
                    have D0 : Hid (∀ U, Below u2.heap.size u2 U → U.cell? ⟨bt, ot + i, none⟩ = some (.string (bs s)) ∧ U.cell? ⟨bq, oq + k, none⟩ = some (.string (bs q))) := fun U hU => ⟨(hU.cell (p := ⟨bt, ot + i, none⟩) hbs2).trans (((hB.out.cell (p := ⟨bt, ot + i, none⟩) hbs2).symm).trans d0), (hU.cell (p := ⟨bq, oq + k, none⟩) hbq2).trans (((hB.out.cell (p := ⟨bq, oq + k, none⟩) hbq2).symm).trans d1)⟩
                    clear hsl hql hs hq c hX hB
                    generalize hsB : bs s = sB at *
                    generalize hqB : bs q = qB at *
                    have HSB := Lib.hid hsB
                    have HQB := Lib.hid hqB
                    clear hsB hqB
                    clear k0 k1 k2 k3 k4 k5 k6 k7 d0 d1
                    have hSK : ∀ U : World, Below u2.heap.size u2 U → U.cell? ⟨w.heap.size, 0, none⟩ = some (.int .i64 x.max) ∧ U.cell? ⟨w.heap.size, 1, none⟩ = some (.slice a1 x.ins.length c1) ∧ U.cell? ⟨w.heap.size, 2, none⟩ = some (.slice a2 x.lats.length c2) ∧ U.cell? ⟨w.heap.size, 3, none⟩ = some (.slice a3 x.outs.length c3) ∧ U.cell? ⟨w.heap.size, 4, none⟩ = some (.slice a4 x.bads.length c4) ∧ U.cell? ⟨w.heap.size, 5, none⟩ = some (.slice a5 x.invs.length c5) ∧ U.cell? ⟨w.heap.size, 6, none⟩ = some (.slice a6 x.ands.length c6) ∧ U.cell? ⟨w.heap.size, 7, none⟩ = some (.slice a7 x.names.length c7) ∧ U.cell? ⟨bt, ot + i, none⟩ = some (.string sB) ∧ U.cell? ⟨bq, oq + k, none⟩ = some (.string qB) := fun U hU => by
                      have c := HX.out U (HB13.out.trans (hU.mono HB13.out.size))
                      exact ⟨c.k0, c.k1, c.k2, c.k3, c.k4, c.k5, c.k6, c.k7, (D0.out U hU).1, (D0.out U hU).2⟩
                    have hS0 := hSK _ HBD.out
                    have hiI : (i : Int) < (N : Int) := by omega
                    have hkI : (k : Int) < (K : Int) := by omega
                    go_upto_region 18 with fail
                    refine HeldAll.region (fun U : World => U.cell? ⟨w.heap.size, 0, none⟩ = some (.int .i64 x.max) ∧ U.cell? ⟨w.heap.size, 1, none⟩ = some (.slice a1 x.ins.length c1) ∧ U.cell? ⟨w.heap.size, 2, none⟩ = some (.slice a2 x.lats.length c2) ∧ U.cell? ⟨w.heap.size, 3, none⟩ = some (.slice a3 x.outs.length c3) ∧ U.cell? ⟨w.heap.size, 4, none⟩ = some (.slice a4 x.bads.length c4) ∧ U.cell? ⟨w.heap.size, 5, none⟩ = some (.slice a5 x.invs.length c5) ∧ U.cell? ⟨w.heap.size, 6, none⟩ = some (.slice a6 x.ands.length c6) ∧ U.cell? ⟨w.heap.size, 7, none⟩ = some (.slice a7 x.names.length c7) ∧ U.cell? ⟨bt, ot + i, none⟩ = some (.string sB) ∧ U.cell? ⟨bq, oq + k, none⟩ = some (.string qB)) (by kernel_rfl) ?_
                    (refine HeldAll.take (i := 0) (oi := _) (d := some 72) (v := ?_) rfl rfl (by kernel_rfl) (by kernel_rfl) (by kernel_rfl) (fun _ _ _ h => h) (Or.inl ⟨by rfl, ?_⟩) hS0 ?_; rotate_left; (focus (intro w hSw; (try dsimp only at hSw); go_simp; (try with_reducible rfl); done)); (try simp only [Act.put, List.setIfInBounds_toArray, List.set_cons_zero, List.set_cons_succ]))
                    (refine HeldAll.take (i := 1) (oi := _) (d := some 73) (v := ?_) rfl rfl (by kernel_rfl) (by kernel_rfl) (by kernel_rfl) (fun _ _ _ h => h) (Or.inl ⟨by rfl, ?_⟩) hS0 ?_; rotate_left; (focus (intro w hSw; clear hSw; go_simp; (try with_reducible rfl); done)); (try simp only [Act.put, List.setIfInBounds_toArray, List.set_cons_zero, List.set_cons_succ]))
                    (refine HeldAll.take (i := 2) (oi := _) (d := some 74) (v := ?_) rfl rfl (by kernel_rfl) (by kernel_rfl) (by kernel_rfl) (fun _ _ _ h => h) (Or.inl ⟨by rfl, ?_⟩) hS0 ?_; rotate_left; (focus (intro w hSw; clear hSw; go_simp; (try with_reducible rfl); done)); (try simp only [Act.put, List.setIfInBounds_toArray, List.set_cons_zero, List.set_cons_succ]))
                    (refine HeldAll.take (i := 3) (oi := _) (d := some 75) (v := ?_) rfl rfl (by kernel_rfl) (by kernel_rfl) (by kernel_rfl) (fun _ _ _ h => h) (Or.inl ⟨by rfl, ?_⟩) hS0 ?_; rotate_left; (focus (intro w hSw; clear hSw; go_simp; (try with_reducible rfl); done)); (try simp only [Act.put, List.setIfInBounds_toArray, List.set_cons_zero, List.set_cons_succ]))
                    (refine HeldAll.take (i := 4) (oi := _) (d := some 76) (v := ?_) rfl rfl (by kernel_rfl) (by kernel_rfl) (by kernel_rfl) (fun _ _ _ h => h) (Or.inl ⟨by rfl, ?_⟩) hS0 ?_; rotate_left; (focus (intro w hSw; (try dsimp only at hSw); go_simp; (try with_reducible rfl); done)); (try simp only [Act.put, List.setIfInBounds_toArray, List.set_cons_zero, List.set_cons_succ]))
                    (refine HeldAll.take (i := 5) (oi := _) (d := some 77) (v := ?_) rfl rfl (by kernel_rfl) (by kernel_rfl) (by kernel_rfl) (fun _ _ _ h => h) (Or.inl ⟨by rfl, ?_⟩) hS0 ?_; rotate_left; (focus (intro w hSw; clear hSw; go_simp; (try with_reducible rfl); done)); (try simp only [Act.put, List.setIfInBounds_toArray, List.set_cons_zero, List.set_cons_succ]))
                    (refine HeldAll.take (i := 6) (oi := _) (d := some 78) (v := ?_) rfl rfl (by kernel_rfl) (by kernel_rfl) (by kernel_rfl) (fun _ _ _ h => h) (Or.inl ⟨by rfl, ?_⟩) hS0 ?_; rotate_left; (focus (intro w hSw; clear hSw; go_simp; (try with_reducible rfl); done)); (try simp only [Act.put, List.setIfInBounds_toArray, List.set_cons_zero, List.set_cons_succ]))
                    (refine HeldAll.take (i := 7) (oi := _) (d := some 79) (v := ?_) rfl rfl (by kernel_rfl) (by kernel_rfl) (by kernel_rfl) (fun _ _ _ h => h) (Or.inl ⟨by rfl, ?_⟩) hS0 ?_; rotate_left; (focus (intro w hSw; clear hSw; go_simp; (try with_reducible rfl); done)); (try simp only [Act.put, List.setIfInBounds_toArray, List.set_cons_zero, List.set_cons_succ]))
                    (refine HeldAll.take (i := 8) (oi := _) (d := some 80) (v := ?_) rfl rfl (by kernel_rfl) (by kernel_rfl) (by kernel_rfl) (fun _ _ _ h => h) (Or.inl ⟨by rfl, ?_⟩) hS0 ?_; rotate_left; (focus (intro w hSw; (try dsimp only at hSw); go_simp; (try with_reducible rfl); done)); (try simp only [Act.put, List.setIfInBounds_toArray, List.set_cons_zero, List.set_cons_succ]))
                    refine HeldAll.one (i := 9) (by kernel_rfl) ?_
                    refine HeldAll.opCall (i := 9) (oi := _) (d := some 81) (R := fun v w' => v = .tuple #[.string (bs (vals x s q)), .int .i64 0] ∧ Below wr.drew.heap.size wr.drew w') rfl rfl (by rfl) (by go_simp; done) (HCV.out.mono fun e w' h => ⟨_, h.1, rfl, h.2⟩) ?_
                    rintro v w6 ⟨rfl, hb6⟩
                    refine ⟨hSK _ (HBD.out.trans (hb6.mono HBD.out.size)), ?_⟩
                    (try simp only [Act.put, List.setIfInBounds_toArray, List.set_cons_zero, List.set_cons_succ])
                    have hS0 := hSK _ (HBD.out.trans (hb6.mono HBD.out.size))
                    (refine HeldAll.take (i := 10) (oi := _) (d := some 71) (v := ?_) rfl rfl (by kernel_rfl) (by kernel_rfl) (by kernel_rfl) (fun _ _ _ h => h) (Or.inl ⟨by rfl, ?_⟩) hS0 ?_; rotate_left; (focus (intro w hSw; clear hSw; go_simp; (try with_reducible rfl); done)); (try simp only [Act.put, List.setIfInBounds_toArray, List.set_cons_zero, List.set_cons_succ]))
                    (refine HeldAll.take (i := 11) (oi := _) (d := some 82) (v := ?_) rfl rfl (by kernel_rfl) (by kernel_rfl) (by kernel_rfl) (fun _ _ _ h => h) (Or.inl ⟨by rfl, ?_⟩) hS0 ?_; rotate_left; (focus (intro w hSw; clear hSw; go_simp; (try with_reducible rfl); done)); (try simp only [Act.put, List.setIfInBounds_toArray, List.set_cons_zero, List.set_cons_succ]))
                    (refine HeldAll.take (i := 12) (oi := _) (d := some 83) (v := ?_) rfl rfl (by kernel_rfl) (by kernel_rfl) (by kernel_rfl) (fun _ _ _ h => h) (Or.inl ⟨by rfl, ?_⟩) hS0 ?_; rotate_left; (focus (intro w hSw; clear hSw; go_simp; (try with_reducible rfl); done)); (try simp only [Act.put, List.setIfInBounds_toArray, List.set_cons_zero, List.set_cons_succ]))
                    (refine HeldAll.take (i := 13) (oi := _) (d := some 12) (v := ?_) rfl rfl (by kernel_rfl) (by kernel_rfl) (by kernel_rfl) (fun _ _ _ h => h) (Or.inl ⟨by rfl, ?_⟩) hS0 ?_; rotate_left; (focus (intro w hSw; clear hSw; go_simp; (try with_reducible rfl); done)); (try simp only [Act.put, List.setIfInBounds_toArray, List.set_cons_zero, List.set_cons_succ]))
                    (refine HeldAll.take (i := 14) (oi := _) (d := some 13) (v := ?_) rfl rfl (by kernel_rfl) (by kernel_rfl) (by kernel_rfl) (fun _ _ _ h => h) (Or.inl ⟨by rfl, ?_⟩) hS0 ?_; rotate_left; (focus (intro w hSw; clear hSw; go_simp; (try with_reducible rfl); done)); (try simp only [Act.put, List.setIfInBounds_toArray, List.set_cons_zero, List.set_cons_succ]))
                    refine HeldAll.done (by kernel_rfl) ?_ _
                    clear hS0 hSK hiI hkI
                    have HB6 := Lib.hid (HBD.out.trans (hb6.mono HBD.out.size))
                    have HX6 := Lib.hid (HXD.out.next hb6 (by exact HXD.out.lt))
                    clear hb6 e0
                    have HAC := HAV.out w6 (HB13.out.trans (HB6.out.mono HB13.out.size)) s q
                    have HN0 : Hid (allow x A (vals x s q) = false → Mid x A m i (k + 1) out) := fun ha => mid_no hM.out HS0.out HQ0.out ha
                    have HTL : Hid ((next x s q).length = x.lats.length) := next_len _ _ _
                    have hil : idx (next x s q) < out.length := by rw [hM.out.len]; exact idx_lt HTL.out
                    obtain ⟨v2, hv2⟩ : ∃ v, out[idx (next x s q)]? = some v := ⟨_, List.getElem?_eq_getElem hil⟩
                    have HO0 : Hid (0 ≤ v2 → Mid x A m i (k + 1) out) := fun h0 => mid_old hM.out HS0.out HQ0.out hv2 h0
                    have HW0 : Hid (allow x A (vals x s q) = true → v2 < 0 → Mid x A m i (k + 1) (out.set (idx (next x s q)) (m + 1))) := fun ha h0 => mid_new hM.out HS0.out HQ0.out HOI.out ha hv2 h0
                    have HILT : Hid (idx (next x s q) < N) := by have h := hil; rw [hM.out.len, HNN.out] at h; exact h
                    have HV2 := Lib.hid hv2
                    generalize hal : allow x A (vals x s q) = al at *
                    generalize bs (vals x s q) = sv at *
                    have HAC2 := Lib.hid HAC
                    clear hal hil hv2 HAC hM
                    have c := HX.out w6 (HB13.out.trans (HB6.out.mono HB13.out.size))
                    have k0 := c.k0
                    have k1 := c.k1
                    have k2 := c.k2
                    have k3 := c.k3
                    have k4 := c.k4
                    have k5 := c.k5
                    have k6 := c.k6
                    have k7 := c.k7
                    try simp only at k0 k1 k2 k3 k4 k5 k6 k7
                    clear c
                    go_wp2_with fail
                    with_reducible refine HAC2.out.mono ?_
                    rintro e w7 ⟨rfl, hb7⟩
                    have HB7 := Lib.hid (HB6.out.trans (hb7.mono HB6.out.size))
                    have HX7 := Lib.hid (HX6.out.next hb7 HX6.out.lt)
                    clear k0 k1 k2 k3 k4 k5 k6 k7
                    clear hb7
                    cases al
                    · skip
                      have HN1 : Hid (Mid x A m i (k + 1) out) := HN0.out rfl
                      clear HN0 HO0 HW0
                      go_wp2_with fail
                      go_roundw
                      case rel => exact ⟨k + 1, out, by omega, by go_num, HN1.out, HX7.out, HB7.out⟩
                      case measure => simp [intOf]; omega
                    · skip
                      have HW1 : Hid (v2 < 0 → Mid x A m i (k + 1) (out.set (idx (next x s q)) (m + 1))) := HW0.out rfl
                      clear HN0 HW0
                      have HBD7 := Lib.hid (HB7.out.trans (Below.refl _ _).drew)
                      have HCN := HNV.out w7.drew (HB13.out.trans (HBD7.out.mono HB13.out.size)) s q HSL.out HQL.out
                      rw [HSB.out, HQB.out] at HCN
                      have HXD7 := Lib.hid (HX7.out.next (Below.refl _ _).drew HX7.out.lt)
                      have c := HX.out w7 (HB13.out.trans (HB7.out.mono HB13.out.size))
                      have k0 := c.k0
                      have k1 := c.k1
                      have k2 := c.k2
                      have k3 := c.k3
                      have k4 := c.k4
                      have k5 := c.k5
                      have k6 := c.k6
                      have k7 := c.k7
                      try simp only at k0 k1 k2 k3 k4 k5 k6 k7
                      clear c
                      obtain ⟨d0, d1⟩ := D0.out w7 HB7.out
                      have HII := Lib.hid (fun (U : World) => index_any U (next x s q) (by rw [HTL.out]; have := HSM.out; omega))
                      generalize hnx : next x s q = t at *
                      generalize hst : bs t = st at *
                      generalize hix : idx t = ix at *
                      have HCN2 := Lib.hid HCN
                      clear hnx hst hix HCN
                      clear k0 k1 k2 k3 k4 k5 k6 k7 d0 d1
                      have hSK : ∀ U : World, Below u2.heap.size u2 U → U.cell? ⟨w.heap.size, 0, none⟩ = some (.int .i64 x.max) ∧ U.cell? ⟨w.heap.size, 1, none⟩ = some (.slice a1 x.ins.length c1) ∧ U.cell? ⟨w.heap.size, 2, none⟩ = some (.slice a2 x.lats.length c2) ∧ U.cell? ⟨w.heap.size, 3, none⟩ = some (.slice a3 x.outs.length c3) ∧ U.cell? ⟨w.heap.size, 4, none⟩ = some (.slice a4 x.bads.length c4) ∧ U.cell? ⟨w.heap.size, 5, none⟩ = some (.slice a5 x.invs.length c5) ∧ U.cell? ⟨w.heap.size, 6, none⟩ = some (.slice a6 x.ands.length c6) ∧ U.cell? ⟨w.heap.size, 7, none⟩ = some (.slice a7 x.names.length c7) ∧ U.cell? ⟨bt, ot + i, none⟩ = some (.string sB) ∧ U.cell? ⟨bq, oq + k, none⟩ = some (.string qB) := fun U hU => by
                        have c := HX.out U (HB13.out.trans (hU.mono HB13.out.size))
                        exact ⟨c.k0, c.k1, c.k2, c.k3, c.k4, c.k5, c.k6, c.k7, (D0.out U hU).1, (D0.out U hU).2⟩
                      have hS0 := hSK _ HBD7.out
                      have hiI : (i : Int) < (N : Int) := by omega
                      have hkI : (k : Int) < (K : Int) := by omega
                      go_upto_region 20 with fail
                      refine HeldAll.region (fun U : World => U.cell? ⟨w.heap.size, 0, none⟩ = some (.int .i64 x.max) ∧ U.cell? ⟨w.heap.size, 1, none⟩ = some (.slice a1 x.ins.length c1) ∧ U.cell? ⟨w.heap.size, 2, none⟩ = some (.slice a2 x.lats.length c2) ∧ U.cell? ⟨w.heap.size, 3, none⟩ = some (.slice a3 x.outs.length c3) ∧ U.cell? ⟨w.heap.size, 4, none⟩ = some (.slice a4 x.bads.length c4) ∧ U.cell? ⟨w.heap.size, 5, none⟩ = some (.slice a5 x.invs.length c5) ∧ U.cell? ⟨w.heap.size, 6, none⟩ = some (.slice a6 x.ands.length c6) ∧ U.cell? ⟨w.heap.size, 7, none⟩ = some (.slice a7 x.names.length c7) ∧ U.cell? ⟨bt, ot + i, none⟩ = some (.string sB) ∧ U.cell? ⟨bq, oq + k, none⟩ = some (.string qB)) (by kernel_rfl) ?_
                      (refine HeldAll.take (i := 0) (oi := _) (d := some 90) (v := ?_) rfl rfl (by kernel_rfl) (by kernel_rfl) (by kernel_rfl) (fun _ _ _ h => h) (Or.inl ⟨by rfl, ?_⟩) hS0 ?_; rotate_left; (focus (intro w hSw; (try dsimp only at hSw); go_simp; (try with_reducible rfl); done)); (try simp only [Act.put, List.setIfInBounds_toArray, List.set_cons_zero, List.set_cons_succ]))
                      (refine HeldAll.take (i := 1) (oi := _) (d := some 91) (v := ?_) rfl rfl (by kernel_rfl) (by kernel_rfl) (by kernel_rfl) (fun _ _ _ h => h) (Or.inl ⟨by rfl, ?_⟩) hS0 ?_; rotate_left; (focus (intro w hSw; clear hSw; go_simp; (try with_reducible rfl); done)); (try simp only [Act.put, List.setIfInBounds_toArray, List.set_cons_zero, List.set_cons_succ]))
                      (refine HeldAll.take (i := 2) (oi := _) (d := some 92) (v := ?_) rfl rfl (by kernel_rfl) (by kernel_rfl) (by kernel_rfl) (fun _ _ _ h => h) (Or.inl ⟨by rfl, ?_⟩) hS0 ?_; rotate_left; (focus (intro w hSw; clear hSw; go_simp; (try with_reducible rfl); done)); (try simp only [Act.put, List.setIfInBounds_toArray, List.set_cons_zero, List.set_cons_succ]))
                      (refine HeldAll.take (i := 3) (oi := _) (d := some 93) (v := ?_) rfl rfl (by kernel_rfl) (by kernel_rfl) (by kernel_rfl) (fun _ _ _ h => h) (Or.inl ⟨by rfl, ?_⟩) hS0 ?_; rotate_left; (focus (intro w hSw; clear hSw; go_simp; (try with_reducible rfl); done)); (try simp only [Act.put, List.setIfInBounds_toArray, List.set_cons_zero, List.set_cons_succ]))
                      (refine HeldAll.take (i := 4) (oi := _) (d := some 94) (v := ?_) rfl rfl (by kernel_rfl) (by kernel_rfl) (by kernel_rfl) (fun _ _ _ h => h) (Or.inl ⟨by rfl, ?_⟩) hS0 ?_; rotate_left; (focus (intro w hSw; (try dsimp only at hSw); go_simp; (try with_reducible rfl); done)); (try simp only [Act.put, List.setIfInBounds_toArray, List.set_cons_zero, List.set_cons_succ]))
                      (refine HeldAll.take (i := 5) (oi := _) (d := some 95) (v := ?_) rfl rfl (by kernel_rfl) (by kernel_rfl) (by kernel_rfl) (fun _ _ _ h => h) (Or.inl ⟨by rfl, ?_⟩) hS0 ?_; rotate_left; (focus (intro w hSw; clear hSw; go_simp; (try with_reducible rfl); done)); (try simp only [Act.put, List.setIfInBounds_toArray, List.set_cons_zero, List.set_cons_succ]))
                      (refine HeldAll.take (i := 6) (oi := _) (d := some 96) (v := ?_) rfl rfl (by kernel_rfl) (by kernel_rfl) (by kernel_rfl) (fun _ _ _ h => h) (Or.inl ⟨by rfl, ?_⟩) hS0 ?_; rotate_left; (focus (intro w hSw; clear hSw; go_simp; (try with_reducible rfl); done)); (try simp only [Act.put, List.setIfInBounds_toArray, List.set_cons_zero, List.set_cons_succ]))
                      (refine HeldAll.take (i := 7) (oi := _) (d := some 97) (v := ?_) rfl rfl (by kernel_rfl) (by kernel_rfl) (by kernel_rfl) (fun _ _ _ h => h) (Or.inl ⟨by rfl, ?_⟩) hS0 ?_; rotate_left; (focus (intro w hSw; clear hSw; go_simp; (try with_reducible rfl); done)); (try simp only [Act.put, List.setIfInBounds_toArray, List.set_cons_zero, List.set_cons_succ]))
                      (refine HeldAll.take (i := 8) (oi := _) (d := some 98) (v := ?_) rfl rfl (by kernel_rfl) (by kernel_rfl) (by kernel_rfl) (fun _ _ _ h => h) (Or.inl ⟨by rfl, ?_⟩) hS0 ?_; rotate_left; (focus (intro w hSw; (try dsimp only at hSw); go_simp; (try with_reducible rfl); done)); (try simp only [Act.put, List.setIfInBounds_toArray, List.set_cons_zero, List.set_cons_succ]))
                      refine HeldAll.one (i := 9) (by kernel_rfl) ?_
                      refine HeldAll.opCall (i := 9) (oi := _) (d := some 99) (R := fun v w' => v = .tuple #[.string st, .int .i64 0] ∧ Below w7.drew.heap.size w7.drew w') rfl rfl (by rfl) (by go_simp; done) (HCN2.out.mono fun e w' h => ⟨_, h.1, rfl, h.2⟩) ?_
                      rintro v w8 ⟨rfl, hb8⟩
                      refine ⟨hSK _ (HBD7.out.trans (hb8.mono HBD7.out.size)), ?_⟩
                      (try simp only [Act.put, List.setIfInBounds_toArray, List.set_cons_zero, List.set_cons_succ])
                      have hS0 := hSK _ (HBD7.out.trans (hb8.mono HBD7.out.size))
                      (refine HeldAll.take (i := 10) (oi := _) (d := some 89) (v := ?_) rfl rfl (by kernel_rfl) (by kernel_rfl) (by kernel_rfl) (fun _ _ _ h => h) (Or.inl ⟨by rfl, ?_⟩) hS0 ?_; rotate_left; (focus (intro w hSw; clear hSw; go_simp; (try with_reducible rfl); done)); (try simp only [Act.put, List.setIfInBounds_toArray, List.set_cons_zero, List.set_cons_succ]))
                      (refine HeldAll.take (i := 11) (oi := _) (d := some 100) (v := ?_) rfl rfl (by kernel_rfl) (by kernel_rfl) (by kernel_rfl) (fun _ _ _ h => h) (Or.inl ⟨by rfl, ?_⟩) hS0 ?_; rotate_left; (focus (intro w hSw; clear hSw; go_simp; (try with_reducible rfl); done)); (try simp only [Act.put, List.setIfInBounds_toArray, List.set_cons_zero, List.set_cons_succ]))
                      (refine HeldAll.take (i := 12) (oi := _) (d := some 101) (v := ?_) rfl rfl (by kernel_rfl) (by kernel_rfl) (by kernel_rfl) (fun _ _ _ h => h) (Or.inl ⟨by rfl, ?_⟩) hS0 ?_; rotate_left; (focus (intro w hSw; clear hSw; go_simp; (try with_reducible rfl); done)); (try simp only [Act.put, List.setIfInBounds_toArray, List.set_cons_zero, List.set_cons_succ]))
                      (refine HeldAll.take (i := 13) (oi := _) (d := some 14) (v := ?_) rfl rfl (by kernel_rfl) (by kernel_rfl) (by kernel_rfl) (fun _ _ _ h => h) (Or.inl ⟨by rfl, ?_⟩) hS0 ?_; rotate_left; (focus (intro w hSw; clear hSw; go_simp; (try with_reducible rfl); done)); (try simp only [Act.put, List.setIfInBounds_toArray, List.set_cons_zero, List.set_cons_succ]))
                      (refine HeldAll.take (i := 14) (oi := _) (d := some 15) (v := ?_) rfl rfl (by kernel_rfl) (by kernel_rfl) (by kernel_rfl) (fun _ _ _ h => h) (Or.inl ⟨by rfl, ?_⟩) hS0 ?_; rotate_left; (focus (intro w hSw; clear hSw; go_simp; (try with_reducible rfl); done)); (try simp only [Act.put, List.setIfInBounds_toArray, List.set_cons_zero, List.set_cons_succ]))
                      refine HeldAll.done (by kernel_rfl) ?_ _
                      clear hS0 hSK hiI hkI
                      have HB8 := Lib.hid (HBD7.out.trans (hb8.mono HBD7.out.size))
                      have hx8 := HXD7.out.next hb8 (by exact HXD7.out.lt)
                      have HX8 := Lib.hid hx8
                      clear hb8
                      have e2 := hx8.at' ix _ (ints_get HV2.out)
                      have z2 := hx8.fz ix
                      have hxn := HILT.out
                      clear hx8
                      by_cases hneg : v2 < 0
                      · skip
                        have hd2 : decide (v2 < 0) = true := decide_eq_true hneg
                        have HM9 := Lib.hid (HW1.out hneg)
                        have hwm : IntKind.i64.wrap ((m : Int) + 1) = (m : Int) + 1 := IntWalk.i64_in _ (by omega)
                        have HX9 : Hid (BoxN g (ints (out.set ix ((m : Int) + 1))) (w8.setCell ⟨g, ix, none⟩ (.int .i64 ((m : Int) + 1)))) := by
                          have h := HX8.out.set ix (.int .i64 ((m : Int) + 1))
                          rw [ints_set] at h
                          exact h
                        have HB9 := Lib.hid (HB8.out.setCell (p := ⟨g, ix, none⟩) hge0 (.int .i64 ((m : Int) + 1)))
                        clear HO0 HW1
                        go_wp2_with fail
                        with_reducible refine (HII.out _).mono ?_
                        rintro e w9 ⟨rfl, rfl⟩
                        go_wp2_with fail
                        with_reducible refine (HII.out _).mono ?_
                        rintro e w9 ⟨rfl, rfl⟩
                        go_wp2_with fail
                        go_roundw
                        case rel => exact ⟨k + 1, out.set ix ((m : Int) + 1), by omega, by go_num, HM9.out, HX9.out, HB9.out⟩
                        case measure => simp [intOf]; omega
                      · skip
                        have hd2 : decide (v2 < 0) = false := decide_eq_false hneg
                        have HM9 := Lib.hid (HO0.out (by omega))
                        clear HO0 HW1
                        go_wp2_with fail
                        with_reducible refine (HII.out _).mono ?_
                        rintro e w9 ⟨rfl, rfl⟩
                        go_wp2_with fail
                        go_roundw
                        case rel => exact ⟨k + 1, out, by omega, by go_num, HM9.out, HX8.out, HB8.out⟩
                        case measure => simp [intOf]; omega
                  · skip
                    have hq0 : (v0 == (m : Int)) = false := by simpa using hvm
                    have HRW : Hid (Mid x A m (i + 1) 0 out) := mid_row hM.out (Or.inr (fun h => hvm (by rw [hv0] at h; injection h)))
                    clear hvm hv0 hM
                    go_wp2_with fail
                    go_roundw
                    case rel => exact ⟨i + 1, out, by omega, by go_num, HRW.out, hX.out, hB.out⟩
                    case measure => simp [intOf]; omega
                · skip
                  have hd : decide ((k : Int) < (K : Int)) = false := decide_eq_false (by omega)
                  have HRW : Hid (Mid x A m (i + 1) 0 out) := mid_row hM.out (Or.inl (by rw [HKK.out]; omega))
                  clear hv0 hM
                  go_wp2_with fail
                  go_roundw
                  case rel => exact ⟨i + 1, out, by omega, by go_num, HRW.out, hX.out, hB.out⟩
                  case measure => simp [intOf]; omega
            · skip
              have HLV2 : Hid (Lv x A (m + 1) out) := mid_end hM.out (by rw [HNN.out]; omega)
              go_wp2_with fail
              go_roundw
              case rel => exact ⟨m + 1, out, by omega, by go_num, HLV2.out, hX.out, hB.out⟩
              case measure => simp [intOf]; omega
        · skip
          have HSO : Hid (SOut x A out) := lv_end hV.out (by rw [HNN.out]; omega)
          go_wp2_with fail
          go_ret
          exact ⟨g, out, rfl, hX.out, HSO.out, Nat.le_trans HB1.out.size (Nat.le_trans HB13.out.size hge0), HB1.out.trans ((HB13.out.trans (hB.out.mono HB13.out.size)).mono HB1.out.size)⟩
end BadP
end Go.Proofs.YtninglnchengeaaGreat

/-
  interlockref07's Bad (written by badbad.py).
-/
namespace Go.Proofs.YtninglnchengeaaGreat
open Go.RowKit Base
set_option linter.unusedVariables false
set_option linter.unusedSimpArgs false
namespace BadP
open Circuit Coi

set_option maxRecDepth 8000 in
set_option maxHeartbeats 16000000 in
theorem bad_any (w : World) (x : Circ) (p : At) (hin : InCirc w x p) (hw : WfC x) (hok : CheckOk x) (hza : x.ands.length * 24 ≤ 140737488355328) (hl4 : x.lats.length ≤ 4) (hi3 : x.ins.length ≤ 3)
    (aA : Option Addr) (n cA : Nat) (vs : List Value) (A : List (List Int)) (hA : Sl2 w aA n cA vs A) (hA64 : ∀ y ∈ A.flatten, 0 ≤ y ∧ y ≤ 9223372036854775807) (kb : Nat) (hkb : kb < x.bads.length) :
    Calls Tryz.prog 16 #[.agg (cells x p), .slice aA n cA, .int .i64 kb] w fun e w' => ∃ r, e = .returned (.int .i64 r) ∧ IsBad x A x.bads[kb] r ∧ Below w.heap.size w w' := by
  obtain ⟨W1, hW1⟩ : ∃ U, w.alloc (.cells (cells x p) 27) = U := ⟨_, rfl⟩
  obtain ⟨hb1, hx1⟩ := cbox_new w x p W1 hW1
  have HB1 := Lib.hid hb1
  have HX := Lib.hid (fun (U : World) (hU : Below W1.heap.size W1 U) => hx1.next hU (Nat.le_refl _))
  have HIN := fun (U : World) (hU : Below W1.heap.size W1 U) => (hin.next hb1).next hU
  have HVA := fun (U : World) (hU : Below W1.heap.size W1 U) (s i : List Bool) (hs : s.length = x.lats.length) (hi : i.length = x.ins.length) => values_any U x p (HIN U hU) hw hok hza s i hs hi
  have hvl : ∀ s i, (vals x s i).length ≤ 9223372036854775807 := fun s i => by rw [vals_len]; have := hok.1.2.1; omega
  have HAA := fun (U : World) (hU : Below W1.heap.size W1 U) (s i : List Bool) => allowed_any U x p (HIN U hU) (vals x s i) (hvl s i) (lits_in hok hw).2.1 aA n cA vs A ((hA.next hb1).next hU) hA64
  have HST := fun (U : World) (hU : Below W1.heap.size W1 U) => steps_any U x p (HIN U hU) hw hok hza hl4 hi3 aA n cA vs A ((hA.next hb1).next hU) hA64
  have HL1 := Lib.hid (fun (U : World) => AllS.all_any U x.lats.length (by omega))
  have HL2 := Lib.hid (fun (U : World) => AllS.all_any U x.ins.length (by omega))
  have hbl := (lits_in hok hw).1 x.bads[kb] (List.getElem_mem _)
  have HTT := Lib.hid (fun (U : World) (s i : List Bool) => refTrue_any U (vals x s i) x.bads[kb] hbl.1 hbl.2 (hvl s i))
  obtain ⟨gb, ob, hxb, hab, hgb, hcb⟩ := hin.bads.int hkb
  have hcapb := hin.bads.cap
  have hbigb := hin.bads.big
  have HBE := Lib.hid (fun (U : World) (hU : Below w.heap.size w U) => (hU.cell (p := ⟨gb, ob + kb, none⟩) hgb).trans hcb)
  obtain ⟨N, hN⟩ : ∃ m, 2 ^ x.lats.length = m := ⟨_, rfl⟩
  obtain ⟨K, hK⟩ : ∃ m, 2 ^ x.ins.length = m := ⟨_, rfl⟩
  have hN16 : N ≤ 16 := by rw [← hN]; exact Nat.pow_le_pow_right (by decide) hl4
  have hK8 : K ≤ 8 := by rw [← hK]; exact Nat.pow_le_pow_right (by decide) hi3
  rw [AllS.allS_len, hN] at HL1
  rw [AllS.allS_len, hK] at HL2
  simp only [hN] at HST
  have HNN := Lib.hid hN
  have HKK := Lib.hid hK
  have c0 := hx1
  have hc2 := hin.lats.cap
  have hg2 := hin.lats.big
  have hc1 := hin.ins.cap
  have hg1 := hin.ins.big
  have hkbI : (kb : Int) < (x.bads.length : Int) := by omega
  generalize x.bads[kb] = bl at *
  obtain ⟨a1, c1, a2, c2, a3, c3, a4, c4, a5, c5, a6, c6, a7, c7⟩ := p
  simp only [cells] at hW1 HVA HAA HST hc2 hg2 hc1 hg1 hab hcapb hbigb ⊢
  subst hab
  have k0 := c0.k0
  have k1 := c0.k1
  have k2 := c0.k2
  have k3 := c0.k3
  have k4 := c0.k4
  have k5 := c0.k5
  have k6 := c0.k6
  have k7 := c0.k7
  try simp only at k0 k1 k2 k3 k4 k5 k6 k7
  have HVV := Lib.hid HVA
  have HAV := Lib.hid HAA
  have HSW := Lib.hid (HST W1 (Below.refl _ _))
  clear hin hw hok hza hA hA64 hb1 hx1 HIN HVA HAA HST hvl hN hK c0 hl4 hi3 hbl hxb hgb hcb
  go_enter Tryz.func16, Tryz.ntmps16
  go_wp2_with fail
  clear hW1
  with_reducible refine HSW.out.mono ?_
  rintro e w2 ⟨g, out, rfl, hbx, hso, hgeg, hb2⟩
  have HB2 := Lib.hid hb2
  have HSO := Lib.hid hso
  have HBX := Lib.hid hbx
  clear k0 k1 k2 k3 k4 k5 k6 k7 hbx hso hgeg hb2
  have c := HX.out w2 HB2.out
  have k1 := c.k1
  have k2 := c.k2
  try simp only at k1 k2
  clear c
  go_wp2_with fail
  have hSK : ∀ U : World, Below w2.heap.size w2 U → U.cell? ⟨w.heap.size, 1, none⟩ = some (.slice a1 x.ins.length c1) ∧ U.cell? ⟨w.heap.size, 2, none⟩ = some (.slice a2 x.lats.length c2) := fun U hU => by
    have c := HX.out U ((fun (U : World) (hU : Below w2.heap.size w2 U) => HB2.out.trans (hU.mono HB2.out.size)) U hU)
    exact ⟨c.k1, c.k2⟩
  have b00 : Below w2.heap.size w2 w2.drew := (Below.refl _ _).drew
  have hS0 := hSK _ b00
  refine HeldAll.region (fun U : World => U.cell? ⟨w.heap.size, 1, none⟩ = some (.slice a1 x.ins.length c1) ∧ U.cell? ⟨w.heap.size, 2, none⟩ = some (.slice a2 x.lats.length c2)) (by kernel_rfl) ?_
  (refine HeldAll.take (i := 0) (oi := _) (d := some 18) (v := ?_) rfl rfl (by kernel_rfl) (by kernel_rfl) (by kernel_rfl) (fun _ _ _ h => h) (Or.inl ⟨by rfl, ?_⟩) hS0 ?_; rotate_left; (focus (intro w hSw; clear hSw; go_simp; (try with_reducible rfl); done)); (try simp only [Act.put, List.setIfInBounds_toArray, List.set_cons_zero, List.set_cons_succ]))
  (refine HeldAll.take (i := 1) (oi := _) (d := some 19) (v := ?_) rfl rfl (by kernel_rfl) (by kernel_rfl) (by kernel_rfl) (fun _ _ _ h => h) (Or.inl ⟨by rfl, ?_⟩) hS0 ?_; rotate_left; (focus (intro w hSw; (try dsimp only at hSw); go_simp; (try with_reducible rfl); done)); (try simp only [Act.put, List.setIfInBounds_toArray, List.set_cons_zero, List.set_cons_succ]))
  (refine HeldAll.take (i := 2) (oi := _) (d := some 20) (v := ?_) rfl rfl (by kernel_rfl) (by kernel_rfl) (by kernel_rfl) (fun _ _ _ h => h) (Or.inl ⟨by rfl, ?_⟩) hS0 ?_; rotate_left; (focus (intro w hSw; clear hSw; go_simp; (try with_reducible rfl); done)); (try simp only [Act.put, List.setIfInBounds_toArray, List.set_cons_zero, List.set_cons_succ]))
  (refine HeldAll.take (i := 4) (oi := _) (d := some 22) (v := ?_) rfl rfl (by kernel_rfl) (by kernel_rfl) (by kernel_rfl) (fun _ _ _ h => h) (Or.inl ⟨by rfl, ?_⟩) hS0 ?_; rotate_left; (focus (intro w hSw; clear hSw; go_simp; (try with_reducible rfl); done)); (try simp only [Act.put, List.setIfInBounds_toArray, List.set_cons_zero, List.set_cons_succ]))
  (refine HeldAll.take (i := 5) (oi := _) (d := some 23) (v := ?_) rfl rfl (by kernel_rfl) (by kernel_rfl) (by kernel_rfl) (fun _ _ _ h => h) (Or.inl ⟨by rfl, ?_⟩) hS0 ?_; rotate_left; (focus (intro w hSw; (try dsimp only at hSw); go_simp; (try with_reducible rfl); done)); (try simp only [Act.put, List.setIfInBounds_toArray, List.set_cons_zero, List.set_cons_succ]))
  (refine HeldAll.take (i := 6) (oi := _) (d := some 24) (v := ?_) rfl rfl (by kernel_rfl) (by kernel_rfl) (by kernel_rfl) (fun _ _ _ h => h) (Or.inl ⟨by rfl, ?_⟩) hS0 ?_; rotate_left; (focus (intro w hSw; clear hSw; go_simp; (try with_reducible rfl); done)); (try simp only [Act.put, List.setIfInBounds_toArray, List.set_cons_zero, List.set_cons_succ]))
  refine HeldAll.one (i := 3) (by kernel_rfl) ?_
  refine HeldAll.opCall (i := 3) (oi := _) (d := some 21) (R := fun v w' => ∃ a c, v = .slice a N c ∧ w'.ownsRow w2.drew.heap.size 9 1 (.slice a N c) N (AllS.strs (AllS.allS x.lats.length)) ∧ Below w2.drew.heap.size w2.drew w') rfl rfl (by rfl) (by go_simp; done) ((HL1.out w2.drew).mono fun e w' h => by obtain ⟨a, c, he, ho, hb⟩ := h; exact ⟨_, he, a, c, rfl, ho, hb⟩) ?_
  rintro v u1 ⟨aS, cS, rfl, oS, su1⟩
  have b1 : Below w2.heap.size w2 u1 := b00.trans (su1.mono b00.size)
  refine ⟨hSK _ b1, ?_⟩
  (try simp only [Act.put, List.setIfInBounds_toArray, List.set_cons_zero, List.set_cons_succ])
  refine HeldAll.one (i := 7) (by kernel_rfl) ?_
  refine HeldAll.opCall (i := 7) (oi := _) (d := some 25) (R := fun v w' => ∃ a c, v = .slice a K c ∧ w'.ownsRow u1.heap.size 9 1 (.slice a K c) K (AllS.strs (AllS.allS x.ins.length)) ∧ Below u1.heap.size u1 w') rfl rfl (by rfl) (by go_simp; done) ((HL2.out u1).mono fun e w' h => by obtain ⟨a, c, he, ho, hb⟩ := h; exact ⟨_, he, a, c, rfl, ho, hb⟩) ?_
  rintro v u2 ⟨aI, cI, rfl, oI, su2⟩
  have b2 : Below w2.heap.size w2 u2 := b1.trans (su2.mono b1.size)
  refine ⟨hSK _ b2, ?_⟩
  (try simp only [Act.put, List.setIfInBounds_toArray, List.set_cons_zero, List.set_cons_succ])
  have hS0 := hSK _ b2
  (refine HeldAll.take (i := 8) (oi := _) (d := some 8) (v := ?_) rfl rfl (by kernel_rfl) (by kernel_rfl) (by kernel_rfl) (fun _ _ _ h => h) (Or.inl ⟨by rfl, ?_⟩) hS0 ?_; rotate_left; (focus (intro w hSw; clear hSw; go_simp; (try with_reducible rfl); done)); (try simp only [Act.put, List.setIfInBounds_toArray, List.set_cons_zero, List.set_cons_succ]))
  (refine HeldAll.take (i := 9) (oi := _) (d := some 9) (v := ?_) rfl rfl (by kernel_rfl) (by kernel_rfl) (by kernel_rfl) (fun _ _ _ h => h) (Or.inl ⟨by rfl, ?_⟩) hS0 ?_; rotate_left; (focus (intro w hSw; clear hSw; go_simp; (try with_reducible rfl); done)); (try simp only [Act.put, List.setIfInBounds_toArray, List.set_cons_zero, List.set_cons_succ]))
  refine HeldAll.done (by kernel_rfl) ?_ _
  have HSS := Lib.hid (own_sl' (own_next oS su2))
  have HSI := Lib.hid (own_sl' oI)
  have hcS := HSS.out.cap
  have hgS := HSS.out.big
  have hcI := HSI.out.cap
  have hgI := HSI.out.big
  have HB13 := Lib.hid (HB2.out.trans (b2.mono HB2.out.size))
  have HGX := Lib.hid (fun (U : World) (hU : Below u2.heap.size u2 U) => (HBX.out.next b2 HBX.out.lt).next hU (Nat.lt_of_lt_of_le HBX.out.lt b2.size))
  clear oS oI su1 su2 b1 b2 b00 hSK hS0 k1 k2 hc1 hg1 hc2 hg2
  go_wp2_with fail
  go_loopw [10, 11] (fun bst u wr => ∃ (i : Nat) (best : Int), i ≤ N ∧ u = .int .i64 i ∧ bst = .int .i64 best ∧ Hid (BI x A bl out i 0 best) ∧ Hid (Below u2.heap.size u2 wr)) (fun _ u _ => N - (intOf u).toNat)
  case atStart => exact ⟨0, -1, Nat.zero_le _, rfl, rfl, bi_start _ _, Below.refl _ _⟩
  case round =>
    obtain ⟨i, best, hi, rfl, rfl, hI, hB⟩ := hrel
    by_cases hli : i < N
    · skip
      have HI0 := hI
      clear hI
      go_wp2_with fail
      go_loopw [10, 12] (fun bst u wr => ∃ (k : Nat) (best : Int), k ≤ K ∧ u = .int .i64 k ∧ bst = .int .i64 best ∧ Hid (BI x A bl out i k best) ∧ Hid (Below u2.heap.size u2 wr)) (fun _ u _ => K - (intOf u).toNat)
      case atStart => exact ⟨0, best, Nat.zero_le _, rfl, rfl, HI0.out, hB.out⟩
      case round =>
        clear HI0 hB
        obtain ⟨k, best, hk, rfl, rfl, hI, hB⟩ := hrel
        have hol : i < out.length := by rw [HSO.out.len, HNN.out]; exact hli
        obtain ⟨v0, hv0⟩ : ∃ v, out[i]? = some v := ⟨_, List.getElem?_eq_getElem hol⟩
        have HV0 := Lib.hid hv0
        have e0 := (HGX.out wr hB.out).at' i _ (ints_get hv0)
        clear hol hv0
        by_cases hkt : k < K
        · skip
          have hd : decide ((k : Int) < (K : Int)) = true := decide_eq_true (by omega)
          by_cases hpos : 0 ≤ v0
          · skip
            have hq0 : decide (0 ≤ v0) = true := decide_eq_true hpos
            obtain ⟨bt, ot, s, hae, hbt, hs, d0⟩ := str_bs (HSS.out.next hB.out) hli
            obtain ⟨bq, oq, q, haq, hbq, hq, d1⟩ := str_bs (HSI.out.next hB.out) hkt
            obtain ⟨_, _, _, ht1, hbs2, _⟩ := HSS.out.at hli
            obtain ⟨_, _, _, ht2, hbq2, _⟩ := HSI.out.at hkt
            rw [hae] at ht1
            rw [haq] at ht2
            simp only [Option.some.injEq, Addr.mk.injEq] at ht1 ht2
            rw [← ht1.1] at hbs2
            rw [← ht2.1] at hbq2
            clear ht1 ht2
            subst hae
            subst haq
            have hsl := at_len _ _ _ hs
            have hql := at_len _ _ _ hq
            have HBD := Lib.hid (hB.out.trans (Below.refl _ _).drew)
            have HCV := Lib.hid (HVV.out wr.drew (HB13.out.trans (HBD.out.mono HB13.out.size)) s q hsl hql)
            have HS0 := Lib.hid hs
            have HQ0 := Lib.hid hq
            have D0 : Hid (∀ U, Below u2.heap.size u2 U → U.cell? ⟨bt, ot + i, none⟩ = some (.string (bs s)) ∧ U.cell? ⟨bq, oq + k, none⟩ = some (.string (bs q))) := fun U hU => ⟨(hU.cell (p := ⟨bt, ot + i, none⟩) hbs2).trans (((hB.out.cell (p := ⟨bt, ot + i, none⟩) hbs2).symm).trans d0), (hU.cell (p := ⟨bq, oq + k, none⟩) hbq2).trans (((hB.out.cell (p := ⟨bq, oq + k, none⟩) hbq2).symm).trans d1)⟩
            clear hsl hql hs hq d0 d1 hB
            generalize hsB : bs s = sB at *
            generalize hqB : bs q = qB at *
            clear hsB hqB
            have hSK : ∀ U : World, Below u2.heap.size u2 U → U.cell? ⟨w.heap.size, 0, none⟩ = some (.int .i64 x.max) ∧ U.cell? ⟨w.heap.size, 1, none⟩ = some (.slice a1 x.ins.length c1) ∧ U.cell? ⟨w.heap.size, 2, none⟩ = some (.slice a2 x.lats.length c2) ∧ U.cell? ⟨w.heap.size, 3, none⟩ = some (.slice a3 x.outs.length c3) ∧ U.cell? ⟨w.heap.size, 4, none⟩ = some (.slice (some ⟨gb, ob, none⟩) x.bads.length c4) ∧ U.cell? ⟨w.heap.size, 5, none⟩ = some (.slice a5 x.invs.length c5) ∧ U.cell? ⟨w.heap.size, 6, none⟩ = some (.slice a6 x.ands.length c6) ∧ U.cell? ⟨w.heap.size, 7, none⟩ = some (.slice a7 x.names.length c7) ∧ U.cell? ⟨bt, ot + i, none⟩ = some (.string sB) ∧ U.cell? ⟨bq, oq + k, none⟩ = some (.string qB) := fun U hU => by
              have c := HX.out U (HB13.out.trans (hU.mono HB13.out.size))
              exact ⟨c.k0, c.k1, c.k2, c.k3, c.k4, c.k5, c.k6, c.k7, (D0.out U hU).1, (D0.out U hU).2⟩
            have hS0 := hSK _ HBD.out
            have hiI : (i : Int) < (N : Int) := by omega
            have hkI : (k : Int) < (K : Int) := by omega
            go_upto_region 10 with fail
            refine HeldAll.region (fun U : World => U.cell? ⟨w.heap.size, 0, none⟩ = some (.int .i64 x.max) ∧ U.cell? ⟨w.heap.size, 1, none⟩ = some (.slice a1 x.ins.length c1) ∧ U.cell? ⟨w.heap.size, 2, none⟩ = some (.slice a2 x.lats.length c2) ∧ U.cell? ⟨w.heap.size, 3, none⟩ = some (.slice a3 x.outs.length c3) ∧ U.cell? ⟨w.heap.size, 4, none⟩ = some (.slice (some ⟨gb, ob, none⟩) x.bads.length c4) ∧ U.cell? ⟨w.heap.size, 5, none⟩ = some (.slice a5 x.invs.length c5) ∧ U.cell? ⟨w.heap.size, 6, none⟩ = some (.slice a6 x.ands.length c6) ∧ U.cell? ⟨w.heap.size, 7, none⟩ = some (.slice a7 x.names.length c7) ∧ U.cell? ⟨bt, ot + i, none⟩ = some (.string sB) ∧ U.cell? ⟨bq, oq + k, none⟩ = some (.string qB)) (by kernel_rfl) ?_
            (refine HeldAll.take (i := 0) (oi := _) (d := some 46) (v := ?_) rfl rfl (by kernel_rfl) (by kernel_rfl) (by kernel_rfl) (fun _ _ _ h => h) (Or.inl ⟨by rfl, ?_⟩) hS0 ?_; rotate_left; (focus (intro w hSw; (try dsimp only at hSw); go_simp; (try with_reducible rfl); done)); (try simp only [Act.put, List.setIfInBounds_toArray, List.set_cons_zero, List.set_cons_succ]))
            (refine HeldAll.take (i := 1) (oi := _) (d := some 47) (v := ?_) rfl rfl (by kernel_rfl) (by kernel_rfl) (by kernel_rfl) (fun _ _ _ h => h) (Or.inl ⟨by rfl, ?_⟩) hS0 ?_; rotate_left; (focus (intro w hSw; clear hSw; go_simp; (try with_reducible rfl); done)); (try simp only [Act.put, List.setIfInBounds_toArray, List.set_cons_zero, List.set_cons_succ]))
            (refine HeldAll.take (i := 2) (oi := _) (d := some 48) (v := ?_) rfl rfl (by kernel_rfl) (by kernel_rfl) (by kernel_rfl) (fun _ _ _ h => h) (Or.inl ⟨by rfl, ?_⟩) hS0 ?_; rotate_left; (focus (intro w hSw; clear hSw; go_simp; (try with_reducible rfl); done)); (try simp only [Act.put, List.setIfInBounds_toArray, List.set_cons_zero, List.set_cons_succ]))
            (refine HeldAll.take (i := 3) (oi := _) (d := some 49) (v := ?_) rfl rfl (by kernel_rfl) (by kernel_rfl) (by kernel_rfl) (fun _ _ _ h => h) (Or.inl ⟨by rfl, ?_⟩) hS0 ?_; rotate_left; (focus (intro w hSw; clear hSw; go_simp; (try with_reducible rfl); done)); (try simp only [Act.put, List.setIfInBounds_toArray, List.set_cons_zero, List.set_cons_succ]))
            (refine HeldAll.take (i := 4) (oi := _) (d := some 50) (v := ?_) rfl rfl (by kernel_rfl) (by kernel_rfl) (by kernel_rfl) (fun _ _ _ h => h) (Or.inl ⟨by rfl, ?_⟩) hS0 ?_; rotate_left; (focus (intro w hSw; (try dsimp only at hSw); go_simp; (try with_reducible rfl); done)); (try simp only [Act.put, List.setIfInBounds_toArray, List.set_cons_zero, List.set_cons_succ]))
            (refine HeldAll.take (i := 5) (oi := _) (d := some 51) (v := ?_) rfl rfl (by kernel_rfl) (by kernel_rfl) (by kernel_rfl) (fun _ _ _ h => h) (Or.inl ⟨by rfl, ?_⟩) hS0 ?_; rotate_left; (focus (intro w hSw; clear hSw; go_simp; (try with_reducible rfl); done)); (try simp only [Act.put, List.setIfInBounds_toArray, List.set_cons_zero, List.set_cons_succ]))
            (refine HeldAll.take (i := 6) (oi := _) (d := some 52) (v := ?_) rfl rfl (by kernel_rfl) (by kernel_rfl) (by kernel_rfl) (fun _ _ _ h => h) (Or.inl ⟨by rfl, ?_⟩) hS0 ?_; rotate_left; (focus (intro w hSw; clear hSw; go_simp; (try with_reducible rfl); done)); (try simp only [Act.put, List.setIfInBounds_toArray, List.set_cons_zero, List.set_cons_succ]))
            (refine HeldAll.take (i := 7) (oi := _) (d := some 53) (v := ?_) rfl rfl (by kernel_rfl) (by kernel_rfl) (by kernel_rfl) (fun _ _ _ h => h) (Or.inl ⟨by rfl, ?_⟩) hS0 ?_; rotate_left; (focus (intro w hSw; clear hSw; go_simp; (try with_reducible rfl); done)); (try simp only [Act.put, List.setIfInBounds_toArray, List.set_cons_zero, List.set_cons_succ]))
            (refine HeldAll.take (i := 8) (oi := _) (d := some 54) (v := ?_) rfl rfl (by kernel_rfl) (by kernel_rfl) (by kernel_rfl) (fun _ _ _ h => h) (Or.inl ⟨by rfl, ?_⟩) hS0 ?_; rotate_left; (focus (intro w hSw; (try dsimp only at hSw); go_simp; (try with_reducible rfl); done)); (try simp only [Act.put, List.setIfInBounds_toArray, List.set_cons_zero, List.set_cons_succ]))
            refine HeldAll.one (i := 9) (by kernel_rfl) ?_
            refine HeldAll.opCall (i := 9) (oi := _) (d := some 55) (R := fun v w' => v = .tuple #[.string (bs (vals x s q)), .int .i64 0] ∧ Below wr.drew.heap.size wr.drew w') rfl rfl (by rfl) (by go_simp; done) (HCV.out.mono fun e w' h => ⟨_, h.1, rfl, h.2⟩) ?_
            rintro v w6 ⟨rfl, hb6⟩
            refine ⟨hSK _ (HBD.out.trans (hb6.mono HBD.out.size)), ?_⟩
            (try simp only [Act.put, List.setIfInBounds_toArray, List.set_cons_zero, List.set_cons_succ])
            have hS0 := hSK _ (HBD.out.trans (hb6.mono HBD.out.size))
            (refine HeldAll.take (i := 10) (oi := _) (d := some 45) (v := ?_) rfl rfl (by kernel_rfl) (by kernel_rfl) (by kernel_rfl) (fun _ _ _ h => h) (Or.inl ⟨by rfl, ?_⟩) hS0 ?_; rotate_left; (focus (intro w hSw; clear hSw; go_simp; (try with_reducible rfl); done)); (try simp only [Act.put, List.setIfInBounds_toArray, List.set_cons_zero, List.set_cons_succ]))
            (refine HeldAll.take (i := 11) (oi := _) (d := some 56) (v := ?_) rfl rfl (by kernel_rfl) (by kernel_rfl) (by kernel_rfl) (fun _ _ _ h => h) (Or.inl ⟨by rfl, ?_⟩) hS0 ?_; rotate_left; (focus (intro w hSw; clear hSw; go_simp; (try with_reducible rfl); done)); (try simp only [Act.put, List.setIfInBounds_toArray, List.set_cons_zero, List.set_cons_succ]))
            (refine HeldAll.take (i := 12) (oi := _) (d := some 57) (v := ?_) rfl rfl (by kernel_rfl) (by kernel_rfl) (by kernel_rfl) (fun _ _ _ h => h) (Or.inl ⟨by rfl, ?_⟩) hS0 ?_; rotate_left; (focus (intro w hSw; clear hSw; go_simp; (try with_reducible rfl); done)); (try simp only [Act.put, List.setIfInBounds_toArray, List.set_cons_zero, List.set_cons_succ]))
            (refine HeldAll.take (i := 13) (oi := _) (d := some 13) (v := ?_) rfl rfl (by kernel_rfl) (by kernel_rfl) (by kernel_rfl) (fun _ _ _ h => h) (Or.inl ⟨by rfl, ?_⟩) hS0 ?_; rotate_left; (focus (intro w hSw; clear hSw; go_simp; (try with_reducible rfl); done)); (try simp only [Act.put, List.setIfInBounds_toArray, List.set_cons_zero, List.set_cons_succ]))
            (refine HeldAll.take (i := 14) (oi := _) (d := some 14) (v := ?_) rfl rfl (by kernel_rfl) (by kernel_rfl) (by kernel_rfl) (fun _ _ _ h => h) (Or.inl ⟨by rfl, ?_⟩) hS0 ?_; rotate_left; (focus (intro w hSw; clear hSw; go_simp; (try with_reducible rfl); done)); (try simp only [Act.put, List.setIfInBounds_toArray, List.set_cons_zero, List.set_cons_succ]))
            refine HeldAll.done (by kernel_rfl) ?_ _
            clear hS0 hSK hiI hkI
            have HB6 := Lib.hid (HBD.out.trans (hb6.mono HBD.out.size))
            clear hb6 e0
            have HAC := HAV.out w6 (HB13.out.trans (HB6.out.mono HB13.out.size)) s q
            have HTQ := fun U => HTT.out U s q
            have HSTAY : Hid ((allow x A (vals x s q) = true → litV (vals x s q) bl = true → 0 ≤ best ∧ best ≤ v0) → BI x A bl out i (k + 1) best) := fun hh => bi_stay hI.out (fun s' q' v' g1 g2 g3 g4 g5 g6 => by
              rw [HS0.out] at g1; rw [HQ0.out] at g2; rw [HV0.out] at g3
              cases g1; cases g2; cases g3
              exact hh g5 g6)
            have HNEW : Hid (allow x A (vals x s q) = true → litV (vals x s q) bl = true → best < 0 ∨ v0 < best → BI x A bl out i (k + 1) v0) := fun g5 g6 hh => bi_new hI.out HSO.out HS0.out HQ0.out HV0.out hpos g5 g6 hh
            generalize hal : allow x A (vals x s q) = al at *
            generalize hlb : litV (vals x s q) bl = lb at *
            generalize bs (vals x s q) = sv at *
            have HAC2 := Lib.hid HAC
            have HTQ2 := Lib.hid HTQ
            clear hal hlb HAC HTQ hI
            have c := HX.out w6 (HB13.out.trans (HB6.out.mono HB13.out.size))
            have k0 := c.k0
            have k1 := c.k1
            have k2 := c.k2
            have k3 := c.k3
            have k4 := c.k4
            have k5 := c.k5
            have k6 := c.k6
            have k7 := c.k7
            try simp only at k0 k1 k2 k3 k4 k5 k6 k7
            clear c
            go_wp2_with fail
            with_reducible refine HAC2.out.mono ?_
            rintro e w7 ⟨rfl, hb7⟩
            have HB7 := Lib.hid (HB6.out.trans (hb7.mono HB6.out.size))
            clear k0 k1 k2 k3 k4 k5 k6 k7
            clear hb7
            have c := HX.out w7 (HB13.out.trans (HB7.out.mono HB13.out.size))
            have k4 := c.k4
            try simp only at k4
            clear c
            have eb := HBE.out w7 (HB1.out.trans ((HB13.out.trans (HB7.out.mono HB13.out.size)).mono HB1.out.size))
            have e0 := (HGX.out w7 HB7.out).at' i _ (ints_get HV0.out)
            cases al
            · skip
              have HB9 : Hid (BI x A bl out i (k + 1) best) := HSTAY.out (fun h => by cases h)
              clear HSTAY HNEW
              go_wp2_with fail
              go_roundw
              case rel => exact ⟨k + 1, best, by omega, by go_num, rfl, HB9.out, HB7.out⟩
              case measure => simp [intOf]; omega
            · cases lb
              · skip
                have HB9 : Hid (BI x A bl out i (k + 1) best) := HSTAY.out (fun _ h => by cases h)
                clear HSTAY HNEW
                go_wp2_with fail
                with_reducible refine (HTQ2.out _).mono ?_
                rintro e w8 ⟨rfl, rfl⟩
                go_wp2_with fail
                go_roundw
                case rel => exact ⟨k + 1, best, by omega, by go_num, rfl, HB9.out, HB7.out⟩
                case measure => simp [intOf]; omega
              · skip
                by_cases hb0 : best < 0
                · skip
                  have hd2 : decide (best < 0) = true := decide_eq_true hb0
                  have HB9 : Hid (BI x A bl out i (k + 1) v0) := HNEW.out rfl rfl (Or.inl hb0)
                  clear HSTAY HNEW
                  go_wp2_with fail
                  with_reducible refine (HTQ2.out _).mono ?_
                  rintro e w8 ⟨rfl, rfl⟩
                  go_wp2_with fail
                  go_roundw
                  case rel => exact ⟨k + 1, v0, by omega, by go_num, rfl, HB9.out, HB7.out⟩
                  case measure => simp [intOf]; omega
                · skip
                  have hd2 : decide (best < 0) = false := decide_eq_false hb0
                  by_cases hvb : v0 < best
                  · skip
                    have hd3 : decide (v0 < best) = true := decide_eq_true hvb
                    have HB9 : Hid (BI x A bl out i (k + 1) v0) := HNEW.out rfl rfl (Or.inr hvb)
                    clear HSTAY HNEW
                    go_wp2_with fail
                    with_reducible refine (HTQ2.out _).mono ?_
                    rintro e w8 ⟨rfl, rfl⟩
                    go_wp2_with fail
                    go_roundw
                    case rel => exact ⟨k + 1, v0, by omega, by go_num, rfl, HB9.out, HB7.out⟩
                    case measure => simp [intOf]; omega
                  · skip
                    have hd3 : decide (v0 < best) = false := decide_eq_false hvb
                    have HB9 : Hid (BI x A bl out i (k + 1) best) := HSTAY.out (fun _ _ => by omega)
                    clear HSTAY HNEW
                    go_wp2_with fail
                    with_reducible refine (HTQ2.out _).mono ?_
                    rintro e w8 ⟨rfl, rfl⟩
                    go_wp2_with fail
                    go_roundw
                    case rel => exact ⟨k + 1, best, by omega, by go_num, rfl, HB9.out, HB7.out⟩
                    case measure => simp [intOf]; omega
          · skip
            have hq0 : decide (0 ≤ v0) = false := decide_eq_false hpos
            have HRW : Hid (BI x A bl out (i + 1) 0 best) := bi_row hI.out (Or.inr (fun v hv => by rw [HV0.out] at hv; injection hv with hv; omega))
            clear hI
            go_wp2_with fail
            go_roundw
            case rel => exact ⟨i + 1, best, by omega, by go_num, rfl, HRW.out, hB.out⟩
            case measure => simp [intOf]; omega
        · skip
          have hd : decide ((k : Int) < (K : Int)) = false := decide_eq_false (by omega)
          have HRW : Hid (BI x A bl out (i + 1) 0 best) := bi_row hI.out (Or.inl (by rw [HKK.out]; omega))
          clear hI
          go_wp2_with fail
          go_roundw
          case rel => exact ⟨i + 1, best, by omega, by go_num, rfl, HRW.out, hB.out⟩
          case measure => simp [intOf]; omega
    · skip
      have HE : Hid (IsBad x A bl best) := bi_end hI.out HSO.out (by rw [HNN.out]; omega)
      go_wp2_with fail
      go_ret
      exact ⟨best, rfl, HE.out, HB1.out.trans ((HB13.out.trans (hB.out.mono HB13.out.size)).mono HB1.out.size)⟩
end BadP
end Go.Proofs.YtninglnchengeaaGreat

/-
  circuit.gate: a variable's and.
-/
namespace Go.Proofs.YtninglnchengeaaGreat
open Go.RowKit Base
set_option linter.unusedVariables false
set_option linter.unusedSimpArgs false
namespace Circuit

set_option maxRecDepth 8000 in
set_option maxHeartbeats 8000000 in
theorem gate_any (w : World) (x : Circ) (p : At) (hin : InCirc w x p) (hw : WfT x.ands) (v : Int) :
    Calls Tryz.prog 101 #[.agg (cells x p), .int .i64 v] w (GateOut w (gate x.ands v)) := by
  have hand := hin.ands
  obtain ⟨mx, ins, lats, outs, bads, invs, ands, names⟩ := x
  obtain ⟨a1, c1, a2, c2, a3, c3, a4, c4, a5, c5, a6, c6, a7, c7⟩ := p
  simp only [cells] at *
  obtain ⟨W1, hW1⟩ : ∃ W1, w.alloc (.cells #[.int .i64 mx, .slice a1 ins.length c1, .slice a2 lats.length c2, .slice a3 outs.length c3, .slice a4 bads.length c4, .slice a5 invs.length c5, .slice a6 ands.length c6, .slice a7 names.length c7] 27) = W1 := ⟨_, rfl⟩
  obtain ⟨W2, hW2⟩ : ∃ W2, W1.alloc (.cells #[.int .i64 0, .int .i64 0, .int .i64 0] 43) = W2 := ⟨_, rfl⟩
  have h1 : Below w.heap.size w W1 := by rw [← hW1]; exact (Below.refl _ _).alloc (Nat.le_refl _) _
  have h2 : Below W1.heap.size W1 W2 := by rw [← hW2]; exact (Below.refl _ _).alloc (Nat.le_refl _) _
  have z1 : W1.heap.size = w.heap.size + 1 := by rw [← hW1]; simp
  have z2 : W2.heap.size = w.heap.size + 2 := by rw [← hW2]; simp [z1]
  have k6 : W2.cell? ⟨w.heap.size, 6, none⟩ = some (.slice a6 ands.length c6) := by rw [← hW2, ← hW1]; simp [go_sem]
  have q0 : W2.cell? ⟨w.heap.size + 1, 0, none⟩ = some (.int .i64 0) := by rw [← z1, ← hW2]; simp [go_sem]
  have q1 : W2.cell? ⟨w.heap.size + 1, 1, none⟩ = some (.int .i64 0) := by rw [← z1, ← hW2]; simp [go_sem]
  have q2 : W2.cell? ⟨w.heap.size + 1, 2, none⟩ = some (.int .i64 0) := by rw [← z1, ← hW2]; simp [go_sem]
  have f0 : W2.frozen? ⟨w.heap.size + 1, 0, none⟩ = false := by rw [← z1, ← hW2]; simp [go_sem]
  have f1 : W2.frozen? ⟨w.heap.size + 1, 1, none⟩ = false := by rw [← z1, ← hW2]; simp [go_sem]
  have f2 : W2.frozen? ⟨w.heap.size + 1, 2, none⟩ = false := by rw [← z1, ← hW2]; simp [go_sem]
  have HB2 := Lib.hid (h1.trans (h2.mono h1.size))
  have HS := Lib.hid (hand.next (h1.trans (h2.mono h1.size)))
  have hcap := hand.cap
  have hbig := hand.big
  have HW := Lib.hid hw
  clear hin hand hw h1 h2
  go_enter Tryz.func101, Tryz.ntmps101
  go_wp2_with fail
  clear hW1 hW2
  go_loopw [11] (fun s wr => ∃ k : Nat, k ≤ ands.length ∧ s = .int .i64 k ∧ Hid (gate (ands.take k) v = none) ∧ Hid (Below W2.heap.size W2 wr)) (fun s _ => ands.length - (intOf s).toNat)
  case atStart => exact ⟨0, Nat.zero_le _, rfl, rfl, Below.refl _ _⟩
  case round =>
    obtain ⟨k, hk, rfl, hI, hbr⟩ := hrel
    by_cases hlt : k < ands.length
    · obtain ⟨b, o, hx, rfl, hbs, hc0, hc1, hc2⟩ := HS.out.tri hlt
      have d0 := (hbr.out.cell (p := ⟨b, o + k * 3, none⟩) hbs).trans hc0
      have d1 := (hbr.out.cell (p := ⟨b, o + k * 3 + 1, none⟩) hbs).trans hc1
      have d2 := (hbr.out.cell (p := ⟨b, o + k * 3 + 2, none⟩) hbs).trans hc2
      have VA := Lib.hid (fun U => var_any ands[k].1 (HW.out _ (List.getElem_mem hx)).1.1 (HW.out _ (List.getElem_mem hx)).1.2 U)
      clear hc0 hc1 hc2
      have HGM := Lib.hid (fun hn => gate_more (v := v) hx hI.out hn)
      have HGH := Lib.hid (fun h0 h1 => gate_hit (v := v) hx hI.out h0 h1)
      generalize ands[k] = t at *
      obtain ⟨t0, t1, t2⟩ := t
      simp only at d0 d1 d2 VA HGM HGH
      obtain ⟨U, hU⟩ : ∃ U, wr.alloc (.cells #[.int .i64 t0, .int .i64 t1, .int .i64 t2] 43) = U := ⟨_, rfl⟩
      have hbU : Below wr.heap.size wr U := by rw [← hU]; exact (Below.refl _ _).alloc (Nat.le_refl _) _
      have u0 : U.cell? ⟨wr.heap.size, 0, none⟩ = some (.int .i64 t0) := by rw [← hU]; simp [go_sem]
      have u1 : U.cell? ⟨wr.heap.size, 1, none⟩ = some (.int .i64 t1) := by rw [← hU]; simp [go_sem]
      have u2 : U.cell? ⟨wr.heap.size, 2, none⟩ = some (.int .i64 t2) := by rw [← hU]; simp [go_sem]
      have hbW : Below W2.heap.size W2 U := hbr.out.trans (hbU.mono hbr.out.size)
      have r0 := (hbW.cell (p := ⟨w.heap.size + 1, 0, none⟩) (by show w.heap.size + 1 < W2.heap.size; omega)).trans q0
      have r1 := (hbW.cell (p := ⟨w.heap.size + 1, 1, none⟩) (by show w.heap.size + 1 < W2.heap.size; omega)).trans q1
      have r2 := (hbW.cell (p := ⟨w.heap.size + 1, 2, none⟩) (by show w.heap.size + 1 < W2.heap.size; omega)).trans q2
      have s0 := (hbW.frozen (p := ⟨w.heap.size + 1, 0, none⟩) (by show w.heap.size + 1 < W2.heap.size; omega)).trans f0
      have s1 := (hbW.frozen (p := ⟨w.heap.size + 1, 1, none⟩) (by show w.heap.size + 1 < W2.heap.size; omega)).trans f1
      have s2 := (hbW.frozen (p := ⟨w.heap.size + 1, 2, none⟩) (by show w.heap.size + 1 < W2.heap.size; omega)).trans f2
      have HBU := Lib.hid hbW
      clear hbU hbW
      by_cases hg : 0 ≤ t0
      · by_cases hv : var t0 = v
        · have HG := Lib.hid (HGH.out hg hv)
          clear HGM HGH
          subst hv
          go_wp2_with fail
          refine (VA.out U).mono ?_
          rintro e w5 ⟨rfl, rfl⟩
          go_wp2_with fail
          refine bodyPost_ret (v := .tuple #[.agg #[.int .i64 t0, .int .i64 t1, .int .i64 t2], .bool true]) (by simp [results, Tryz.results101, go_sem, r0, r1, r2]) rfl ?_
          refine ⟨?_, (((HB2.out.trans (HBU.out.mono HB2.out.size)).setCell (by show w.heap.size ≤ w.heap.size + 1; omega) _).setCell (by show w.heap.size ≤ w.heap.size + 1; omega) _).setCell (by show w.heap.size ≤ w.heap.size + 1; omega) _⟩
          rw [HG.out]
          rfl
        · have HG := Lib.hid (HGM.out (fun h => hv h.2))
          clear HGM HGH
          go_wp2_with fail
          refine (VA.out U).mono ?_
          rintro e w5 ⟨rfl, rfl⟩
          go_wp2_with fail
          go_roundw
          case rel => exact ⟨k + 1, by omega, by go_num, HG.out, HBU.out⟩
          case measure => simp [intOf]; omega
      · have HG := Lib.hid (HGM.out (fun h => hg h.1))
        clear HGM HGH
        go_wp2_with fail
        go_roundw
        case rel => exact ⟨k + 1, by omega, by go_num, HG.out, HBU.out⟩
        case measure => simp [intOf]; omega
    · have HG : Hid (gate ands v = none) := by
        have h := hI.out
        rw [List.take_of_length_le (by omega)] at h
        exact h
      have r0 := (hbr.out.cell (p := ⟨w.heap.size + 1, 0, none⟩) (by show w.heap.size + 1 < W2.heap.size; omega)).trans q0
      have r1 := (hbr.out.cell (p := ⟨w.heap.size + 1, 1, none⟩) (by show w.heap.size + 1 < W2.heap.size; omega)).trans q1
      have r2 := (hbr.out.cell (p := ⟨w.heap.size + 1, 2, none⟩) (by show w.heap.size + 1 < W2.heap.size; omega)).trans q2
      have s0 := (hbr.out.frozen (p := ⟨w.heap.size + 1, 0, none⟩) (by show w.heap.size + 1 < W2.heap.size; omega)).trans f0
      have s1 := (hbr.out.frozen (p := ⟨w.heap.size + 1, 1, none⟩) (by show w.heap.size + 1 < W2.heap.size; omega)).trans f1
      have s2 := (hbr.out.frozen (p := ⟨w.heap.size + 1, 2, none⟩) (by show w.heap.size + 1 < W2.heap.size; omega)).trans f2
      go_wp2_with fail
      refine bodyPost_ret (v := .tuple #[.agg #[.int .i64 0, .int .i64 0, .int .i64 0], .bool false]) (by simp [results, Tryz.results101, go_sem, r0, r1, r2]) rfl ?_
      refine ⟨?_, (((HB2.out.trans (hbr.out.mono HB2.out.size)).setCell (by show w.heap.size ≤ w.heap.size + 1; omega) _).setCell (by show w.heap.size ≤ w.heap.size + 1; omega) _).setCell (by show w.heap.size ≤ w.heap.size + 1; omega) _⟩
      rw [HG.out]
      rfl

end Circuit
end Go.Proofs.YtninglnchengeaaGreat

/-
  A map[int]bool of the call's own that says true at just some integers.
-/
namespace Go.Proofs.YtninglnchengeaaGreat
open Go.RowKit Base Go.Maps
set_option linter.unusedVariables false
set_option linter.unusedSimpArgs false
namespace SetI

theorem law : Keyed Tryz.prog 3 := int_keyed Tryz.underlying3
theorem zeroE (w : World) : (zeroValue 4).run Tryz.prog w = .ok (.bool false) w := by kernel_rfl

def I64 (x : Int) : Prop := -9223372036854775808 ≤ x ∧ x ≤ 9223372036854775807

theorem wf_lit {x : Int} (h : I64 x) : (Lit.int .i64 x).wf = true := by
  unfold I64 at h
  simp [Lit.wf, IntKind.min, IntKind.max, IntKind.signed, IntKind.bits]
  omega

/-- Is an integer one of some? -/
def inX (X : List Int) (x : Int) : Bool := X.any fun y => y == x

theorem inX_iff {X : List Int} {x : Int} : inX X x = true ↔ x ∈ X := by
  unfold inX
  rw [List.any_eq_true]
  constructor
  · rintro ⟨y, hy, he⟩
    rw [beq_iff_eq] at he
    rw [← he]
    exact hy
  · intro h
    exact ⟨x, h, by simp⟩

/-- A map of the call's own that says true at just these; its keys are these, each once. -/
def SetIs (w : World) (b n : Nat) (X : List Int) : Prop :=
  ∃ D : DataW Unit, w.ownsMap Tryz.prog 3 (plainElem Tryz.prog 4) b n D ∧ IsMap D ∧ ∀ x, I64 x → D.atKey (.int .i64 x) (.lit (.bool false)) = .lit (.bool (inX X x))

theorem bool_inv {e : TypeId} (he : Tryz.prog.underlying e = some .bool) {v : Value} {z : DataW Unit × List MemPlace} (h : plainElem Tryz.prog e v = some z) : ∃ y, v = .bool y ∧ z = (.lit (.bool y), []) := by
  unfold plainElem at h
  rw [he] at h
  cases v <;> simp at h
  exact ⟨_, rfl, h.symm⟩

theorem set_look {w : World} {b n : Nat} {X : List Int} (h : SetIs w b n X) {x : Int} (hx : I64 x) :
    (Instr.lookup 53 (.map (some b)) (.int .i64 x) false).run Tryz.prog w = .ok (.bool (inX X x)) w := by
  obtain ⟨D, ho, _, hat⟩ := h
  obtain ⟨v, ps, hrun, hv⟩ := ho.lookup law Tryz.underlying53 (zeroE w) (plainElem_bool Tryz.underlying4 false) (keyOf_int_mk Tryz.underlying3 (wf_lit hx))
  obtain ⟨y, rfl, hz⟩ := bool_inv Tryz.underlying4 hv
  simp only [Prod.mk.injEq] at hz
  have := hz.1.symm.trans (hat x hx)
  simp only [DataW.lit.injEq, Lit.bool.injEq] at this
  rw [hrun, this]

theorem SetIs.next {w w' : World} {b n : Nat} {X : List Int} (h : SetIs w b n X) (hb : Below w.heap.size w w') : SetIs w' b n X := by
  obtain ⟨D, ⟨es, cl, hh, r⟩, hm, hat⟩ := h
  exact ⟨D, ⟨es, cl, (hb.block b (Array.getElem?_eq_some_iff.1 hh).1).trans hh, r⟩, hm, hat⟩

theorem set_made (w : World) : SetIs (w.alloc (.map #[] 0)) w.heap.size 0 [] :=
  ⟨.map [], World.ownsMap_made _ _ _ _, ⟨_, rfl⟩, fun x _ => by simp [DataW.atKey, inX]⟩

theorem set_put {D : DataW Unit} {X : List Int} (hm : IsMap D) (hat : ∀ x, I64 x → D.atKey (.int .i64 x) (.lit (.bool false)) = .lit (.bool (inX X x))) (y : Int) :
    IsMap (D.put (.int .i64 y) (.lit (.bool true))) ∧ ∀ x, I64 x → (D.put (.int .i64 y) (.lit (.bool true))).atKey (.int .i64 x) (.lit (.bool false)) = .lit (.bool (inX (X ++ [y]) x)) := by
  refine ⟨hm.put _ _, fun x hx => ?_⟩
  unfold inX
  rw [List.any_append]
  by_cases hxy : x = y
  · subst hxy
    rw [atKey_put_same hm (by trivial)]
    simp
  · rw [atKey_put_other (by intro e; simp at e; exact hxy e), hat x hx]
    have : (y == x) = false := by simp; exact fun e => hxy e.symm
    simp [inX, this]

/-- The keys of a map are these. -/
def KeysAre (D : DataW Unit) (X : List Int) : Prop := ∃ es : List (Lit × DataW Unit), D = .map es ∧ (∀ p ∈ es, ∃ x, p.1 = .int .i64 x) ∧ (Go.intKeys D).Perm X

theorem insert_perm (x : Lit × DataW Unit) (l : List (Lit × DataW Unit)) : (DataW.insert x l).Perm (x :: l) := by
  induction l with
  | nil => exact List.Perm.refl _
  | cons y r ih =>
    unfold DataW.insert
    split
    · exact List.Perm.refl _
    · exact (List.Perm.cons y ih).trans (List.Perm.swap x y r)

theorem keys_nil : KeysAre (.map []) [] := ⟨[], rfl, fun p h => by simp at h, List.Perm.refl _⟩

theorem keys_put {D : DataW Unit} {X : List Int} (h : KeysAre D X) {y : Int} (hy : y ∉ X) (d : DataW Unit) : KeysAre (D.put (.int .i64 y) d) (X ++ [y]) := by
  obtain ⟨es, rfl, hk, hp⟩ := h
  have hf : es.filter (fun p => !p.1.sameKey (.int .i64 y)) = es := by
    rw [List.filter_eq_self]
    intro p hpm
    obtain ⟨x, hx⟩ := hk p hpm
    rw [hx]
    have hne : x ≠ y := fun e => by
      apply hy
      rw [← e]
      apply hp.subset
      unfold Go.intKeys
      exact List.mem_map.2 ⟨p, hpm, by rw [hx]; rfl⟩
    simp [Lit.sameKey, hne]
  unfold DataW.put
  simp only [hf]
  refine ⟨_, rfl, fun p hpm => ?_, ?_⟩
  · have := (insert_perm _ _).subset hpm
    rw [List.mem_cons] at this
    rcases this with rfl | hm
    · exact ⟨y, rfl⟩
    · exact hk p hm
  · unfold Go.intKeys at *
    refine ((insert_perm (.int .i64 y, d) es).map _).trans ?_
    rw [List.map_cons]
    exact (List.Perm.cons _ hp).trans (List.perm_append_comm (l₁ := [y]) (l₂ := X))

end SetI
end Go.Proofs.YtninglnchengeaaGreat

/-
  slices.Sorted(maps.Keys(m)) at map[int]bool: the keys, sorted.
-/
namespace Go.Proofs.YtninglnchengeaaGreat
open Go.RowKit Base
set_option linter.unusedVariables false
namespace SortedK
open Go.Maps Go.Sort Go.Shelf

def keysA_ren : Go.Shelf.Ren := ⟨fun | 7 => 102 | 10 => 113 | n => n, fun | 23 => 53 | 26 => 3 | 3 => 4 | 28 => 51 | 0 => 0 | 27 => 50 | 33 => 58 | 4 => 4 | n => n, fun | n => n⟩
theorem keysA : Go.Proofs.SlLaysZI.n7 Tryz.prog keysA_ren := {
  mixed := by kernel_rfl
  f7 := ⟨Tryz.f102.name, by decide, Tryz.func102.trans (congrArg some (by kernel_rfl))⟩
  f10 := ⟨Tryz.f113.name, by decide, Tryz.func113.trans (congrArg some (by kernel_rfl))⟩
  t0 := Tryz.underlying0
  a0 := Tryz.isAgg0
  z0 := Tryz.sizeOf0
  v0 := Tryz.zeroValue0
  t4 := Tryz.underlying4
  a4 := Tryz.isAgg4
  z4 := Tryz.sizeOf4
  v4 := Tryz.zeroValue4
  t23 := Tryz.underlying53
  a23 := Tryz.isAgg53
  z23 := Tryz.sizeOf53
  v23 := Tryz.zeroValue53
  t26 := Tryz.underlying3
  a26 := Tryz.isAgg3
  z26 := Tryz.sizeOf3
  v26 := Tryz.zeroValue3
  t27 := Tryz.underlying50
  a27 := Tryz.isAgg50
  z27 := Tryz.sizeOf50
  v27 := Tryz.zeroValue50
  t28 := Tryz.underlying51
  a28 := Tryz.isAgg51
  z28 := Tryz.sizeOf51
  v28 := Tryz.zeroValue51
  t33 := Tryz.underlying58
  a33 := Tryz.isAgg58
  z33 := Tryz.sizeOf58
  v33 := Tryz.zeroValue58 }
def sortedA_ren : Go.Shelf.Ren := ⟨fun | 6 => 18 | 8 => 46 | 9 => 47 | 11 => 78 | 13 => 80 | 12 => 79 | 23 => 99 | 24 => 100 | 14 => 90 | 15 => 91 | 16 => 92 | 17 => 93 | 18 => 94 | 19 => 95 | 20 => 96 | 21 => 97 | 22 => 98 | 25 => 107 | 26 => 108 | 27 => 109 | 28 => 110 | 29 => 111 | 30 => 112 | 31 => 116 | n => n, fun | 26 => 3 | 28 => 51 | 24 => 22 | 0 => 0 | 3 => 3 | 37 => 105 | 48 => 126 | 50 => 128 | 4 => 4 | 40 => 118 | 39 => 117 | 45 => 123 | 5 => 5 | 9 => 9 | 51 => 135 | 55 => 139 | 57 => 142 | 58 => 143 | 33 => 58 | n => n, fun | n => n⟩
theorem sortedA : Go.Proofs.SlLaysZI.n6 Tryz.prog sortedA_ren := {
  mixed := by kernel_rfl
  f6 := ⟨Tryz.f18.name, by decide, Tryz.func18.trans (congrArg some (by kernel_rfl))⟩
  f8 := ⟨Tryz.f46.name, by decide, Tryz.func46.trans (congrArg some (by kernel_rfl))⟩
  f11 := ⟨Tryz.f78.name, by decide, Tryz.func78.trans (congrArg some (by kernel_rfl))⟩
  t0 := Tryz.underlying0
  a0 := Tryz.isAgg0
  z0 := Tryz.sizeOf0
  v0 := Tryz.zeroValue0
  t24 := Tryz.underlying22
  a24 := Tryz.isAgg22
  z24 := Tryz.sizeOf22
  v24 := Tryz.zeroValue22
  t26 := Tryz.underlying3
  a26 := Tryz.isAgg3
  z26 := Tryz.sizeOf3
  v26 := Tryz.zeroValue3
  t28 := Tryz.underlying51
  a28 := Tryz.isAgg51
  z28 := Tryz.sizeOf51
  v28 := Tryz.zeroValue51
  i26 := by kernel_rfl }
def sortA_ren : Go.Shelf.Ren := ⟨fun | 5 => 47 | 8 => 80 | 7 => 79 | 19 => 99 | 20 => 100 | 10 => 90 | 11 => 91 | 12 => 92 | 13 => 93 | 14 => 94 | 15 => 95 | 16 => 96 | 17 => 97 | 18 => 98 | 30 => 107 | 31 => 108 | 32 => 109 | 33 => 110 | 34 => 111 | 35 => 112 | 40 => 116 | n => n, fun | 23 => 22 | 25 => 3 | 3 => 3 | 32 => 105 | 22 => 22 | 0 => 0 | 44 => 126 | 46 => 128 | 4 => 4 | 36 => 118 | 35 => 117 | 41 => 123 | 5 => 5 | 9 => 9 | 53 => 135 | 57 => 139 | 63 => 142 | 64 => 143 | n => n, fun | n => n⟩
theorem sortA : Go.Proofs.SlLaysM.n5 Tryz.prog sortA_ren := {
  mixed := by kernel_rfl
  f5 := ⟨Tryz.f47.name, by decide, Tryz.func47.trans (congrArg some (by kernel_rfl))⟩
  f7 := ⟨Tryz.f79.name, by decide, Tryz.func79.trans (congrArg some (by kernel_rfl))⟩
  f8 := Tryz.func80.trans (congrArg some (by kernel_rfl))
  f10 := ⟨Tryz.f90.name, by decide, Tryz.func90.trans (congrArg some (by kernel_rfl))⟩
  f11 := ⟨Tryz.f91.name, by decide, Tryz.func91.trans (congrArg some (by kernel_rfl))⟩
  f12 := ⟨Tryz.f92.name, by decide, Tryz.func92.trans (congrArg some (by kernel_rfl))⟩
  f13 := ⟨Tryz.f93.name, by decide, Tryz.func93.trans (congrArg some (by kernel_rfl))⟩
  f14 := ⟨Tryz.f94.name, by decide, Tryz.func94.trans (congrArg some (by kernel_rfl))⟩
  f15 := ⟨Tryz.f95.name, by decide, Tryz.func95.trans (congrArg some (by kernel_rfl))⟩
  f16 := ⟨Tryz.f96.name, by decide, Tryz.func96.trans (congrArg some (by kernel_rfl))⟩
  f17 := ⟨Tryz.f97.name, by decide, Tryz.func97.trans (congrArg some (by kernel_rfl))⟩
  f18 := ⟨Tryz.f98.name, by decide, Tryz.func98.trans (congrArg some (by kernel_rfl))⟩
  f19 := Tryz.func99.trans (congrArg some (by kernel_rfl))
  f20 := Tryz.func100.trans (congrArg some (by kernel_rfl))
  f30 := ⟨Tryz.f107.name, by decide, Tryz.func107.trans (congrArg some (by kernel_rfl))⟩
  f31 := Tryz.func108.trans (congrArg some (by kernel_rfl))
  f32 := Tryz.func109.trans (congrArg some (by kernel_rfl))
  f33 := ⟨Tryz.f110.name, by decide, Tryz.func110.trans (congrArg some (by kernel_rfl))⟩
  f34 := ⟨Tryz.f111.name, by decide, Tryz.func111.trans (congrArg some (by kernel_rfl))⟩
  f35 := ⟨Tryz.f112.name, by decide, Tryz.func112.trans (congrArg some (by kernel_rfl))⟩
  f40 := ⟨Tryz.f116.name, by decide, Tryz.func116.trans (congrArg some (by kernel_rfl))⟩
  t0 := Tryz.underlying0
  a0 := Tryz.isAgg0
  z0 := Tryz.sizeOf0
  v0 := Tryz.zeroValue0
  t3 := Tryz.underlying3
  a3 := Tryz.isAgg3
  z3 := Tryz.sizeOf3
  v3 := Tryz.zeroValue3
  t4 := Tryz.underlying4
  a4 := Tryz.isAgg4
  z4 := Tryz.sizeOf4
  v4 := Tryz.zeroValue4
  t5 := Tryz.underlying5
  a5 := Tryz.isAgg5
  z5 := Tryz.sizeOf5
  v5 := Tryz.zeroValue5
  t9 := Tryz.underlying9
  a9 := Tryz.isAgg9
  z9 := Tryz.sizeOf9
  v9 := Tryz.zeroValue9
  t22 := Tryz.underlying22
  a22 := Tryz.isAgg22
  z22 := Tryz.sizeOf22
  v22 := Tryz.zeroValue22
  t23 := Tryz.underlying22
  a23 := Tryz.isAgg22
  z23 := Tryz.sizeOf22
  v23 := Tryz.zeroValue22
  t25 := Tryz.underlying3
  a25 := Tryz.isAgg3
  z25 := Tryz.sizeOf3
  v25 := Tryz.zeroValue3
  t32 := Tryz.underlying105
  a32 := Tryz.isAgg105
  z32 := Tryz.sizeOf105
  v32 := Tryz.zeroValue105
  t35 := Tryz.underlying117
  a35 := Tryz.isAgg117
  z35 := Tryz.sizeOf117
  v35 := Tryz.zeroValue117
  t36 := Tryz.underlying118
  a36 := Tryz.isAgg118
  z36 := Tryz.sizeOf118
  v36 := Tryz.zeroValue118
  t41 := Tryz.underlying123
  a41 := Tryz.isAgg123
  z41 := Tryz.sizeOf123
  v41 := Tryz.zeroValue123
  t44 := Tryz.underlying126
  a44 := Tryz.isAgg126
  z44 := Tryz.sizeOf126
  v44 := Tryz.zeroValue126
  t46 := Tryz.underlying128
  a46 := Tryz.isAgg128
  z46 := Tryz.sizeOf128
  v46 := Tryz.zeroValue128
  t53 := Tryz.underlying135
  a53 := Tryz.isAgg135
  z53 := Tryz.sizeOf135
  v53 := Tryz.zeroValue135
  t57 := Tryz.underlying139
  a57 := Tryz.isAgg139
  z57 := Tryz.sizeOf139
  v57 := Tryz.zeroValue139
  t63 := Tryz.underlying142
  a63 := Tryz.isAgg142
  z63 := Tryz.sizeOf142
  v63 := Tryz.zeroValue142
  t64 := Tryz.underlying143
  a64 := Tryz.isAgg143
  z64 := Tryz.sizeOf143
  v64 := Tryz.zeroValue143 }

theorem sortsA (m : Nat) : AnyZI.SortsIn Tryz.prog sortedA_ren Fence.wide m :=
  ⟨fun blk off cap ss W hH hblk hsz => callsIn_wide.2 (AnyM.slices_Sort_int sortA blk off cap ss W hH hblk hsz),
   fun p cap W => callsIn_wide.2 (AnyM.slices_Sort_int_none sortA p cap W)⟩

theorem keys_any (mb : Option Nat) (w : World) : Calls Tryz.prog 102 #[.map mb] w fun e w' => e = .returned (.func (.func 113) #[] #[.pointer (some ⟨w.heap.size, 0, none⟩)]) ∧ w' = w.alloc (.cells #[.map mb] 53) :=
  (callsIn_wide (n := 5)).1 (AnyZI.keys_in keysA Fence.wide 5 trivial rfl mb w)

set_option maxHeartbeats 1000000 in
theorem sorted_any {H : Type} (b nn : Nat) (D0 : DataW H) (R : Value → Option (DataW H × List MemPlace)) (w : World) (hown : w.ownsMap Tryz.prog 3 R b nn D0) (hmax : Maps.size D0 ≤ maxLen) (hbytes : Maps.size D0 * 8 ≤ 140737488355328) :
    Calls Tryz.prog 18 #[.func (.func 113) #[] #[.pointer (some ⟨w.heap.size, 0, none⟩)]] (w.alloc (.cells #[.map (some b)] 53)) fun e w' => ∃ (v : Value) (ss : List Int), e = .returned v ∧ ss.Perm (intKeys D0) ∧
      w'.ownsRow w.heap.size 3 1 v ss.length ((ss.mergeSort (fun x y => decide (x ≤ y))).map encZ) ∧ (v = .slice none 0 0 ↔ ss = []) ∧ Below w.heap.size w w' := by
  refine (callsIn_wide (n := 5)).1 ?_
  have hbl := hown.lt
  have hseq : SeqGives Fence.wide 2 Tryz.prog 113 #[.pointer (some ⟨w.heap.size, 0, none⟩)] encZ (fun ss => ss.Perm (intKeys D0)) (Maps.size D0) (w.alloc (.cells #[.map (some b)] 53)) :=
    AnyZI.keys_gives (ρ := keysA_ren) { keysA with } Fence.wide _ trivial rfl (by omega) w.heap.size b nn D0 _ (by simp) (by simp) (by
      obtain ⟨es, clock, hb, Ft, hs, hD⟩ := hown
      exact ⟨es, clock, (Below.heap_alloc _ _ b hbl).trans hb, Ft, hs, hD⟩)
  have cS := AnyZI.sorted_in sortedA Fence.wide 5 trivial trivial trivial trivial rfl (by omega) (sortsA _) (enters_of Tryz.func47 (by kernel_rfl) rfl) 113 #[.pointer (some ⟨w.heap.size, 0, none⟩)] trivial (enters_of Tryz.func113 (by kernel_rfl) rfl) _ _ hmax hbytes _ hseq
  refine cS.mono ?_
  rintro e w' ⟨v, ss, he, hS, hrow, hnil, hb⟩
  exact ⟨v, ss, he, hS, ownsRow_base_a hrow (by simp), hnil, ((Below.refl _ w).alloc (Nat.le_refl _) _).trans (hb.mono (by simp))⟩

end SortedK
end Go.Proofs.YtninglnchengeaaGreat

/-
  slices.Clone at one instance (elements of one cell): a slice of its own with the same elements; of nil nil.
-/
namespace Go.Proofs.YtninglnchengeaaGreat
open Go.RowKit Base
set_option linter.unusedVariables false
namespace CloneI

theorem info : (Tryz.prog.info? 3).map (fun i => (i.zero, i.size, i.bytes)) = some (some (.int .i64 0), 1, 8) := by kernel_rfl

set_option maxHeartbeats 1000000 in
theorem clone (w : World) (a : Option Addr) (n c : Nat) (vs : List Value) (hsl : Sl w a n c vs) (h1 : ∀ u ∈ vs, u.oneCell' = true) (hn : n * 8 ≤ 140737488355328) :
    Calls Tryz.prog 21 #[.slice a n c] w fun e w' => ∃ a' c', e = .returned (.slice a' n c') ∧ w'.ownsRow w.heap.size 3 1 (.slice a' n c') n vs ∧ Below w.heap.size w w' := by
  have heq := fun (W : World) (x : Option Addr) => Lib.run_eql_slice_nil (P := Tryz.prog) W 22 3 x n c 0 0 Tryz.underlying22
  cases a with
  | none =>
    obtain ⟨rfl, rfl⟩ := hsl.bare rfl
    have hv : vs = [] := List.eq_nil_of_length_eq_zero hsl.len
    subst hv
    go_enter Tryz.func21, Tryz.ntmps21
    go_wp2_with fail
    go_ret
    exact ⟨none, 0, rfl, World.ownsRow_nil _ _ _ _, Below.refl _ _⟩
  | some ad =>
    have hal : Below w.heap.size w (w.alloc (.cells #[] 3)) := (Below.refl _ _).alloc (Nat.le_refl _) _
    have hsl' := hsl.next hal
    have hown : (w.alloc (.cells #[] 3)).ownsRow w.heap.size 3 1 (.slice (some ⟨w.heap.size, 0, none⟩) 0 0) 0 [] := World.ownsRow_lit w #[] 0 (Nat.le_refl _) (by unfold maxLen; omega) rfl
    have H1 := Lib.hid h1
    clear h1 hsl
    go_enter Tryz.func21, Tryz.ntmps21
    go_wp2_with ((with_reducible refine wpL_app (B := w.heap.size) (W := w) _ 0 [] _ n c vs info Tryz.underlying22 ?_ ?_ ?_ H1.out hown hsl' ?_ ?_ ?_ hal ?_); rfl; rfl; rfl; exact hal.size; omega; omega; (rw [Nat.zero_add, List.nil_append]; intro a2 c2 w2 hown2 hb2 _))
    go_ret
    exact ⟨a2, c2, rfl, hown2, hb2⟩
end CloneI
end Go.Proofs.YtninglnchengeaaGreat

/-
  circuit.Cone: what literals hang on.
-/
namespace Go.Proofs.YtninglnchengeaaGreat
open Go.RowKit Base Go.Maps
set_option linter.unusedVariables false
set_option linter.unusedSimpArgs false
namespace Circuit

theorem info_intC : (Tryz.prog.info? 3).map (fun i => (i.zero, i.size, i.bytes)) = some (some (.int .i64 0), 1, 8) := by kernel_rfl

/-- The set of what is met, and its keys. -/
def SetK (w : World) (b n : Nat) (M : List Int) : Prop :=
  ∃ D : DataW Unit, w.ownsMap Tryz.prog 3 (plainElem Tryz.prog 4) b n D ∧ IsMap D ∧ (∀ x, SetI.I64 x → D.atKey (.int .i64 x) (.lit (.bool false)) = .lit (.bool (SetI.inX M x))) ∧ SetI.KeysAre D M

theorem SetK.set {w : World} {b n : Nat} {M : List Int} (h : SetK w b n M) : SetI.SetIs w b n M := by
  obtain ⟨D, h1, h2, h3, _⟩ := h
  exact ⟨D, h1, h2, h3⟩
theorem SetK.next {w w' : World} {b n : Nat} {M : List Int} (h : SetK w b n M) (hb : Below w.heap.size w w') : SetK w' b n M := by
  obtain ⟨D, ⟨es, cl, hh, r⟩, hm, hat, hk⟩ := h
  exact ⟨D, ⟨es, cl, (hb.block b (Array.getElem?_eq_some_iff.1 hh).1).trans hh, r⟩, hm, hat, hk⟩

theorem _root_.Go.Proofs.YtninglnchengeaaGreat.SetI.keys_size {D : DataW Unit} {X : List Int} (h : SetI.KeysAre D X) : Maps.size D = X.length := by
  obtain ⟨es, rfl, _, hp⟩ := h
  have := hp.length_eq
  unfold Go.intKeys at this
  rw [List.length_map] at this
  exact this

theorem sorted_strict {ss M : List Int} (hp : ss.Perm M) (hn : M.Nodup) : (ss.mergeSort (fun x y => decide (x ≤ y))).Pairwise (· < ·) ∧ (∀ v, v ∈ ss.mergeSort (fun x y => decide (x ≤ y)) ↔ v ∈ M) ∧ (ss.mergeSort (fun x y => decide (x ≤ y))).length = ss.length := by
  have hperm : (ss.mergeSort (fun x y => decide (x ≤ y))).Perm M := (List.mergeSort_perm _ _).trans hp
  have h1 : (ss.mergeSort (fun x y => decide (x ≤ y))).Pairwise (fun x y => decide (x ≤ y) = true) :=
    List.pairwise_mergeSort (fun a b c h1 h2 => by simp only [decide_eq_true_eq] at *; omega) (fun a b => by simp only [Bool.or_eq_true, decide_eq_true_eq]; omega) ss
  have h2 : (ss.mergeSort (fun x y => decide (x ≤ y))).Nodup := hperm.nodup_iff.2 hn
  refine ⟨?_, fun v => hperm.mem_iff, by simp⟩
  refine (h1.and h2).imp ?_
  intro a b h
  simp only [decide_eq_true_eq] at h
  omega

theorem SetK.keep {w w' : World} {b n : Nat} {M : List Int} (h : SetK w b n M) {B : Nat} (hb : Below B w w') (hB : b < B) : SetK w' b n M := by
  obtain ⟨D, ⟨es, cl, hh, r⟩, hm, hat, hk⟩ := h
  exact ⟨D, ⟨es, cl, (hb.block b hB).trans hh, r⟩, hm, hat, hk⟩

theorem pop_last {T : List Int} (h : 0 < T.length) : ∃ T' t, T = T' ++ [t] ∧ T'.length + 1 = T.length := by
  refine ⟨T.dropLast, T.getLast (by intro e; rw [e] at h; simp at h), (List.dropLast_concat_getLast _).symm, ?_⟩
  rw [List.length_dropLast]
  omega

set_option maxRecDepth 8000 in
set_option maxHeartbeats 16000000 in
theorem cone_any (w : World) (x : Circ) (p : At) (hin : InCirc w x p) (hwa : WfT x.ands) (a : Option Addr) (c : Nat) (l : List Int) (hsl : Sl w a l.length c (ints l)) (hl : ∀ y ∈ l, I64 y) (hsz : (2 * l.length + 2 * x.ands.length + 2) * 8 ≤ 140737488355328) :
    Calls Tryz.prog 81 #[.agg (cells x p), .slice a l.length c] w fun e w' => ∃ a' c' vs, e = .returned (.slice a' vs.length c') ∧ w'.ownsRow w.heap.size 3 1 (.slice a' vs.length c') vs.length (ints vs) ∧ (vs.Pairwise (· < ·)) ∧ (∀ v, v ∈ vs ↔ v ≠ 0 ∧ Rch x.ands l v) ∧ Below w.heap.size w w' := by
  obtain ⟨W1, hW1⟩ : ∃ W1, w.alloc (.cells (cells x p) 27) = W1 := ⟨_, rfl⟩
  obtain ⟨hb1, hcb⟩ := cbox_new w x p W1 hW1
  obtain ⟨W2, hW2⟩ : ∃ W2, W1.alloc (.map #[] 0) = W2 := ⟨_, rfl⟩
  have hb2 : Below W1.heap.size W1 W2 := by rw [← hW2]; exact (Below.refl _ _).alloc (Nat.le_refl _) _
  have z2 : W2.heap.size = W1.heap.size + 1 := by rw [← hW2]; simp
  have hset : SetK W2 W1.heap.size 0 [] := by rw [← hW2]; exact ⟨.map [], World.ownsMap_made _ _ _ _, ⟨_, rfl⟩, fun x _ => by simp [DataW.atKey, SetI.inX], SetI.keys_nil⟩
  have CL := CloneI.clone W2 a l.length c (ints l) (hsl.next (hb1.trans (hb2.mono hb1.size))) (fun u hu => by unfold ints at hu; obtain ⟨y, _, rfl⟩ := List.mem_map.1 hu; rfl) (by omega)
  have HCL := Lib.hid CL
  have HB1 := Lib.hid hb1
  have HB2 := Lib.hid hb2
  have HZ2 := Lib.hid z2
  have HSET := Lib.hid hset
  have KB := Lib.hid (fun (U : World) (hU : Below W1.heap.size W1 U) => hcb.next hU (Nat.le_refl _))
  have HGA := fun (U : World) (hU : Below W1.heap.size W1 U) (v : Int) => gate_any U x p ((hin.next hb1).next hU) hwa v
  have HSZ := Lib.hid hsz
  have HWA := Lib.hid hwa
  have HL := Lib.hid hl
  obtain ⟨a1, c1, a2, c2, a3, c3, a4, c4, a5, c5, a6, c6, a7, c7⟩ := p
  simp only [cells] at hW1 HGA ⊢
  have HG := Lib.hid HGA
  have hmm := @run_makeMap Tryz.prog
  clear hin hwa hsl hl hsz hb1 hcb hb2 z2 hset CL HGA
  go_enter Tryz.func81, Tryz.ntmps81
  go_wp2_with fail
  with_reducible refine HCL.out.mono ?_
  rintro e w3 ⟨a3', c3', rfl, hown3, hb3⟩
  have hset3 := HSET.out.next hb3
  have hb13 := HB2.out.trans (hb3.mono HB2.out.size)
  have hz3 := hb3.size
  have HST : Hid (∃ (T M : List Int) (a' : Option Addr) (c' n : Nat), (.slice a3' l.length c3' : Value) = .slice a' n c' ∧ Hid (T.length = n) ∧ Hid (w3.ownsRow W2.heap.size 3 1 (.slice a' n c') n (ints T)) ∧ Hid (ConeInv x.ands l T M) ∧ Hid (SetK w3 W1.heap.size M.length M) ∧ Hid (∀ t ∈ T, I64 t) ∧ Hid (l.length + 3 * (l.length + 2 * x.ands.length) = T.length + 3 * (l.length + 2 * x.ands.length - M.length)) ∧ Hid (Below W1.heap.size W1 w3) ∧ Hid (W2.heap.size ≤ w3.heap.size)) :=
    ⟨l, [], a3', c3', l.length, rfl, rfl, hown3, cone_start _ _, hset3, HL.out, by show _ = _; simp, hb13, hz3⟩
  clear hW1 hW2 hmm HCL hset3 hb13 hz3 hown3 hb3
  go_wp2_with fail
  go_loopg [6] (l.length + 3 * (l.length + 2 * x.ands.length)) (fun gk s6 wr => ∃ (T M : List Int) (a' : Option Addr) (c' n : Nat), s6 = .slice a' n c' ∧ Hid (T.length = n) ∧ Hid (wr.ownsRow W2.heap.size 3 1 (.slice a' n c') n (ints T)) ∧ Hid (ConeInv x.ands l T M) ∧ Hid (SetK wr W1.heap.size M.length M) ∧ Hid (∀ t ∈ T, I64 t) ∧ Hid (gk = T.length + 3 * (l.length + 2 * x.ands.length - M.length)) ∧ Hid (Below W1.heap.size W1 wr) ∧ Hid (W2.heap.size ≤ wr.heap.size))
  case atStart => exact HST.out
  case round =>
    clear HST
    obtain ⟨T, M, a', c', n, rfl, hn, hown, hI, hS, h64, hgk, hB, hZ⟩ := hrel
    by_cases hpos : 0 < n
    · obtain ⟨T', t, hT, hlen⟩ := pop_last (T := T) (by have := hn.out; omega)
      obtain ⟨m, rfl⟩ : ∃ m, n = m + 1 := ⟨n - 1, by omega⟩
      have hm : T'.length = m := by have := hn.out; omega
      have HTM := Lib.hid hm
      subst hT
      obtain ⟨g, rfl, hgl, hgs⟩ := own_addr hown.out hpos
      have HPOP : Hid (wr.ownsRow W2.heap.size 3 1 (.slice (some ⟨g, 0, none⟩) m c') m (ints T')) := by
        have h := hown.out
        have e : ints (T' ++ [t]) = ints T' ++ [.int .i64 t] := by unfold ints; rw [List.map_append]; rfl
        rw [e] at h
        exact ownsRow_pop (by rw [ints_len, hm, Nat.mul_one]) h
      obtain ⟨a4, c4', hae, hsl⟩ := own_sl hown.out
      simp only [Value.slice.injEq, true_and] at hae
      obtain ⟨rfl, rfl⟩ := hae
      have HGK : Hid (gk = m + 1 + 3 * (l.length + 2 * x.ands.length - M.length)) := by
        have h := hgk.out
        rw [List.length_append, hm] at h
        exact h
      have H64' : Hid (∀ u ∈ T', I64 u) := fun u hu => h64.out u (List.mem_append_left _ hu)
      obtain ⟨b, o, hx, hae2, hbs, d0⟩ := hsl.int (show m < m + 1 by omega)
      simp only [Option.some.injEq, Addr.mk.injEq, and_true] at hae2
      obtain ⟨rfl, rfl⟩ := hae2
      have het : (T' ++ [t])[m] = t := by simp [← hm]
      rw [het, Nat.zero_add] at d0
      have hcap := hsl.cap
      have hbig := hsl.big
      have ht64 := h64.out t (by simp)
      have HV := Lib.hid (fun U => var_any t ht64.1 ht64.2 U)
      have hv64 : SetI.I64 (var t) := by have := ht64; unfold I64 at this; unfold SetI.I64 var; omega
      have HLK := SetI.set_look hS.out.set hv64
      clear hsl hx het hm
      generalize hgv : var t = v at *
      have HGV := Lib.hid hgv
      clear hgv hpos
      by_cases hv0 : v = 0
      · have hv0' : (v == 0) = true := by rw [hv0]; rfl
        have HVZ := Lib.hid hv0
        clear hv0
        go_wp2_with fail
        with_reducible refine (HV.out _).mono ?_
        rintro e w5 ⟨rfl, rfl⟩
        go_wp2_with fail
        go_roundg (m + 3 * (l.length + 2 * x.ands.length - M.length))
        case measure => have := HGK.out; omega
        case rel => exact ⟨T', M, _, c', m, rfl, HTM.out, HPOP.out, cone_skip hI.out (Or.inl (HGV.out.trans HVZ.out)), hS.out, H64'.out, by show _ = _; rw [HTM.out], hB.out, hZ.out⟩
      · have hv0' : (v == 0) = false := by simpa using hv0
        have HV0 := Lib.hid hv0
        clear hv0
        cases hin : SetI.inX M v
        · rw [hin] at HLK
          have HNM : Hid (v ∉ M) := fun hm => by
            have := SetI.inX_iff.2 hm
            rw [hin] at this
            cases this
          have HIN := Lib.hid hin
          clear hin
          obtain ⟨D, hown6, hD1, hD2, hD3⟩ := hS.out
          have hfew := cone_few hI.out
          have HFEW := Lib.hid hfew
          have HML : Hid (M.length < maxLen) := by show _ < _; have := HSZ.out; unfold maxLen; omega
          have HWF := Lib.hid (SetI.wf_lit hv64)
          go_upto_region 8 with ((first | (go_at_call 53; with_reducible refine (HV.out _).mono ?_; rintro e w5 ⟨rfl, rfl⟩) | (at_mapUpdate; refine wpList_mapUpdate_own _ rfl _ _ _ 53 rfl 3 4 SetI.law Tryz.underlying53 _ W1.heap.size M.length _ rfl hown6 HML.out _ _ _ rfl rfl (keyOf_int_mk Tryz.underlying3 HWF.out) _ [] (plainElem_bool Tryz.underlying4 true) ?_; intro w6 hmap6 hgrow6)))
          have hput := SetI.set_put hD1 hD2 v
          have hS6 : SetK w6 W1.heap.size (M.length + 1) (M ++ [v]) := ⟨_, hmap6, hput.1, hput.2, SetI.keys_put hD3 HNM.out _⟩
          have hgB : g ≠ W1.heap.size := by have := HZ2.out; omega
          have hown7 := HPOP.out.kept hgrow6 (Or.inr (by simpa [Value.ownBlock] using hgB))
          have hB6 := hB.out.grown hgrow6 hB.out.size (fun q hq => by cases hq; exact Nat.le_refl _)
          have HB6 := Lib.hid hB6
          have HS6 := Lib.hid hS6
          have HO6 := Lib.hid hown7
          have HZ6 := Lib.hid (Nat.le_trans hZ.out hgrow6.size)
          have CB := KB.out w6 hB6
          have HG6 := Lib.hid (HG.out w6 hB6 v)
          have HI := Lib.hid hI.out
          clear hput hS6 hown7 hB6 hgrow6 hmap6 hown6 hD1 hD2 hD3 HLK d0 hown hS
          have m0 : w6.cell? ⟨w.heap.size, 0, none⟩ = some (.int .i64 x.max) := CB.k0
          have m1 : w6.cell? ⟨w.heap.size, 1, none⟩ = some (.slice a1 x.ins.length c1) := CB.k1
          have m2 : w6.cell? ⟨w.heap.size, 2, none⟩ = some (.slice a2 x.lats.length c2) := CB.k2
          have m3 : w6.cell? ⟨w.heap.size, 3, none⟩ = some (.slice a3 x.outs.length c3) := CB.k3
          have m4 : w6.cell? ⟨w.heap.size, 4, none⟩ = some (.slice a4 x.bads.length c4) := CB.k4
          have m5 : w6.cell? ⟨w.heap.size, 5, none⟩ = some (.slice a5 x.invs.length c5) := CB.k5
          have m6 : w6.cell? ⟨w.heap.size, 6, none⟩ = some (.slice a6 x.ands.length c6) := CB.k6
          have m7 : w6.cell? ⟨w.heap.size, 7, none⟩ = some (.slice a7 x.names.length c7) := CB.k7
          clear CB
          cases hgt : gate x.ands v
          · rw [hgt] at HG6
            have HIN := Lib.hid (cone_meet_none HI.out (by rw [HGV.out]; exact HV0.out) (by rw [HGV.out]; exact HNM.out) (by rw [HGV.out]; exact hgt))
            have HG7 : Hid (Calls Tryz.prog 101 #[.agg #[.int .i64 x.max, .slice a1 x.ins.length c1, .slice a2 x.lats.length c2, .slice a3 x.outs.length c3, .slice a4 x.bads.length c4, .slice a5 x.invs.length c5, .slice a6 x.ands.length c6, .slice a7 x.names.length c7], .int .i64 v] w6 fun e w' => e = .returned (.tuple #[.agg #[.int .i64 0, .int .i64 0, .int .i64 0], .bool false]) ∧ Below w6.heap.size w6 w') := HG6.out
            clear HG6 hgt
            go_wp2_with fail
            with_reducible refine HG7.out.mono ?_
            rintro e w7 ⟨rfl, hb7⟩
            obtain ⟨W8, hW8⟩ : ∃ W8, w7.alloc (.cells #[.int .i64 0, .int .i64 0, .int .i64 0] 43) = W8 := ⟨_, rfl⟩
            obtain ⟨hb8, htb⟩ := tbox_new w7 (0, 0, 0) 43 W8 hW8
            have f0 : W8.frozen? ⟨w7.heap.size, 0, none⟩ = false := by rw [← hW8]; simp [go_sem]
            have f1 : W8.frozen? ⟨w7.heap.size, 1, none⟩ = false := by rw [← hW8]; simp [go_sem]
            have f2 : W8.frozen? ⟨w7.heap.size, 2, none⟩ = false := by rw [← hW8]; simp [go_sem]
            have s0 : W8.setCell ⟨w7.heap.size, 0, none⟩ (.int .i64 0) = W8 := setCell_same _ _ _ htb.t0
            have s1 : W8.setCell ⟨w7.heap.size, 1, none⟩ (.int .i64 0) = W8 := setCell_same _ _ _ htb.t1
            have s2 : W8.setCell ⟨w7.heap.size, 2, none⟩ (.int .i64 0) = W8 := setCell_same _ _ _ htb.t2
            have hb68 := hb7.trans (hb8.mono hb7.size)
            have HB68 := Lib.hid hb68
            have q0 : W8.cell? ⟨w7.heap.size, 0, none⟩ = some (.int .i64 0) := htb.t0
            have q1 : W8.cell? ⟨w7.heap.size, 1, none⟩ = some (.int .i64 0) := htb.t1
            have q2 : W8.cell? ⟨w7.heap.size, 2, none⟩ = some (.int .i64 0) := htb.t2
            clear hb7 hb8 htb hb68 m0 m1 m2 m3 m4 m5 m6 m7
            go_wp2_with fail
            go_roundg (m + 3 * (l.length + 2 * x.ands.length - (M.length + 1)))
            case measure => have := HGK.out; have := cone_few HIN.out; simp only [List.length_append, List.length_singleton] at this; omega
            case rel => exact ⟨T', M ++ [v], _, c', m, rfl, HTM.out, own_next HO6.out HB68.out, by have h := HIN.out; rw [HGV.out] at h; exact h, by show SetK _ _ (M ++ [v]).length _; rw [List.length_append]; exact HS6.out.next HB68.out, H64'.out, by show _ = _; rw [HTM.out, List.length_append]; rfl, HB6.out.trans (HB68.out.mono HB6.out.size), Nat.le_trans HZ6.out HB68.out.size⟩
          · rename_i gy
            obtain ⟨y0, y1, y2⟩ := gy
            rw [hgt] at HG6
            have HIN := Lib.hid (cone_meet_some HI.out (by rw [HGV.out]; exact HV0.out) (by rw [HGV.out]; exact HNM.out) (by rw [HGV.out]; exact hgt))
            have HY := Lib.hid (HWA.out _ (gate_mem hgt))
            have HG7 : Hid (Calls Tryz.prog 101 #[.agg #[.int .i64 x.max, .slice a1 x.ins.length c1, .slice a2 x.lats.length c2, .slice a3 x.outs.length c3, .slice a4 x.bads.length c4, .slice a5 x.invs.length c5, .slice a6 x.ands.length c6, .slice a7 x.names.length c7], .int .i64 v] w6 fun e w' => e = .returned (.tuple #[.agg #[.int .i64 y0, .int .i64 y1, .int .i64 y2], .bool true]) ∧ Below w6.heap.size w6 w') := HG6.out
            clear HG6 hgt
            go_wp2_with fail
            with_reducible refine HG7.out.mono ?_
            rintro e w7 ⟨rfl, hb7⟩
            obtain ⟨W8, hW8⟩ : ∃ W8, w7.alloc (.cells #[.int .i64 y0, .int .i64 y1, .int .i64 y2] 43) = W8 := ⟨_, rfl⟩
            obtain ⟨hb8, htb⟩ := tbox_new w7 (y0, y1, y2) 43 W8 hW8
            have hb68 := hb7.trans (hb8.mono hb7.size)
            have HB68 := Lib.hid hb68
            have q0 : W8.cell? ⟨w7.heap.size, 0, none⟩ = some (.int .i64 y0) := htb.t0
            have q1 : W8.cell? ⟨w7.heap.size, 1, none⟩ = some (.int .i64 y1) := htb.t1
            have q2 : W8.cell? ⟨w7.heap.size, 2, none⟩ = some (.int .i64 y2) := htb.t2
            clear hb7 hb8 htb hb68 m0 m1 m2 m3 m4 m5 m6 m7
            go_upto_region 10 with fail
            obtain ⟨W9, hW9⟩ : ∃ W9, W8.alloc (.cells #[.int .i64 y1, .int .i64 y2] 3) = W9 := ⟨_, rfl⟩
            have hb9 : Below W8.heap.size W8 W9 := by rw [← hW9]; exact (Below.refl _ _).alloc (Nat.le_refl _) _
            have hsl9 : Sl W9 (some ⟨W8.heap.size, 0, none⟩) 2 2 [.int .i64 y1, .int .i64 y2] := by rw [← hW9]; exact sl_new W8 _ _ 2 rfl (by omega)
            have hb69 := HB68.out.trans (hb9.mono HB68.out.size)
            have HO9 := Lib.hid (own_next HO6.out hb69)
            have HZ9 := Lib.hid (Nat.le_trans HZ6.out hb69.size)
            have HB69 := Lib.hid hb69
            have HSL9 := Lib.hid hsl9
            have HAN : Hid ((m + 2) * 8 ≤ 140737488355328) := by
              show _ ≤ _
              have h1 := HI.out.few
              have h2 := cone_few HIN.out
              have h3 := HSZ.out
              have h4 := HTM.out
              rw [List.length_append, h4] at h1
              rw [List.length_append] at h2
              simp only [List.length_singleton] at h1 h2
              omega
            clear hb9 hsl9 hb69
            go_wp2_with ((with_reducible refine wpL_app W2.heap.size (.slice (some ⟨g, 0, none⟩) m c') m (ints T') (some ⟨W8.heap.size, 0, none⟩) 2 2 [.int .i64 y1, .int .i64 y2] info_intC Tryz.underlying22 rfl ?_ ?_ ?_ HO9.out HSL9.out HZ9.out HAN.out ?_ (Below.refl _ W9) ?_); rfl; rfl; (intro u hu; simp only [List.mem_cons, List.not_mem_nil, or_false] at hu; rcases hu with rfl | rfl <;> rfl); (have := HAN.out; omega); (intro a10 c10 w10 hown10 hb10 hz10))
            have hb610 : Below W2.heap.size w6 w10 := (HB69.out.mono (by have := HZ6.out; omega)).trans hb10
            have hB10 : Below W1.heap.size W1 w10 := HB6.out.trans (hb610.mono (by have := HZ2.out; omega))
            have hS10 : SetK w10 W1.heap.size (M.length + 1) (M ++ [v]) := HS6.out.keep hb610 (by have := HZ2.out; omega)
            have h10 : ∀ u ∈ T' ++ [y1, y2], I64 u := fun u hu => by
              rw [List.mem_append] at hu
              rcases hu with hu | hu
              · exact H64'.out u hu
              · simp only [List.mem_cons, List.not_mem_nil, or_false] at hu
                rcases hu with rfl | rfl
                · exact HY.out.2.1
                · exact HY.out.2.2
            have hI10 : ConeInv x.ands l (T' ++ [y1, y2]) (M ++ [v]) := by have h := HIN.out; rw [HGV.out] at h; exact h
            have hO10 : w10.ownsRow W2.heap.size 3 1 (.slice a10 (m + 2) c10) (m + 2) (ints (T' ++ [y1, y2])) := by
              have e : ints (T' ++ [y1, y2]) = ints T' ++ [.int .i64 y1, .int .i64 y2] := by unfold ints; rw [List.map_append]; rfl
              rw [e]
              exact hown10
            have HZ10 := Lib.hid (Nat.le_trans HZ9.out hz10)
            have HB10 := Lib.hid hB10
            have HS10 := Lib.hid hS10
            have H10 := Lib.hid h10
            have HI10 := Lib.hid hI10
            have HO10 := Lib.hid hO10
            clear hb610 hB10 hS10 h10 hI10 hO10 hown10 hb10 hz10 q0 q1 q2
            go_wp2_with fail
            go_roundg (m + 2 + 3 * (l.length + 2 * x.ands.length - (M.length + 1)))
            case measure => have := HGK.out; have := cone_few HI10.out; simp only [List.length_append, List.length_singleton] at this; omega
            case rel => exact ⟨T' ++ [y1, y2], M ++ [v], a10, c10, m + 2, rfl, by show (_ : List Int).length = _; rw [List.length_append, HTM.out]; rfl, HO10.out, HI10.out, by show SetK _ _ (M ++ [v]).length _; rw [List.length_append]; exact HS10.out, H10.out, by show _ = _; rw [List.length_append, List.length_append, HTM.out]; rfl, HB10.out, HZ10.out⟩
        · rw [hin] at HLK
          have HMEM := Lib.hid (SetI.inX_iff.1 hin)
          clear hin
          go_wp2_with fail
          with_reducible refine (HV.out _).mono ?_
          rintro e w5 ⟨rfl, rfl⟩
          go_wp2_with fail
          go_roundg (m + 3 * (l.length + 2 * x.ands.length - M.length))
          case measure => have := HGK.out; omega
          case rel => exact ⟨T', M, _, c', m, rfl, HTM.out, HPOP.out, cone_skip hI.out (Or.inr (by rw [HGV.out]; exact HMEM.out)), hS.out, H64'.out, by show _ = _; rw [HTM.out], hB.out, hZ.out⟩
    · have hn0 : n = 0 := by omega
      subst hn0
      have hT : T = [] := List.eq_nil_of_length_eq_zero hn.out
      subst hT
      obtain ⟨D, hown6, hD1, hD2, hD3⟩ := hS.out
      have hfew := cone_few hI.out
      have hds := SetI.keys_size hD3
      have HKS := Lib.hid (fun (U : World) => SortedK.keys_any (some W1.heap.size) U)
      have HSS := Lib.hid (SortedK.sorted_any W1.heap.size M.length D (plainElem Tryz.prog 4) wr hown6 (by rw [hds]; have := HSZ.out; unfold maxLen; omega) (by rw [hds]; have := HSZ.out; omega))
      have HD3 := Lib.hid hD3
      clear hfew hds hown6 hD1 hD2 hD3
      go_wp2_with fail
      with_reducible refine (HKS.out _).mono ?_
      rintro e w5 ⟨rfl, rfl⟩
      go_wp2_with fail
      with_reducible refine HSS.out.mono ?_
      rintro e w6 ⟨v, ss, rfl, hperm, hrow, hnil, hb⟩
      obtain ⟨a9, c9, rfl, _⟩ := own_sl hrow
      have HROW := Lib.hid hrow
      have HBB := Lib.hid hb
      clear hrow hb hnil
      go_wp2_with fail
      go_ret
      have hpm : (intKeys D).Perm M := by obtain ⟨es, rfl, _, h⟩ := HD3.out; exact h
      obtain ⟨hs1, hs2, hs3⟩ := sorted_strict (hperm.trans hpm) hI.out.nodup
      refine ⟨a9, c9, ss.mergeSort (fun x y => decide (x ≤ y)), by rw [hs3]; rfl, ?_, hs1, fun v => (hs2 v).trans (cone_end hI.out v), ?_⟩
      · rw [hs3]
        exact own_mono HROW.out (by have h1 := hB.out.size; have h2 := HB1.out.size; omega)
      · exact (HB1.out.trans (hB.out.mono HB1.out.size)).trans (HBB.out.mono (by have h1 := hB.out.size; have h2 := HB1.out.size; omega))
end Circuit
end Go.Proofs.YtninglnchengeaaGreat

/-
  coi.needs in memory: a map[int]bool of the call's own: looked up, stored into, counted.
-/
namespace Go.Proofs.YtninglnchengeaaGreat
open Go.RowKit Base Go.Maps
set_option linter.unusedVariables false
set_option linter.unusedSimpArgs false
namespace Coi
open Circuit SetI

def ins (X : List Int) (y : Int) : List Int := if inX X y = true then X else X ++ [y]
theorem ins_nodup {X : List Int} (h : X.Nodup) (y : Int) : (ins X y).Nodup := by
  unfold ins
  split
  · exact h
  · rename_i hy
    rw [List.nodup_append]
    exact ⟨h, by simp, fun a ha b hb e => by rw [List.mem_singleton] at hb; subst hb; exact hy (inX_iff.2 (e ▸ ha))⟩
theorem ins_mem {X : List Int} {y v : Int} : v ∈ ins X y ↔ v ∈ X ∨ v = y := by
  unfold ins
  split
  · rename_i hy
    constructor
    · exact Or.inl
    · rintro (h | rfl)
      · exact h
      · exact inX_iff.1 hy
  · simp

theorem keys_old {D : DataW Unit} {X : List Int} (h : KeysAre D X) (hn : X.Nodup) {y : Int} (hy : y ∈ X) (d : DataW Unit) : KeysAre (D.put (.int .i64 y) d) X := by
  obtain ⟨es, rfl, hk, hp⟩ := h
  have hkk : ∀ p ∈ es, ∃ x, p.1 = .int .i64 x := hk
  have hf : ∀ (l : List (Lit × DataW Unit)), (∀ p ∈ l, ∃ x, p.1 = .int .i64 x) → ((l.filter fun p => !p.1.sameKey (.int .i64 y)).map fun p => Go.intOf p.1) = (l.map fun p => Go.intOf p.1).filter (fun x => decide (x ≠ y)) := by
    intro l hl
    induction l with
    | nil => rfl
    | cons p r ih =>
      obtain ⟨x, hx⟩ := hl p List.mem_cons_self
      have ihr := ih fun q hq => hl q (List.mem_cons_of_mem _ hq)
      have hi : Go.intOf p.1 = x := by rw [hx]; rfl
      rw [List.filter_cons, List.map_cons, List.filter_cons, hi, hx]
      by_cases e : x = y
      · subst e
        have h1 : (!(Lit.int .i64 x).sameKey (.int .i64 x)) = false := by simp [Lit.sameKey]
        rw [h1, if_neg (by simp), if_neg (by simp)]
        exact ihr
      · have h1 : (!(Lit.int .i64 x).sameKey (.int .i64 y)) = true := by simp [Lit.sameKey, e]
        rw [h1, if_pos rfl, if_pos (by simpa using e), List.map_cons, hi, ihr]
  unfold DataW.put
  refine ⟨_, rfl, fun p hpm => ?_, ?_⟩
  · have := (insert_perm _ _).subset hpm
    rw [List.mem_cons] at this
    rcases this with rfl | hm
    · exact ⟨y, rfl⟩
    · exact hk p (List.mem_filter.1 hm).1
  · have h1 : (Go.intKeys (.map (DataW.insert (.int .i64 y, d) (es.filter fun p => !p.1.sameKey (.int .i64 y))))).Perm (y :: Go.intKeys (.map (es.filter fun p => !p.1.sameKey (.int .i64 y)))) := by
      unfold Go.intKeys
      exact (insert_perm (.int .i64 y, d) _).map _
    refine h1.trans ?_
    have hf' : Go.intKeys (.map (es.filter fun p => !p.1.sameKey (.int .i64 y))) = (Go.intKeys (.map es)).filter fun x => decide (x ≠ y) := hf es hk
    rw [hf']
    have h2 : ((Go.intKeys (.map es)).filter fun x => decide (x ≠ y)).Perm (X.filter fun x => decide (x ≠ y)) := hp.filter _
    refine (List.Perm.cons y h2).trans ?_
    have h3 : X.filter (fun x => decide (x ≠ y)) = X.erase y := by
      rw [hn.erase_eq_filter]
      congr 1
      funext x
      by_cases e : x = y <;> simp [e]
    rw [h3]
    exact (List.perm_cons_erase hy).symm

theorem set_ins {D : DataW Unit} {X : List Int} (hm : IsMap D) (hat : ∀ x, SetI.I64 x → D.atKey (.int .i64 x) (.lit (.bool false)) = .lit (.bool (inX X x))) (hk : KeysAre D X) (hn : X.Nodup) (y : Int) :
    IsMap (D.put (.int .i64 y) (.lit (.bool true))) ∧ (∀ x, SetI.I64 x → (D.put (.int .i64 y) (.lit (.bool true))).atKey (.int .i64 x) (.lit (.bool false)) = .lit (.bool (inX (ins X y) x))) ∧ KeysAre (D.put (.int .i64 y) (.lit (.bool true))) (ins X y) := by
  obtain ⟨h1, h2⟩ := set_put hm hat y
  unfold ins
  by_cases hy : inX X y = true
  · rw [if_pos hy]
    refine ⟨h1, fun x hx => ?_, keys_old hk hn (inX_iff.1 hy) _⟩
    rw [h2 x hx]
    congr 2
    rw [Bool.eq_iff_iff, inX_iff, inX_iff, List.mem_append, List.mem_singleton]
    constructor
    · rintro (h | rfl)
      · exact h
      · exact inX_iff.1 hy
    · exact Or.inl
  · rw [if_neg hy]
    exact ⟨h1, h2, keys_put hk (fun h => hy (inX_iff.2 h)) _⟩

theorem look (w : World) {b n : Nat} {X : List Int} (h : SetK w b n X) {x : Int} (hx : SetI.I64 x) :
    (Instr.lookup 54 (.map (some b)) (.int .i64 x) false).run Tryz.prog w = .ok (.bool (inX X x)) w := by
  obtain ⟨D, ho, _, hat, _⟩ := h
  obtain ⟨v, ps, hrun, hv⟩ := ho.lookup law Tryz.underlying54 (zeroE w) (plainElem_bool Tryz.underlying4 false) (keyOf_int_mk Tryz.underlying3 (wf_lit hx))
  obtain ⟨y, rfl, hz⟩ := bool_inv Tryz.underlying4 hv
  simp only [Prod.mk.injEq] at hz
  have := hz.1.symm.trans (hat x hx)
  simp only [DataW.lit.injEq, Lit.bool.injEq] at this
  rw [hrun, this]
theorem store {w : World} {b n : Nat} {X : List Int} (h : SetK w b n X) (hnd : X.Nodup) {x : Int} (hx : SetI.I64 x) (hn : n < 9223372036854775807) :
    ∃ w', (Instr.mapUpdate 54 (.map (some b)) (.int .i64 x) (.bool true)).run Tryz.prog w = .ok () w' ∧ SetK w' b (n + 1) (ins X x) ∧ w.grownBy w' (some b) := by
  obtain ⟨D, ho, hm, hat, hk⟩ := h
  obtain ⟨w', hrun, ho', hg⟩ := ho.update law Tryz.underlying54 (by unfold maxLen; omega) (keyOf_int_mk Tryz.underlying3 (wf_lit hx)) (plainElem_bool Tryz.underlying4 true)
  obtain ⟨h1, h2, h3⟩ := set_ins hm hat hk hnd x
  exact ⟨w', hrun, ⟨_, ho', h1, h2, h3⟩, hg⟩
theorem len (w : World) {b n : Nat} {X : List Int} (h : SetK w b n X) (ty : TypeId) : (Builtin.len_ #[54] ty #[.map (some b)]).run Tryz.prog w = .ok (.int .i64 X.length) w := by
  obtain ⟨D, ho, _, _, hk⟩ := h
  rw [ho.len Tryz.underlying54 ty, keys_size hk]
/-- Its size is the bound. -/
theorem tight {w : World} {b n : Nat} {X : List Int} (h : SetK w b n X) : SetK w b X.length X := by
  obtain ⟨D, ⟨es, cl, hh, hf, hsz, hD⟩, hm, hat, hk⟩ := h
  have hs := keys_size hk
  refine ⟨D, ⟨es, cl, hh, hf, ?_, hD⟩, hm, hat, hk⟩
  rw [← hs, hD]
  unfold Maps.size
  simp [length_sorted]
theorem made (w : World) : SetK (w.alloc (.map #[] 0)) w.heap.size 0 [] :=
  ⟨.map [], World.ownsMap_made _ _ _ _, ⟨_, rfl⟩, fun x _ => by simp [DataW.atKey, inX], keys_nil⟩
theorem SetK_kept {w w' : World} {b n : Nat} {X : List Int} (h : SetK w b n X) {row : Option Nat} (hg : w.grownBy w' row) (hne : some b ≠ row) : SetK w' b n X := by
  obtain ⟨D, ho, r⟩ := h
  exact ⟨D, ho.kept hg hne, r⟩
end Coi
end Go.Proofs.YtninglnchengeaaGreat

/-
  What stays when one block is written.
-/
namespace Go.Proofs.YtninglnchengeaaGreat
open Go.RowKit Base Go.Maps
set_option linter.unusedVariables false
set_option linter.unusedSimpArgs false
namespace StrashP
open Circuit

/-- w2 is as w, but for one block. -/
structure OffB (b : Nat) (w w2 : World) : Prop where
  os : w2.os = w.os
  tape : w2.tape = w.tape
  output : w2.output = w.output
  size : w.heap.size ≤ w2.heap.size
  block : ∀ k, k < w.heap.size → k ≠ b → w2.heap[k]? = w.heap[k]?

theorem OffB.refl (b : Nat) (w : World) : OffB b w w := ⟨rfl, rfl, rfl, Nat.le_refl _, fun _ _ _ => rfl⟩
theorem OffB.trans {b : Nat} {w1 w2 w3 : World} (h : OffB b w1 w2) (h2 : OffB b w2 w3) : OffB b w1 w3 :=
  ⟨h2.os.trans h.os, h2.tape.trans h.tape, h2.output.trans h.output, Nat.le_trans h.size h2.size, fun k hk hne => (h2.block k (Nat.lt_of_lt_of_le hk h.size) hne).trans (h.block k hk hne)⟩
theorem OffB.below {b : Nat} {w w2 w3 : World} (h : OffB b w w2) (hb : Below w2.heap.size w2 w3) : OffB b w w3 :=
  ⟨hb.os.trans h.os, hb.tape.trans h.tape, hb.output.trans h.output, Nat.le_trans h.size hb.size, fun k hk hne => (hb.block k (Nat.lt_of_lt_of_le hk h.size)).trans (h.block k hk hne)⟩
theorem OffB.set {b : Nat} {w w2 : World} (h : OffB b w w2) (j : Nat) (u : Value) : OffB b w (w2.setCell ⟨b, j, none⟩ u) :=
  ⟨h.os, h.tape, h.output, by simpa [World.setCell] using h.size, fun k hk hne => (Below.heap_setCell w2 ⟨b, j, none⟩ u k hne).trans (h.block k hk hne)⟩
theorem OffB.grown {b : Nat} {w w2 w3 : World} (h : OffB b w w2) {row : Option Nat} (hg : w2.grownBy w3 row) (hr : ∀ k, row = some k → w.heap.size ≤ k) : OffB b w w3 :=
  ⟨hg.os.trans h.os, hg.tape.trans h.tape, hg.output.trans h.output, Nat.le_trans h.size hg.size, fun k hk hne => (hg.block k (Nat.lt_of_lt_of_le hk h.size) (fun e => by have := hr k e.symm; omega)).trans (h.block k hk hne)⟩
theorem OffB.put {b : Nat} {w w2 w3 : World} (h : OffB b w w2) (hg : w2.grownBy w3 (some b)) : OffB b w w3 :=
  ⟨hg.os.trans h.os, hg.tape.trans h.tape, hg.output.trans h.output, Nat.le_trans h.size hg.size, fun k hk hne => (hg.block k (Nat.lt_of_lt_of_le hk h.size) (by simpa using hne)).trans (h.block k hk hne)⟩
theorem OffB.own {b : Nat} {w w2 : World} (h : OffB b w w2) {B : Nat} {e : TypeId} {size : Nat} {v : Value} {n : Nat} {vs : List Value} (ho : w.ownsRow B e size v n vs) (hne : v.ownBlock ≠ some b) : w2.ownsRow B e size v n vs := by
  refine ⟨ho.1, ?_⟩
  rcases ho.2 with hn | ⟨g, cap, cur, hv, hb, hh, r⟩
  · exact .inl hn
  · refine .inr ⟨g, cap, cur, hv, hb, ?_, r⟩
    rw [h.block g (Array.getElem?_eq_some_iff.1 hh).1 (by rintro rfl; exact hne (by rw [hv]; rfl))]
    exact hh
theorem OffB.base {b : Nat} {w w2 : World} (h : OffB b w w2) {B : Nat} {w0 : World} (h0 : Below B w0 w) (hB : B ≤ w.heap.size) (hb : B ≤ b) : Below B w0 w2 :=
  ⟨h.os.trans h0.os, h.tape.trans h0.tape, h.output.trans h0.output, Nat.le_trans h0.size h.size, fun k hk => (h.block k (by omega) (by omega)).trans (h0.block k hk)⟩
theorem OffB.box {b : Nat} {w w2 : World} (h : OffB b w w2) {N : Nat} {cs : List Value} (hx : BoxN N cs w) (hne : N ≠ b) : BoxN N cs w2 := by
  have hblk := h.block N hx.lt hne
  refine ⟨Nat.lt_of_lt_of_le hx.lt h.size, fun j u hu => ?_, fun j => ?_⟩
  · exact (World.cell?_of_block (w := w) (a := ⟨N, j, none⟩) hblk).trans (hx.at' j u hu)
  · exact (World.frozen?_of_block (w := w) (a := ⟨N, j, none⟩) hblk).trans (hx.fz j)
theorem OffB.seti {b : Nat} {w w2 : World} (h : OffB b w w2) {m n : Nat} {X : List Int} (hx : SetI.SetIs w m n X) (hne : m ≠ b) : SetI.SetIs w2 m n X := by
  obtain ⟨D, ⟨es, cl, hh, r⟩, hm, hat⟩ := hx
  exact ⟨D, ⟨es, cl, (h.block m (Array.getElem?_eq_some_iff.1 hh).1 hne).trans hh, r⟩, hm, hat⟩
theorem own_not {w : World} {B : Nat} {e : TypeId} {size : Nat} {v : Value} {n : Nat} {vs : List Value} (h : w.ownsRow B e size v n vs) {N : Nat} (hN : w.heap.size ≤ N) : v.ownBlock ≠ some N := by
  intro e
  have := (h.lt N e).2
  omega
theorem own_not' {w : World} {B : Nat} {e : TypeId} {size : Nat} {v : Value} {n : Nat} {vs : List Value} (h : w.ownsRow B e size v n vs) {N : Nat} (hN : N < B) : v.ownBlock ≠ some N := by
  intro e
  have := (h.lt N e).1
  omega

end StrashP
end Go.Proofs.YtninglnchengeaaGreat

/-
  coi.needs.has, add.
-/
namespace Go.Proofs.YtninglnchengeaaGreat
open Go.RowKit Base Go.Maps
set_option linter.unusedVariables false
set_option linter.unusedSimpArgs false
namespace Coi
open Circuit SetI StrashP

theorem var_i64 {l : Int} (h0 : -9223372036854775808 ≤ l) (h1 : l ≤ 9223372036854775807) : SetI.I64 (var l) := by unfold SetI.I64 var; omega

set_option maxHeartbeats 1000000 in
theorem has_any (w : World) {b n : Nat} {X : List Int} (h : SetK w b n X) (l : Int) (h0 : -9223372036854775808 ≤ l) (h1 : l ≤ 9223372036854775807) :
    Calls Tryz.prog 24 #[.map (some b), .int .i64 l] w fun e w' => e = .returned (.bool (inX X (var l))) ∧ w = w' := by
  have hl := look w h (var_i64 h0 h1)
  have VA := Lib.hid (var_any l h0 h1 w)
  generalize var l = v at *
  generalize inX X v = q at *
  clear h
  go_enter Tryz.func24, Tryz.ntmps24
  go_wp2_with fail
  with_reducible refine VA.out.mono ?_
  rintro e w2 ⟨rfl, rfl⟩
  go_wp2_with fail
  go_ret
  exact ⟨rfl, rfl⟩

def insAll (X T : List Int) : List Int := T.foldl ins X
theorem insAll_snoc (X T : List Int) (y : Int) : insAll X (T ++ [y]) = ins (insAll X T) y := by unfold insAll; rw [List.foldl_append]; rfl
theorem insAll_nodup (X T : List Int) (h : X.Nodup) : (insAll X T).Nodup := by
  induction T generalizing X with
  | nil => exact h
  | cons y r ih => exact ih _ (ins_nodup h y)
theorem insAll_mem (X T : List Int) (v : Int) : v ∈ insAll X T ↔ v ∈ X ∨ v ∈ T := by
  induction T generalizing X with
  | nil => simp [insAll]
  | cons y r ih =>
    show v ∈ insAll (ins X y) r ↔ _
    rw [ih, ins_mem, List.mem_cons]
    constructor
    · rintro ((h | h) | h)
      · exact Or.inl h
      · exact Or.inr (Or.inl h)
      · exact Or.inr (Or.inr h)
    · rintro (h | h | h)
      · exact Or.inl (Or.inl h)
      · exact Or.inl (Or.inr h)
      · exact Or.inr h
theorem ins_len (X : List Int) (y : Int) : X.length ≤ (ins X y).length ∧ (ins X y).length ≤ X.length + 1 := by
  unfold ins
  split
  · omega
  · simp
theorem insAll_len (X T : List Int) : X.length ≤ (insAll X T).length ∧ (insAll X T).length ≤ X.length + T.length := by
  induction T generalizing X with
  | nil => simp [insAll]
  | cons y r ih =>
    have h1 := ins_len X y
    have h2 := ih (ins X y)
    have e : insAll X (y :: r) = insAll (ins X y) r := rfl
    rw [e, List.length_cons]
    omega
/-- If it has not grown, nothing was new. -/
theorem insAll_same (X T : List Int) (h : (insAll X T).length ≤ X.length) : ∀ v ∈ T, v ∈ X := by
  induction T generalizing X with
  | nil => intro v hv; cases hv
  | cons y r ih =>
    have h1 := ins_len X y
    have h2 := insAll_len (ins X y) r
    have e : insAll X (y :: r) = insAll (ins X y) r := rfl
    rw [e] at h
    have hy : y ∈ X := by
      have : (ins X y).length = X.length := by omega
      unfold ins at this
      split at this
      · rename_i hq; exact inX_iff.1 hq
      · simp at this
    have hi : ins X y = X := by unfold ins; rw [if_pos (inX_iff.2 hy)]
    rw [hi] at h
    intro v hv
    rcases List.mem_cons.1 hv with rfl | hv
    · exact hy
    · exact ih X h v hv

theorem insAll_id (X T : List Int) (h : ∀ v ∈ T, v ∈ X) : insAll X T = X := by
  induction T with
  | nil => rfl
  | cons y r ih =>
    show insAll (ins X y) r = X
    have hi : ins X y = X := by unfold ins; rw [if_pos (inX_iff.2 (h y List.mem_cons_self))]
    rw [hi]
    exact ih fun v hv => h v (List.mem_cons_of_mem _ hv)

/-- What add leaves. -/
def AddOut (w : World) (b : Nat) (x : Circ) (l X : List Int) (e : Ending) (w' : World) : Prop :=
  ∃ X2, e = .returned (.bool (decide (X.length < X2.length))) ∧ SetK w' b X2.length X2 ∧ Adds x l X X2 ∧ (X2.length ≤ X.length → X2 = X ∧ ∀ v, v ≠ 0 → Rch x.ands l v → v ∈ X) ∧ OffB b w w'

set_option maxRecDepth 8000 in
set_option maxHeartbeats 4000000 in
theorem add_any (w : World) (x : Circ) (p : At) (hin : InCirc w x p) (hwa : WfT x.ands) {b : Nat} {X : List Int} (hset : SetK w b X.length X) (hnd : X.Nodup) (a : Option Addr) (c : Nat) (l : List Int) (hsl : Sl w a l.length c (ints l)) (hl : ∀ y ∈ l, Circuit.I64 y)
    (hsz : (2 * l.length + 2 * x.ands.length + 2) * 8 ≤ 140737488355328) (hX : X.length ≤ 1099511627776000) :
    Calls Tryz.prog 49 #[.map (some b), .agg (cells x p), .slice a l.length c] w (AddOut w b x l X) := by
  obtain ⟨W1, hW1⟩ : ∃ W1, w.alloc (.cells (cells x p) 27) = W1 := ⟨_, rfl⟩
  obtain ⟨hb1, hc1⟩ := cbox_new w x p W1 hW1
  have hset1 := hset.next hb1
  have hlen1 := fun ty => len W1 hset1 ty
  have HCO := Lib.hid (cone_any W1 x p (hin.next hb1) hwa a c l (hsl.next hb1) hl hsz)
  have HB1 := Lib.hid hb1
  have HSET := Lib.hid hset1
  have HND := Lib.hid hnd
  have HXL := Lib.hid hX
  have HSZ := Lib.hid hsz
  have k0 := hc1.k0
  have k1 := hc1.k1
  have k2 := hc1.k2
  have k3 := hc1.k3
  have k4 := hc1.k4
  have k5 := hc1.k5
  have k6 := hc1.k6
  have k7 := hc1.k7
  have HBL : Hid (b < w.heap.size) := by
    obtain ⟨D, ho, _⟩ := hset
    exact ho.lt
  have HWL : Hid (∀ v, Rch x.ands l v → SetI.I64 v) := fun v hv => by
    cases hv with
    | lit ht => exact var_i64 (hl _ ht).1 (hl _ ht).2
    | left _ _ hg => exact var_i64 (hwa _ (gate_mem hg)).2.1.1 (hwa _ (gate_mem hg)).2.1.2
    | right _ _ hg => exact var_i64 (hwa _ (gate_mem hg)).2.2.1 (hwa _ (gate_mem hg)).2.2.2
  obtain ⟨a1, c1, a2, c2, a3, c3, a4, c4, a5, c5, a6, c6, a7, c7⟩ := p
  simp only [cells] at *
  have HHCO := HCO
  clear hin hwa hset hset1 hnd hsl hl hsz hX hb1 hc1 HCO
  go_enter Tryz.func49, Tryz.ntmps49
  go_wp2_with fail
  with_reducible refine HHCO.out.mono ?_
  rintro e w3 ⟨a', c', T, rfl, hownT, hpT, hmT, hb3⟩
  have HT64 : Hid (∀ v ∈ T, SetI.I64 v) := fun v hv => HWL.out v ((hmT v).1 hv).2
  have HMT := Lib.hid hmT
  have HOWN := Lib.hid hownT
  have hoff3 : OffB b w w3 := ((OffB.refl b w).below HB1.out).below hb3
  have HOFF3 := Lib.hid hoff3
  have hset3 := HSET.out.next hb3
  have hTl := hownT
  have HTF : Hid (T.length ≤ 17592186044416) := by
    show _ ≤ _
    have hnd : T.Nodup := hpT.imp fun {a b} h => by omega
    have h1 := nodup_len hnd (C := cands x.ands l) (fun v hv => rch_cand ((hmT v).1 hv).2)
    unfold cands at h1
    simp only [List.length_append, List.length_map] at h1
    have := HSZ.out
    omega
  have HNE : Hid ((Value.slice a' T.length c').ownBlock ≠ some b) := own_not' hownT (Nat.lt_of_lt_of_le HBL.out HB1.out.size)
  have HSET3 := Lib.hid hset3
  have hsl3 := own_sl' hownT
  have hcap := hsl3.cap
  have hbig := hsl3.big
  obtain ⟨m, hm⟩ : ∃ m, T.length = m := ⟨_, rfl⟩
  obtain ⟨xl, hxl⟩ : ∃ m, X.length = m := ⟨_, rfl⟩
  have HM := Lib.hid hm
  have HXLM := Lib.hid hxl
  rw [hm] at hcap
  rw [hm, hxl]
  clear hm hxl hpT hmT hb3 hoff3 hset3 hTl hlen1 hownT hsl3 k0 k1 k2 k3 k4 k5 k6 k7 hW1
  go_wp2_with fail
  go_loopw [16] (fun i wr => ∃ k : Nat, k ≤ m ∧ i = .int .i64 k ∧ Hid (SetK wr b (xl + k) (insAll X (T.take k))) ∧ Hid (OffB b w3 wr)) (fun i _ => m - (intOf i).toNat)
  case atStart => exact ⟨0, Nat.zero_le _, rfl, by show SetK _ _ _ _; rw [← HXLM.out]; exact HSET3.out, OffB.refl _ _⟩
  case round =>
    obtain ⟨k, hk, rfl, hS, hO⟩ := hrel
    by_cases hlt : k < m
    · have hs := own_sl' (hO.out.own HOWN.out HNE.out)
      have hlt2 : k < T.length := by have := HM.out; omega
      obtain ⟨b1, o1, hx, rfl, hbs, hc⟩ := hs.int hlt2
      have h64 := HT64.out T[k] (List.getElem_mem hx)
      have HIN := Lib.hid (insAll_snoc X (T.take k) T[k])
      have HTK := Lib.hid (List.take_succ_eq_append_getElem hx)
      generalize T[k] = v at *
      obtain ⟨w5, hrun, hs5, hg5⟩ := store hS.out (insAll_nodup _ _ HND.out) h64 (by have := HXL.out; have := HXLM.out; have := HTF.out; omega)
      have HS5 : Hid (SetK w5 b (xl + (k + 1)) (insAll X (T.take (k + 1)))) := by
        show SetK _ _ _ _
        rw [HTK.out, HIN.out]
        exact hs5
      have HO5 := Lib.hid (hO.out.put hg5)
      clear hs hs5 hg5 h64 hS hO hlt2
      go_wp2_with fail
      go_roundw
      case rel => exact ⟨k + 1, by omega, by go_num, HS5, HO5⟩
      case measure => simp [intOf]; omega
    · have hkm : k = m := by omega
      subst hkm
      have htk : T.take k = T := List.take_of_length_le (Nat.le_of_eq HM.out)
      have hS' := hS.out
      rw [htk] at hS'
      have hln := fun ty => len wr hS' ty
      have HSF := Lib.hid hS'
      have HLN := insAll_len X T
      generalize hX2 : insAll X T = X2 at *
      have HX2 := Lib.hid hX2
      have HOF := Lib.hid (HOFF3.out.trans hO.out)
      clear htk hS' hS hO hX2 HLN
      go_wp2_with fail
      go_ret
      refine ⟨X2, ?_, tight HSF.out, ⟨by rw [← HX2.out]; exact insAll_nodup _ _ HND.out, fun v => by rw [← HX2.out, insAll_mem, HMT.out]⟩, fun hle => ?_, HOF.out⟩
      · rw [HXLM.out]
        simp
      · have h1 := insAll_same X T (by rw [HX2.out]; exact hle)
        exact ⟨by rw [← HX2.out]; exact insAll_id X T h1, fun v h0 hv => h1 v ((HMT.out v).2 ⟨h0, hv⟩)⟩
end Coi
end Go.Proofs.YtninglnchengeaaGreat

/-
  slices.Clone at one instance (elements of one cell): a slice of its own with the same elements; of nil nil.
-/
namespace Go.Proofs.YtninglnchengeaaGreat
open Go.RowKit Base
set_option linter.unusedVariables false
namespace CloneR

theorem info : (Tryz.prog.info? 22).map (fun i => (i.zero, i.size, i.bytes)) = some (some (.slice none 0 0), 1, 24) := by kernel_rfl

set_option maxHeartbeats 1000000 in
theorem clone (w : World) (a : Option Addr) (n c : Nat) (vs : List Value) (hsl : Sl w a n c vs) (h1 : ∀ u ∈ vs, u.oneCell' = true) (hn : n * 24 ≤ 140737488355328) :
    Calls Tryz.prog 51 #[.slice a n c] w fun e w' => ∃ a' c', e = .returned (.slice a' n c') ∧ w'.ownsRow w.heap.size 22 1 (.slice a' n c') n vs ∧ Below w.heap.size w w' := by
  have heq := fun (W : World) (x : Option Addr) => Lib.run_eql_slice_nil (P := Tryz.prog) W 28 22 x n c 0 0 Tryz.underlying28
  cases a with
  | none =>
    obtain ⟨rfl, rfl⟩ := hsl.bare rfl
    have hv : vs = [] := List.eq_nil_of_length_eq_zero hsl.len
    subst hv
    go_enter Tryz.func51, Tryz.ntmps51
    go_wp2_with fail
    go_ret
    exact ⟨none, 0, rfl, World.ownsRow_nil _ _ _ _, Below.refl _ _⟩
  | some ad =>
    have hal : Below w.heap.size w (w.alloc (.cells #[] 22)) := (Below.refl _ _).alloc (Nat.le_refl _) _
    have hsl' := hsl.next hal
    have hown : (w.alloc (.cells #[] 22)).ownsRow w.heap.size 22 1 (.slice (some ⟨w.heap.size, 0, none⟩) 0 0) 0 [] := World.ownsRow_lit w #[] 0 (Nat.le_refl _) (by unfold maxLen; omega) rfl
    have H1 := Lib.hid h1
    clear h1 hsl
    go_enter Tryz.func51, Tryz.ntmps51
    go_wp2_with ((with_reducible refine wpL_app (B := w.heap.size) (W := w) _ 0 [] _ n c vs info Tryz.underlying28 ?_ ?_ ?_ H1.out hown hsl' ?_ ?_ ?_ hal ?_); rfl; rfl; rfl; exact hal.size; omega; omega; (rw [Nat.zero_add, List.nil_append]; intro a2 c2 w2 hown2 hb2 _))
    go_ret
    exact ⟨a2, c2, rfl, hown2, hb2⟩
end CloneR
end Go.Proofs.YtninglnchengeaaGreat

/-
  slices.Concat at one instance (elements of one cell), and slices.Grow of nil.
-/
namespace Go.Proofs.YtninglnchengeaaGreat
open Go.RowKit Base
set_option linter.unusedVariables false
namespace ConcatI

theorem info : (Tryz.prog.info? 3).map (fun i => (i.zero, i.size, i.bytes)) = some (some (.int .i64 0), 1, 8) := by kernel_rfl

set_option maxRecDepth 10000 in
set_option maxHeartbeats 1000000 in
/-- Grow of nil: nothing is owned yet; the capacity is the run's. -/
theorem grow (w : World) (n : Nat) (hn : n * 8 ≤ 140737488355328) (hn' : n ≤ 4611686018427387904) :
    Calls Tryz.prog 82 #[.slice none 0 0, .int .i64 n] w fun e w' => ∃ a' c', e = .returned (.slice a' 0 c') ∧ w'.ownsRow w.heap.size 3 1 (.slice a' 0 c') 0 [] ∧ Below w.heap.size w w' := by
  by_cases h0 : n = 0
  · subst h0
    go_enter Tryz.func82, Tryz.ntmps82
    go_wp2_with fail
    go_ret
    exact ⟨none, 0, rfl, World.ownsRow_nil _ _ _ _, Below.refl _ _⟩
  · obtain ⟨i, hi, hz0, hz1, hz2⟩ := info_parts info
    have hrun : ∀ ty, (Builtin.append_ #[22, 3] ty #[.slice none 0 0, .int .i64 n]).run Tryz.prog w =
        .ok (.slice (some ⟨w.heap.size, 0, none⟩) n (grownCap w n 0 3)) (w.drew.alloc (.cells (Builtin.zeroCells #[.int .i64 0] n ++ Builtin.zeroCells #[.int .i64 0] (grownCap w n 0 3 - n)) 3)) := fun ty => by
      have h := Lib.run_append_grow_zeros (P := Tryz.prog) w 22 3 ty 3 i (.int .i64 0) .i64 .i64 Tryz.underlying22 Tryz.underlying3 hi hz0 none 0 0 [] (run_firstCells_none w.drew i.size 0 0 0) n (by omega) (by omega) (by omega) (by omega) (by rw [hz2]; omega)
        (growslice_fits (by omega) (by rw [hz2, Nat.zero_add]; exact hn))
      rw [Nat.zero_add] at h
      have e : (.int .i64 0 : Value).cells = #[.int .i64 0] := rfl
      rw [e] at h
      simpa using h
    have hge : n ≤ grownCap w n 0 3 := grownCap_ge w n 0 _
    have hle : grownCap w n 0 3 ≤ 9223372036854775807 := grownCap_big w n _ (by omega)
    generalize grownCap w n 0 3 = G at *
    have hsz : (Builtin.zeroCells #[.int .i64 0] n ++ Builtin.zeroCells #[.int .i64 0] (G - n)).size = G * 1 := by
      rw [Array.size_append, size_zeroCells, size_zeroCells]; simp; omega
    have hown : (w.drew.alloc (.cells (Builtin.zeroCells #[.int .i64 0] n ++ Builtin.zeroCells #[.int .i64 0] (G - n)) 3)).ownsRow w.heap.size 3 1 (.slice (some ⟨w.heap.size, 0, none⟩) 0 G) 0 [] :=
      World.ownsRow_made w.drew _ G (Nat.le_refl _) (by unfold maxLen; omega) hsz
    have hb : Below w.heap.size w (w.drew.alloc (.cells (Builtin.zeroCells #[.int .i64 0] n ++ Builtin.zeroCells #[.int .i64 0] (G - n)) 3)) := (Below.refl _ _).drew.alloc (Nat.le_refl _) _
    generalize w.drew.alloc (.cells (Builtin.zeroCells #[.int .i64 0] n ++ Builtin.zeroCells #[.int .i64 0] (G - n)) 3) = w1 at *
    have HR := Lib.hid hrun
    have hcap : (0 : Nat) ≤ G := Nat.zero_le _
    clear hrun
    go_enter Tryz.func82, Tryz.ntmps82
    go_wp2_with (at_builtin; refine Lib.wpList_append_run _ rfl _ _ _ _ rfl _ _ rfl rfl _ _ (HR.out _) ?_)
    go_ret
    exact ⟨_, G, rfl, hown, hb⟩

/-- A list of slices, each with its elements. -/
def Parts (w : World) (vs : List Value) (us : List (List Value)) : Prop :=
  vs.length = us.length ∧ ∀ (k : Nat) (v : Value) (u : List Value), vs[k]? = some v → us[k]? = some u → ∃ a c, v = .slice a u.length c ∧ Sl w a u.length c u

theorem Parts.next {w w' : World} {vs : List Value} {us : List (List Value)} (h : Parts w vs us) (hb : Below w.heap.size w w') : Parts w' vs us :=
  ⟨h.1, fun k v u hv hu => by
    obtain ⟨a, c, rfl, hs⟩ := h.2 k v u hv hu
    exact ⟨a, c, rfl, hs.next hb⟩⟩

def tot (us : List (List Value)) : Nat := us.flatten.length

theorem tot_take (us : List (List Value)) (k : Nat) (hk : k < us.length) : tot (us.take (k + 1)) = tot (us.take k) + us[k].length := by
  unfold tot
  rw [List.take_succ_eq_append_getElem hk, List.flatten_append]
  simp

theorem tot_le (us : List (List Value)) (k : Nat) : tot (us.take k) ≤ tot us := by
  unfold tot
  conv => rhs; rw [← List.take_append_drop k us]
  rw [List.flatten_append, List.length_append]; omega

theorem flat_take (us : List (List Value)) (k : Nat) (hk : k < us.length) : (us.take (k + 1)).flatten = (us.take k).flatten ++ us[k] := by
  rw [List.take_succ_eq_append_getElem hk, List.flatten_append]
  simp

set_option maxHeartbeats 2000000 in
theorem concat (w : World) (a : Option Addr) (n c : Nat) (vs : List Value) (us : List (List Value)) (hsl : Sl w a n c vs) (hp : Parts w vs us) (h1 : ∀ u ∈ us, ∀ v ∈ u, v.oneCell' = true) (hn : tot us * 8 ≤ 140737488355328) (hn' : tot us ≤ 4611686018427387904) :
    Calls Tryz.prog 50 #[.slice a n c] w fun e w' => ∃ a' c', e = .returned (.slice a' (tot us) c') ∧ w'.ownsRow w.heap.size 3 1 (.slice a' (tot us) c') (tot us) us.flatten ∧ Below w.heap.size w w' := by
  have hlen : us.length = n := by rw [← hp.1, hsl.len]
  have HLEN := Lib.hid hlen
  have hcap := hsl.cap
  have hbig := hsl.big
  have HP := Lib.hid hp
  have H1 := Lib.hid h1
  have HN := Lib.hid hn
  have HN' := Lib.hid hn'
  clear hp h1 hn hn' hlen
  go_enter Tryz.func50, Tryz.ntmps50
  go_wp2_with fail
  go_loop [3, 11] (fun z i => ∃ k : Nat, k ≤ n ∧ i = .int .i64 k ∧ z = .int .i64 (tot (us.take k))) (fun _ i => n - (intOf i).toNat)
  case atStart => exact ⟨0, Nat.zero_le _, rfl, rfl⟩
  case round =>
    obtain ⟨k, hk, rfl, rfl⟩ := hrel
    by_cases hlt : k < n
    · obtain ⟨b, o, v, rfl, hbs, hv, hc⟩ := hsl.at hlt
      have hku : k < us.length := by rw [HLEN.out]; exact hlt
      obtain ⟨a', c', rfl, hs⟩ := HP.out.2 k v us[k] hv (List.getElem?_eq_getElem hku)
      have HT := Lib.hid (tot_take us k hku)
      have t1 : tot (us.take k) + us[k].length ≤ 4611686018427387904 := by
        have h1 := HT.out; have h2 := tot_le us (k + 1); have h3 := HN'.out; omega
      have HV := Lib.hid hv
      clear hv hs
      generalize us[k].length = m at *
      generalize tot (us.take k) = t at *
      go_wp2_with fail
      go_round
      case rel => exact ⟨k + 1, by omega, by go_num, by rw [HT.out]; go_num⟩
      case measure => simp [intOf]; omega
    · have e : us.take k = us := List.take_of_length_le (by rw [HLEN.out]; omega)
      rw [e]
      clear e
      have HG := Lib.hid (grow w (tot us) HN.out HN'.out)
      generalize hT : tot us = T at *
      have HTT := Lib.hid hT
      clear hT
      go_wp2_with fail
      refine HG.out.mono ?_
      rintro e w1 ⟨a1, c1, rfl, hown1, hb1⟩
      have hsl1 := hsl.next hb1
      have HP1 := Lib.hid (HP.out.next hb1)
      go_wp2_with fail
      go_loopw [6, 27] (fun s i wr => ∃ (k : Nat) (t : Nat), k ≤ n ∧ i = .int .i64 k ∧ Hid (t = tot (us.take k)) ∧ (∃ a' c', s = .slice a' t c' ∧ wr.ownsRow w.heap.size 3 1 (.slice a' t c') t (us.take k).flatten) ∧ Below w.heap.size w wr) (fun _ i _ => n - (intOf i).toNat)
      case atStart => exact ⟨0, 0, Nat.zero_le _, rfl, rfl, ⟨a1, c1, rfl, hown1⟩, hb1⟩
      case round =>
        obtain ⟨k, t, hk, rfl, ht, ⟨a2, c2, rfl, hown2⟩, hbr⟩ := hrel
        by_cases hlt : k < n
        · obtain ⟨b, o, v, rfl, hbs, hv, hc⟩ := hsl.at hlt
          have hku : k < us.length := by rw [HLEN.out]; exact hlt
          obtain ⟨a', c', rfl, hs⟩ := HP.out.2 k v us[k] hv (List.getElem?_eq_getElem hku)
          have hsr := hs.next hbr
          have hcr : wr.cell? ⟨b, o + k, none⟩ = some (.slice a' us[k].length c') := (hbr.cell (p := ⟨b, o + k, none⟩) hbs).trans hc
          have HT := Lib.hid (tot_take us k hku)
          have HF := Lib.hid (flat_take us k hku)
          have t1 : t + us[k].length ≤ T := by
            have h1 := HT.out; have h2 := tot_le us (k + 1); have h3 := HTT.out; have h4 := ht.out; omega
          have t2 : (t + us[k].length) * 8 ≤ 140737488355328 := by have := HN.out; omega
          have t3 : T ≤ 4611686018427387904 := HN'.out
          have HU := Lib.hid (H1.out _ (List.getElem_mem hku))
          have hbase := hbr.size
          clear hv hc hs
          generalize us[k] = u at *
          generalize hm : u.length = m at *
          have HM := Lib.hid hm
          clear hm
          go_wp2_with ((with_reducible refine wpL_app (B := w.heap.size) (W := w) _ t (us.take k).flatten _ m c' u info Tryz.underlying22 ?_ ?_ ?_ HU.out hown2 hsr ?_ ?_ ?_ hbr ?_); rfl; rfl; rfl; exact hbase; omega; omega; (intro a3 c3 w3 hown3 hb3 _))
          go_roundw
          case rel => exact ⟨k + 1, t + m, by omega, by go_num, by show _ = _; rw [HT.out, ht.out], ⟨a3, c3, by go_num, by rw [HF.out]; exact hown3⟩, hb3⟩
          case measure => simp [intOf]; omega
        · have e : us.take k = us := List.take_of_length_le (by rw [HLEN.out]; omega)
          have hT2 : t = T := by have h1 := ht.out; rw [e] at h1; rw [h1, HTT.out]
          rw [e] at hown2
          subst hT2
          go_wp2_with fail
          go_ret
          rw [HTT.out]
          exact ⟨a2, c2, rfl, hown2, hbr⟩
end ConcatI
end Go.Proofs.YtninglnchengeaaGreat

/-
  coi.counted: what counts, as a map of its own.
-/
namespace Go.Proofs.YtninglnchengeaaGreat
open Go.RowKit Base Go.Maps
set_option linter.unusedVariables false
set_option linter.unusedSimpArgs false
namespace Coi
open Circuit StrashP

theorem offb_cbox {b N : Nat} {w w2 : World} {x : Circ} {p : At} (h : OffB b w w2) (hc : CBox N x p w) (hne : N ≠ b) : CBox N x p w2 := by
  have hb := h.block N hc.lt hne
  have e : ∀ j, w2.cell? ⟨N, j, none⟩ = w.cell? ⟨N, j, none⟩ := fun j => World.cell?_of_block (w := w) (a := ⟨N, j, none⟩) hb
  exact ⟨Nat.lt_of_lt_of_le hc.lt h.size, (e 0).trans hc.k0, (e 1).trans hc.k1, (e 2).trans hc.k2, (e 3).trans hc.k3, (e 4).trans hc.k4, (e 5).trans hc.k5, (e 6).trans hc.k6, (e 7).trans hc.k7⟩

/-- A row of slices, each a list of integers. -/
def RowsP (w : World) (vs : List Value) (xss : List (List Int)) : Prop := vs.length = xss.length ∧ ∀ (k : Nat) (v : Value) (xs : List Int), vs[k]? = some v → xss[k]? = some xs → ∃ a c, v = .slice a xs.length c ∧ Sl w a xs.length c (ints xs)
theorem RowsP.next {w w' : World} {vs : List Value} {xss : List (List Int)} (h : RowsP w vs xss) (hb : Below w.heap.size w w') : RowsP w' vs xss :=
  ⟨h.1, fun k v xs hv hx => by
    obtain ⟨a, c, e, hs⟩ := h.2 k v xs hv hx
    exact ⟨a, c, e, hs.next hb⟩⟩
theorem RowsP.of {w : World} {a : Option Addr} {n c : Nat} {vs : List Value} {xss : List (List Int)} (h : Sl2 w a n c vs xss) : RowsP w vs xss :=
  ⟨by rw [h.sl.len, h.len], fun k v xs hv hx => by
    obtain ⟨a, c, e, hs⟩ := h.row k v xs hv hx
    exact ⟨a, c, e, hs⟩⟩
theorem RowsP.app {w : World} {vs us : List Value} {xss yss : List (List Int)} (h : RowsP w vs xss) (h2 : RowsP w us yss) : RowsP w (vs ++ us) (xss ++ yss) := by
  refine ⟨by rw [List.length_append, List.length_append, h.1, h2.1], fun k v xs hv hx => ?_⟩
  by_cases hk : k < vs.length
  · rw [List.getElem?_append_left hk] at hv
    rw [List.getElem?_append_left (by rw [← h.1]; exact hk)] at hx
    exact h.2 k v xs hv hx
  · rw [List.getElem?_append_right (by omega)] at hv
    rw [List.getElem?_append_right (by rw [← h.1]; omega), ← h.1] at hx
    exact h2.2 _ v xs hv hx
theorem RowsP.two {w : World} {a1 a2 : Option Addr} {c1 c2 : Nat} {l1 l2 : List Int} (h1 : Sl w a1 l1.length c1 (ints l1)) (h2 : Sl w a2 l2.length c2 (ints l2)) : RowsP w [.slice a1 l1.length c1, .slice a2 l2.length c2] [l1, l2] := by
  refine ⟨rfl, fun k v xs hv hx => ?_⟩
  match k, hv, hx with
  | 0, hv, hx => simp at hv hx; subst hv; subst hx; exact ⟨_, _, rfl, h1⟩
  | 1, hv, hx => simp at hv hx; subst hv; subst hx; exact ⟨_, _, rfl, h2⟩
  | k + 2, hv, hx => simp at hv
theorem ints_flat (xss : List (List Int)) : (xss.map ints).flatten = ints xss.flatten := by
  induction xss with
  | nil => rfl
  | cons x r ih => rw [List.map_cons, List.flatten_cons, ih, List.flatten_cons]; unfold ints; rw [List.map_append]
theorem concat_any (w : World) (a : Option Addr) (n c : Nat) (vs : List Value) (xss : List (List Int)) (hsl : Sl w a n c vs) (hp : RowsP w vs xss) (hn : xss.flatten.length * 8 ≤ 140737488355328) :
    Calls Tryz.prog 50 #[.slice a n c] w fun e w' => ∃ a' c', e = .returned (.slice a' xss.flatten.length c') ∧ Sl w' a' xss.flatten.length c' (ints xss.flatten) ∧ Below w.heap.size w w' := by
  have ht : ConcatI.tot (xss.map ints) = xss.flatten.length := by unfold ConcatI.tot; rw [ints_flat, ints_len]
  have h := ConcatI.concat w a n c vs (xss.map ints) hsl ⟨by rw [List.length_map]; exact hp.1, fun k v u hv hu => by
    rw [List.getElem?_map, Option.map_eq_some_iff] at hu
    obtain ⟨xs, hx, rfl⟩ := hu
    obtain ⟨a', c', e, hs⟩ := hp.2 k v xs hv hx
    rw [ints_len]
    exact ⟨a', c', e, hs⟩⟩ (fun u hu v hv => by
      obtain ⟨xs, _, rfl⟩ := List.mem_map.1 hu
      exact Base.ints_one xs v hv) (by rw [ht]; exact hn) (by rw [ht]; omega)
  rw [ht, ints_flat] at h
  refine h.mono ?_
  rintro e w' ⟨a', c', he, ho, hb⟩
  exact ⟨a', c', he, own_sl' ho, hb⟩
theorem info_rows : (Tryz.prog.info? 22).map (fun i => (i.zero, i.size, i.bytes)) = some (some (.slice none 0 0), 1, 24) := by kernel_rfl

theorem row_one {w : World} {a : Option Addr} {n c : Nat} {vs : List Value} {xss : List (List Int)} (h : Sl2 w a n c vs xss) : ∀ u ∈ vs, u.oneCell' = true := by
  intro u hu
  obtain ⟨i, hi, rfl⟩ := List.mem_iff_getElem.1 hu
  have hl : i < xss.length := by have := h.len; have := h.sl.len; omega
  obtain ⟨a', c', e, _⟩ := h.row i _ _ (List.getElem?_eq_getElem hi) (List.getElem?_eq_getElem hl)
  rw [e]; rfl
theorem flat_l (A : List (List Int)) (v : List Int) (b : Int) : (A ++ [v, [b]]).flatten = A.flatten ++ v ++ [b] := by simp
theorem c8of {N : Nat} {x : Circ} {p : At} {w' : World} (h : CBox N x p w') : w'.cell? ⟨N, 0, none⟩ = some (.int .i64 x.max) ∧ w'.cell? ⟨N, 1, none⟩ = some (.slice p.a1 x.ins.length p.c1) ∧ w'.cell? ⟨N, 2, none⟩ = some (.slice p.a2 x.lats.length p.c2) ∧ w'.cell? ⟨N, 3, none⟩ = some (.slice p.a3 x.outs.length p.c3) ∧ w'.cell? ⟨N, 4, none⟩ = some (.slice p.a4 x.bads.length p.c4) ∧ w'.cell? ⟨N, 5, none⟩ = some (.slice p.a5 x.invs.length p.c5) ∧ w'.cell? ⟨N, 6, none⟩ = some (.slice p.a6 x.ands.length p.c6) ∧ w'.cell? ⟨N, 7, none⟩ = some (.slice p.a7 x.names.length p.c7) := ⟨h.k0, h.k1, h.k2, h.k3, h.k4, h.k5, h.k6, h.k7⟩
theorem sl_block {w : World} {g n : Nat} {cs : Array Value} {e : TypeId} (h : w.heap[g]? = some (.cells cs e (0, 0))) (hn : cs.size = n) (hm : n ≤ 9223372036854775807) : Sl w (some ⟨g, 0, none⟩) n n cs.toList :=
  ⟨by simpa using hn, Nat.le_refl _, hm, fun e => (by cases e), fun k x hx => ⟨g, 0, rfl, (Array.getElem?_eq_some_iff.1 h).1, by
    rw [cell_of_row _ g (0 + k) _ e _ h, Nat.zero_add]
    simpa using hx⟩⟩

/-- append of two rows to a row of rows: all that it is then. -/
theorem app_all (ty : TypeId) (V : World) (B : Nat) (hB : B ≤ V.heap.size) (aK : Option Addr) (cK n : Nat) (vals : List Value) (A : List (List Int)) (hown : V.ownsRow B 22 1 (.slice aK n cK) n vals) (a5 : Option Addr) (c5 : Nat) (invs : List Int)
    (hold : ∀ U, Below B V U → RowsP U vals A ∧ Sl U a5 invs.length c5 (ints invs)) (g1 : Nat) (bl : Int) (hg1 : V.heap[g1]? = some (.cells #[.int .i64 bl] 3)) (hn1 : (Value.slice aK n cK).ownBlock ≠ some g1) (g2 : Nat)
    (hg2 : V.heap[g2]? = some (.cells #[.slice a5 invs.length c5, .slice (some ⟨g1, 0, none⟩) 1 1] 22)) (hn2 : (Value.slice aK n cK).ownBlock ≠ some g2) (hn : (n + 2) * 24 ≤ 140737488355328) :
    ∃ a' c' w1, (Builtin.append_ #[28, 28] ty #[.slice aK n cK, .slice (some ⟨g2, 0, none⟩) 2 2]).run Tryz.prog V = .ok (.slice a' (n + 2) c') w1 ∧ Sl w1 a' (n + 2) c' (vals ++ [.slice a5 invs.length c5, .slice (some ⟨g1, 0, none⟩) 1 1]) ∧
      RowsP w1 (vals ++ [.slice a5 invs.length c5, .slice (some ⟨g1, 0, none⟩) 1 1]) (A ++ [invs, [bl]]) ∧ Below B V w1 := by
  have hsl : Sl V (some ⟨g2, 0, none⟩) 2 2 [.slice a5 invs.length c5, .slice (some ⟨g1, 0, none⟩) 1 1] := sl_block hg2 rfl (by decide)
  obtain ⟨a', c', w1, hr, ho, hg⟩ := App2.runV (P := Tryz.prog) ty (k := 1) (by decide) info_rows Tryz.underlying28 rfl V B hB (.slice aK n cK) n (vals.map fun v => [v]) (by rw [App2.flat1]; exact hown) (some ⟨g2, 0, none⟩) 2 2 ([.slice a5 invs.length c5, .slice (some ⟨g1, 0, none⟩) 1 1].map fun v => [v]) (App2.sl_t1 hsl) (by intro r hr; obtain ⟨v, _, rfl⟩ := List.mem_map.1 hr; rfl)
    (by rw [App2.flat1]; intro u hu; simp only [List.mem_cons, List.not_mem_nil, or_false] at hu; rcases hu with rfl | rfl <;> rfl) hn (by omega)
  rw [← List.map_append, App2.flat1] at ho
  have hb : Below B V w1 := (Below.refl B V).grown hg hB fun q hq => (hown.lt q hq).1
  have hone : Sl w1 (some ⟨g1, 0, none⟩) [bl].length 1 (ints [bl]) := sl_block (cs := #[.int .i64 bl]) (e := 3) ((hg.block g1 (Array.getElem?_eq_some_iff.1 hg1).1 (fun e => hn1 e.symm)).trans hg1) rfl (by simp)
  exact ⟨a', c', w1, hr, own_sl' ho, (hold w1 hb).1.app (RowsP.two (hold w1 hb).2 hone), hb⟩

theorem concat_l (w : World) (a : Option Addr) (n c : Nat) (vs : List Value) (A : List (List Int)) (invs : List Int) (bl : Int) (l : List Int) (hl : A.flatten ++ invs ++ [bl] = l) (hsl : Sl w a n c vs) (hp : RowsP w vs (A ++ [invs, [bl]])) (hn : l.length * 8 ≤ 140737488355328) :
    Calls Tryz.prog 50 #[.slice a n c] w fun e w' => ∃ v, e = .returned v ∧ ∃ a' c', v = .slice a' l.length c' ∧ Sl w' a' l.length c' (ints l) ∧ Below w.heap.size w w' := by
  have h := concat_any w a n c vs _ hsl hp (by rw [flat_l, hl]; exact hn)
  rw [flat_l, hl] at h
  exact h.mono fun e w' ⟨a', c', he, hs, hb⟩ => ⟨_, he, a', c', rfl, hs, hb⟩

theorem start_any (w : World) (x : Circ) (p : At) (hin : InCirc w x p) (hwa : WfT x.ands) {b : Nat} (hset : SetK w b 0 []) (a : Option Addr) (c : Nat) (l : List Int) (hsl : Sl w a l.length c (ints l)) (hl : ∀ y ∈ l, Circuit.I64 y)
    (hsz : (2 * l.length + 2 * x.ands.length + 2) * 8 ≤ 140737488355328) :
    Calls Tryz.prog 49 #[.map (some b), .agg (cells x p), .slice a l.length c] w fun e w' => ∃ v, e = .returned v ∧ ∃ X : List Int, SetK w' b X.length X ∧ CInv x l X ∧ OffB b w w' :=
  (add_any w x p hin hwa (X := []) hset List.nodup_nil a c l hsl hl hsz (by simp)).mono fun e w' ⟨X2, he, h1, h2, _, h3⟩ => ⟨_, he, X2, h1, cinv_start h2, h3⟩

/-- What counted leaves. -/
def CntOut (w : World) (x : Circ) (l : List Int) (e : Ending) (w' : World) : Prop :=
  ∃ b X, e = .returned (.map (some b)) ∧ w.heap.size ≤ b ∧ SetK w' b X.length X ∧ X.Nodup ∧ (∀ v, v ∈ X ↔ v ≠ 0 ∧ NR x l v) ∧ Below w.heap.size w w'

set_option maxRecDepth 8000 in
set_option maxHeartbeats 8000000 in
theorem counted_any (w : World) (x : Circ) (p : At) (hin : InCirc w x p) (hw : WfC x) (aA : Option Addr) (n cA : Nat) (vals : List Value) (A : List (List Int)) (hA : Sl2 w aA n cA vals A) (hA64 : ∀ y ∈ A.flatten, Circuit.I64 y) (k : Nat) (hk : k < x.bads.length)
    (hz1 : n ≤ 4000000) (hz2 : A.flatten.length ≤ 4000000) (hz3 : x.ands.length ≤ 4000000) (hz4 : x.invs.length ≤ 4000000) (hz5 : x.lats.length ≤ 4000000) :
    Calls Tryz.prog 20 #[.agg (cells x p), .slice aA n cA, .int .i64 k] w (CntOut w x (A.flatten ++ x.invs ++ [x.bads[k]]) ) := by
  obtain ⟨W1, hW1⟩ : ∃ W1, w.alloc (.cells (cells x p) 27) = W1 := ⟨_, rfl⟩
  obtain ⟨hb1, hc1⟩ := cbox_new w x p W1 hW1
  obtain ⟨W2, hW2⟩ : ∃ W2, W1.alloc (.map #[] 0) = W2 := ⟨_, rfl⟩
  have hb2 : Below W1.heap.size W1 W2 := by rw [← hW2]; exact (Below.refl _ _).alloc (Nat.le_refl _) _
  have hset : SetK W2 W1.heap.size 0 [] := by rw [← hW2]; exact made W1
  have hc2 := hc1.next hb2 (Nat.le_refl _)
  have hb12 : Below w.heap.size w W2 := hb1.trans (hb2.mono hb1.size)
  have hlt1 : w.heap.size < W1.heap.size := hc1.lt
  have HB12 := Lib.hid hb12
  have HC2 := Lib.hid hc2
  have HLT1 := Lib.hid hlt1
  have HSET := Lib.hid hset
  have HIN := Lib.hid (fun (U : World) (hU : Below w.heap.size w U) => hin.next hU)
  have HA := Lib.hid (fun (U : World) (hU : Below w.heap.size w U) => hA.next hU)
  have HOFB := Lib.hid (fun (U : World) (hU : OffB W1.heap.size W2 U) => hU.base hb12 (by have := hb12.size; omega) (Nat.le_of_lt hlt1))
  have HW := Lib.hid hw
  have HZ := Lib.hid (And.intro hz1 (And.intro hz2 (And.intro hz3 (And.intro hz4 hz5))))
  have HA64 := Lib.hid hA64
  have hbsl := hin.bads
  obtain ⟨gb, ob, hxb, hab, hgb, hcb⟩ := hbsl.int hk
  have hcapb := hbsl.cap
  have hbigb := hbsl.big
  have hLI : ∀ y ∈ A.flatten ++ x.invs ++ [x.bads[k]], Circuit.I64 y := by
    intro y hy
    rw [List.mem_append, List.mem_append, List.mem_singleton] at hy
    rcases hy with (hy | hy) | rfl
    · exact hA64 y hy
    · exact hw.invs y hy
    · exact hw.bads _ (List.getElem_mem _)
  generalize hbl : x.bads[k] = bl at *
  have HLI := Lib.hid hLI
  obtain ⟨l, hl⟩ : ∃ l, A.flatten ++ x.invs ++ [bl] = l := ⟨_, rfl⟩
  rw [hl]
  have HL := Lib.hid hl
  rw [hl] at HLI
  have HAD0 := fun (U : World) (hU : Below W2.heap.size W2 U) (aL : Option Addr) (cL : Nat) (hsL : Sl U aL l.length cL (ints l)) => start_any U x p ((hin.next hb12).next hU) hw.ands (hset.next hU) aL cL l hsL HLI.out (by have := HZ.out; have := congrArg List.length hl; simp only [List.length_append, List.length_singleton] at this; omega)
  have HAD1 := fun (U : World) (hU : Below w.heap.size w U) (X : List Int) (hX : SetK U W1.heap.size X.length X) (hnd : X.Nodup) (hXl : X.length ≤ 1099511627776000) (aL : Option Addr) (cL : Nat) (u : Int) (hu : Circuit.I64 u) (hsL : Sl U aL 1 cL (ints [u])) => add_any U x p (hin.next hU) hw.ands hX hnd aL cL [u] hsL (fun y hy => by rw [List.mem_singleton.1 hy]; exact hu) (by have := HZ.out; simp only [List.length_singleton]; omega) hXl
  have HCEL := Lib.hid (fun (U : World) (hU : Below w.heap.size w U) => (hU.cell (p := ⟨gb, ob + k, none⟩) hgb).trans hcb)
  obtain ⟨a1, c1, a2, c2, a3, c3, a4, c4, a5, c5, a6, c6, a7, c7⟩ := p
  simp only [cells] at *
  subst hab
  have HADD := Lib.hid HAD0
  simp only [List.length_singleton] at HAD1
  have HADX := Lib.hid HAD1
  clear HAD0 HAD1
  have hmm := @run_makeMap Tryz.prog
  have q0 := hc1.k0
  clear hin hw hA hA64 hz1 hz2 hz3 hz4 hz5 hb1 hb2 hset hc2 hb12 hbsl hxb hcb hLI hl hc1 q0 hbl
  go_enter Tryz.func20, Tryz.ntmps20
  go_upto_region 2 with fail
  clear hW1 hW2 hmm
  go_cut [] from 12 to 28 (fun wx => ∃ X : List Int, Hid (SetK wx W1.heap.size X.length X) ∧ Hid (CInv x l X) ∧ Hid (OffB W1.heap.size W2 wx))
  case first =>
    as_aux_lemma =>
      have hn := HZ.out
      have hB0 : Below W2.heap.size W2 W2.drew := (Below.refl _ _).drew
      have hSK : ∀ V : World, OffB W1.heap.size W2 V → (V.cell? ⟨w.heap.size, 0, none⟩ = some (.int .i64 x.max) ∧ V.cell? ⟨w.heap.size, 1, none⟩ = some (.slice a1 x.ins.length c1) ∧ V.cell? ⟨w.heap.size, 2, none⟩ = some (.slice a2 x.lats.length c2) ∧ V.cell? ⟨w.heap.size, 3, none⟩ = some (.slice a3 x.outs.length c3) ∧ V.cell? ⟨w.heap.size, 4, none⟩ = some (.slice (some ⟨gb, ob, none⟩) x.bads.length c4) ∧ V.cell? ⟨w.heap.size, 5, none⟩ = some (.slice a5 x.invs.length c5) ∧ V.cell? ⟨w.heap.size, 6, none⟩ = some (.slice a6 x.ands.length c6) ∧ V.cell? ⟨w.heap.size, 7, none⟩ = some (.slice a7 x.names.length c7)) ∧ V.cell? ⟨gb, ob + k, none⟩ = some (.int .i64 bl) := fun V hV => ⟨c8of (offb_cbox hV HC2.out (by have := HLT1.out; omega)), HCEL.out V (HOFB.out V hV)⟩
      have hBS : ∀ V : World, Below W2.heap.size W2 V → OffB W1.heap.size W2 V := fun V hV => (OffB.refl _ _).below hV
      have hS0 := hSK _ (hBS _ hB0)
      have hkl : (k : Int) < (x.bads.length : Int) := by omega
      refine HeldAll.region (fun U : World => (U.cell? ⟨w.heap.size, 0, none⟩ = some (.int .i64 x.max) ∧ U.cell? ⟨w.heap.size, 1, none⟩ = some (.slice a1 x.ins.length c1) ∧ U.cell? ⟨w.heap.size, 2, none⟩ = some (.slice a2 x.lats.length c2) ∧ U.cell? ⟨w.heap.size, 3, none⟩ = some (.slice a3 x.outs.length c3) ∧ U.cell? ⟨w.heap.size, 4, none⟩ = some (.slice (some ⟨gb, ob, none⟩) x.bads.length c4) ∧ U.cell? ⟨w.heap.size, 5, none⟩ = some (.slice a5 x.invs.length c5) ∧ U.cell? ⟨w.heap.size, 6, none⟩ = some (.slice a6 x.ands.length c6) ∧ U.cell? ⟨w.heap.size, 7, none⟩ = some (.slice a7 x.names.length c7)) ∧ U.cell? ⟨gb, ob + k, none⟩ = some (.int .i64 bl)) (by kernel_rfl) ?_
      (refine HeldAll.take (i := 0) (oi := _) (d := some 12) (v := ?_) rfl rfl (by kernel_rfl) (by kernel_rfl) (by kernel_rfl) (fun _ _ _ h => h) (Or.inl ⟨by rfl, ?_⟩) hS0 ?_; rotate_left; (focus (intro w hSw; clear hSw; go_simp; (try with_reducible rfl); done)); (try simp only [Act.put, List.setIfInBounds_toArray, List.set_cons_zero, List.set_cons_succ]))
      (refine HeldAll.take (i := 1) (oi := _) (d := some 13) (v := ?_) rfl rfl (by kernel_rfl) (by kernel_rfl) (by kernel_rfl) (fun _ _ _ h => h) (Or.inl ⟨by rfl, ?_⟩) hS0 ?_; rotate_left; (focus (intro w hSw; (try dsimp only at hSw); go_simp; (try with_reducible rfl); done)); (try simp only [Act.put, List.setIfInBounds_toArray, List.set_cons_zero, List.set_cons_succ]))
      (refine HeldAll.take (i := 2) (oi := _) (d := some 14) (v := ?_) rfl rfl (by kernel_rfl) (by kernel_rfl) (by kernel_rfl) (fun _ _ _ h => h) (Or.inl ⟨by rfl, ?_⟩) hS0 ?_; rotate_left; (focus (intro w hSw; clear hSw; go_simp; (try with_reducible rfl); done)); (try simp only [Act.put, List.setIfInBounds_toArray, List.set_cons_zero, List.set_cons_succ]))
      (refine HeldAll.take (i := 4) (oi := _) (d := some 16) (v := ?_) rfl rfl (by kernel_rfl) (by kernel_rfl) (by kernel_rfl) (fun _ _ _ h => h) (Or.inl ⟨by rfl, ?_⟩) hS0 ?_; rotate_left; (focus (intro w hSw; clear hSw; go_simp; (try with_reducible rfl); done)); (try simp only [Act.put, List.setIfInBounds_toArray, List.set_cons_zero, List.set_cons_succ]))
      (refine HeldAll.take (i := 5) (oi := _) (d := some 17) (v := ?_) rfl rfl (by kernel_rfl) (by kernel_rfl) (by kernel_rfl) (fun _ _ _ h => h) (Or.inl ⟨by rfl, ?_⟩) hS0 ?_; rotate_left; (focus (intro w hSw; (try dsimp only at hSw); go_simp; (try with_reducible rfl); done)); (try simp only [Act.put, List.setIfInBounds_toArray, List.set_cons_zero, List.set_cons_succ]))
      (refine HeldAll.take (i := 6) (oi := _) (d := some 18) (v := ?_) rfl rfl (by kernel_rfl) (by kernel_rfl) (by kernel_rfl) (fun _ _ _ h => h) (Or.inl ⟨by rfl, ?_⟩) hS0 ?_; rotate_left; (focus (intro w hSw; clear hSw; go_simp; (try with_reducible rfl); done)); (try simp only [Act.put, List.setIfInBounds_toArray, List.set_cons_zero, List.set_cons_succ]))
      (refine HeldAll.take (i := 7) (oi := _) (d := some 19) (v := ?_) rfl rfl (by kernel_rfl) (by kernel_rfl) (by kernel_rfl) (fun _ _ _ h => h) (Or.inl ⟨by rfl, ?_⟩) hS0 ?_; rotate_left; (focus (intro w hSw; (try dsimp only at hSw); go_simp; (try with_reducible rfl); done)); (try simp only [Act.put, List.setIfInBounds_toArray, List.set_cons_zero, List.set_cons_succ]))
      (refine HeldAll.take (i := 8) (oi := _) (d := some 20) (v := ?_) rfl rfl (by kernel_rfl) (by kernel_rfl) (by kernel_rfl) (fun _ _ _ h => h) (Or.inl ⟨by rfl, ?_⟩) hS0 ?_; rotate_left; (focus (intro w hSw; clear hSw; go_simp; (try with_reducible rfl); done)); (try simp only [Act.put, List.setIfInBounds_toArray, List.set_cons_zero, List.set_cons_succ]))
      (refine HeldAll.take (i := 9) (oi := _) (d := some 21) (v := ?_) rfl rfl (by kernel_rfl) (by kernel_rfl) (by kernel_rfl) (fun _ _ _ h => h) (Or.inl ⟨by rfl, ?_⟩) hS0 ?_; rotate_left; (focus (intro w hSw; clear hSw; go_simp; (try with_reducible rfl); done)); (try simp only [Act.put, List.setIfInBounds_toArray, List.set_cons_zero, List.set_cons_succ]))
      (refine HeldAll.take (i := 10) (oi := _) (d := some 22) (v := ?_) rfl rfl (by kernel_rfl) (by kernel_rfl) (by kernel_rfl) (fun _ _ _ h => h) (Or.inl ⟨by rfl, ?_⟩) hS0 ?_; rotate_left; (focus (intro w hSw; (try dsimp only at hSw); go_simp; (try with_reducible rfl); done)); (try simp only [Act.put, List.setIfInBounds_toArray, List.set_cons_zero, List.set_cons_succ]))
      refine HeldAll.two (i := 3) (j := 11) (by kernel_rfl) ?_ ?_
      · skip
        refine HeldAll.opCall (i := 3) (oi := _) (d := some 15) (R := fun v w' => ∃ a' c', v = .slice a' n c' ∧ w'.ownsRow (W2.drew).heap.size 22 1 (.slice a' n c') n vals ∧ Below (W2.drew).heap.size (W2.drew) w') rfl rfl (by rfl) (by go_simp; done) ((CloneR.clone (W2.drew) aA n cA vals (HA.out _ (HOFB.out _ (hBS _ hB0))).sl (row_one (HA.out _ (HOFB.out _ (hBS _ hB0)))) (by omega)).mono fun e w' h => by obtain ⟨a', c', he, ho, hb⟩ := h; exact ⟨_, he, a', c', rfl, ho, hb⟩) ?_
        rintro v u1 ⟨aK, cK, rfl, hoK, hbK⟩
        have hC : Below W2.heap.size W2 u1 := hB0.trans (hbK.mono hB0.size)
        refine ⟨hSK _ (hBS _ hC), ?_⟩
        (try simp only [Act.put, List.setIfInBounds_toArray, List.set_cons_zero, List.set_cons_succ])
        have hA1 : Below W2.heap.size W2 (u1.alloc (.cells #[.int .i64 bl] 3)) := hC.alloc hC.size _
        refine HeldAll.one (i := 11) (by kernel_rfl) ?_
        refine HeldAll.opVal (i := 11) (oi := _) (d := some 23) (v := .slice (some ⟨(u1).heap.size, 0, none⟩) 1 1) (w2 := (u1).alloc (.cells #[.int .i64 bl] 3)) rfl rfl (by rfl) (by go_simp; done) (hSK _ (hBS _ hA1)) ?_
        (try simp only [Act.put, List.setIfInBounds_toArray, List.set_cons_zero, List.set_cons_succ])
        refine HeldAll.one (i := 12) (by kernel_rfl) ?_
        refine HeldAll.opVal (i := 12) (oi := _) (d := some 24) (v := .slice (some ⟨(u1.alloc (.cells #[.int .i64 bl] 3)).heap.size, 0, none⟩) 2 2) (w2 := (u1.alloc (.cells #[.int .i64 bl] 3)).alloc (.cells #[.slice a5 x.invs.length c5, .slice (some ⟨u1.heap.size, 0, none⟩) 1 1] 22)) rfl rfl (by rfl) (by go_simp; done) (hSK _ (hBS _ (hA1.alloc hA1.size _))) ?_
        (try simp only [Act.put, List.setIfInBounds_toArray, List.set_cons_zero, List.set_cons_succ])
        obtain ⟨V, hV⟩ : ∃ V, (u1.alloc (.cells #[.int .i64 bl] 3)).alloc (.cells #[.slice a5 x.invs.length c5, .slice (some ⟨u1.heap.size, 0, none⟩) 1 1] 22) = V := ⟨_, rfl⟩
        obtain ⟨g1, hgg1⟩ : ∃ g, u1.heap.size = g := ⟨_, rfl⟩
        obtain ⟨g2, hgg2⟩ : ∃ g, (u1.alloc (.cells #[.int .i64 bl] 3)).heap.size = g := ⟨_, rfl⟩
        have hVV : Below W2.heap.size W2 V := by rw [← hV]; exact (hA1.alloc hA1.size _)
        have hoV : V.ownsRow W2.heap.size 22 1 (.slice aK n cK) n vals := by rw [← hV]; exact (((own_mono hoK hB0.size).alloc _).alloc _)
        have hg1 : V.heap[g1]? = some (.cells #[.int .i64 bl] 3) := by rw [← hV, ← hgg1]; exact ((((Below.refl (u1.alloc (.cells #[.int .i64 bl] 3)).heap.size (u1.alloc (.cells #[.int .i64 bl] 3))).alloc (Nat.le_refl _) (.cells #[.slice a5 x.invs.length c5, .slice (some ⟨u1.heap.size, 0, none⟩) 1 1] 22))).block u1.heap.size (by simp)).trans (heap_alloc_new u1 _)
        have hg2 : V.heap[g2]? = some (.cells #[.slice a5 x.invs.length c5, .slice (some ⟨g1, 0, none⟩) 1 1] 22) := by rw [← hV, ← hgg2, ← hgg1]; exact heap_alloc_new (u1.alloc (.cells #[.int .i64 bl] 3)) _
        have hn1 : (Value.slice aK n cK).ownBlock ≠ some g1 := by rw [← hgg1]; exact own_not hoK (Nat.le_refl _)
        have hn2 : (Value.slice aK n cK).ownBlock ≠ some g2 := by rw [← hgg2]; exact own_not hoK (by simp)
        rw [hV, hgg2, hgg1]
        obtain ⟨a9, c9, u9, r9, hs9, hp9, hb9⟩ := app_all 28 V W2.heap.size hVV.size aK cK n vals A hoV a5 c5 x.invs (fun U' hU' => ⟨RowsP.of (HA.out _ (HOFB.out _ (hBS _ (hVV.trans hU')))), (HIN.out _ (HOFB.out _ (hBS _ (hVV.trans hU')))).invs⟩) g1 bl hg1 hn1 g2 hg2 hn2 (by omega)
        have h9 : Below W2.heap.size W2 u9 := hVV.trans hb9
        refine HeldAll.one (i := 13) (by kernel_rfl) ?_
        refine HeldAll.opVal (i := 13) (oi := _) (d := some 25) (v := .slice a9 (n + 2) c9) (w2 := u9) rfl rfl (by rfl) (App2.exec_append rfl rfl rfl r9) (hSK _ (hBS _ h9)) ?_
        (try simp only [Act.put, List.setIfInBounds_toArray, List.set_cons_zero, List.set_cons_succ])
        refine HeldAll.one (i := 14) (by kernel_rfl) ?_
        refine HeldAll.opCall (i := 14) (oi := _) (d := some 26) (R := fun v w' => ∃ a' c', v = .slice a' l.length c' ∧ Sl w' a' l.length c' (ints l) ∧ Below u9.heap.size u9 w') rfl rfl (by rfl) (by go_simp; done) (concat_l u9 a9 (n + 2) c9 _ A x.invs bl l HL.out hs9 hp9 (by rw [← HL.out]; simp only [List.length_append, List.length_singleton]; omega)) ?_
        rintro v u10 ⟨aL, cL, rfl, hsL, hbL⟩
        have h10 : Below W2.heap.size W2 u10 := h9.trans (hbL.mono h9.size)
        refine ⟨hSK _ (hBS _ h10), ?_⟩
        (try simp only [Act.put, List.setIfInBounds_toArray, List.set_cons_zero, List.set_cons_succ])
        refine HeldAll.one (i := 15) (by kernel_rfl) ?_
        refine HeldAll.opCall (i := 15) (oi := _) (d := some 27) (R := fun v w' => ∃ X : List Int, SetK w' W1.heap.size X.length X ∧ CInv x l X ∧ OffB W1.heap.size u10 w') rfl rfl (by rfl) (by go_simp; done) (HADD.out u10 h10 aL cL hsL) ?_
        rintro v u11 ⟨X, hX1, hX2, hX3⟩
        have o11 : OffB W1.heap.size W2 u11 := (hBS _ h10).trans hX3
        refine ⟨hSK _ o11, ?_⟩
        (try simp only [Act.put, List.setIfInBounds_toArray, List.set_cons_zero, List.set_cons_succ])
        refine HeldAll.done (by kernel_rfl) ?_ _
        (try go_wp2_with fail)
        go_meet
        exact ⟨X, hX1, hX2, o11⟩
      · skip
        have hE1 : Below W2.heap.size W2 (W2.drew.alloc (.cells #[.int .i64 bl] 3)) := hB0.alloc hB0.size _
        refine HeldAll.opVal (i := 11) (oi := _) (d := some 23) (v := .slice (some ⟨(W2.drew).heap.size, 0, none⟩) 1 1) (w2 := (W2.drew).alloc (.cells #[.int .i64 bl] 3)) rfl rfl (by rfl) (by go_simp; done) (hSK _ (hBS _ hE1)) ?_
        (try simp only [Act.put, List.setIfInBounds_toArray, List.set_cons_zero, List.set_cons_succ])
        refine HeldAll.two (i := 3) (j := 12) (by kernel_rfl) ?_ ?_
        · skip
          refine HeldAll.opCall (i := 3) (oi := _) (d := some 15) (R := fun v w' => ∃ a' c', v = .slice a' n c' ∧ w'.ownsRow (W2.drew.alloc (.cells #[.int .i64 bl] 3)).heap.size 22 1 (.slice a' n c') n vals ∧ Below (W2.drew.alloc (.cells #[.int .i64 bl] 3)).heap.size (W2.drew.alloc (.cells #[.int .i64 bl] 3)) w') rfl rfl (by rfl) (by go_simp; done) ((CloneR.clone (W2.drew.alloc (.cells #[.int .i64 bl] 3)) aA n cA vals (HA.out _ (HOFB.out _ (hBS _ hE1))).sl (row_one (HA.out _ (HOFB.out _ (hBS _ hE1)))) (by omega)).mono fun e w' h => by obtain ⟨a', c', he, ho, hb⟩ := h; exact ⟨_, he, a', c', rfl, ho, hb⟩) ?_
          rintro v u1 ⟨aK, cK, rfl, hoK, hbK⟩
          have hC : Below W2.heap.size W2 u1 := hE1.trans (hbK.mono hE1.size)
          refine ⟨hSK _ (hBS _ hC), ?_⟩
          (try simp only [Act.put, List.setIfInBounds_toArray, List.set_cons_zero, List.set_cons_succ])
          refine HeldAll.one (i := 12) (by kernel_rfl) ?_
          refine HeldAll.opVal (i := 12) (oi := _) (d := some 24) (v := .slice (some ⟨(u1).heap.size, 0, none⟩) 2 2) (w2 := (u1).alloc (.cells #[.slice a5 x.invs.length c5, .slice (some ⟨W2.drew.heap.size, 0, none⟩) 1 1] 22)) rfl rfl (by rfl) (by go_simp; done) (hSK _ (hBS _ (hC.alloc hC.size _))) ?_
          (try simp only [Act.put, List.setIfInBounds_toArray, List.set_cons_zero, List.set_cons_succ])
          obtain ⟨V, hV⟩ : ∃ V, u1.alloc (.cells #[.slice a5 x.invs.length c5, .slice (some ⟨W2.drew.heap.size, 0, none⟩) 1 1] 22) = V := ⟨_, rfl⟩
          obtain ⟨g1, hgg1⟩ : ∃ g, W2.drew.heap.size = g := ⟨_, rfl⟩
          obtain ⟨g2, hgg2⟩ : ∃ g, u1.heap.size = g := ⟨_, rfl⟩
          have hVV : Below W2.heap.size W2 V := by rw [← hV]; exact (hC.alloc hC.size _)
          have hoV : V.ownsRow W2.heap.size 22 1 (.slice aK n cK) n vals := by rw [← hV]; exact ((own_mono hoK hE1.size).alloc _)
          have hg1 : V.heap[g1]? = some (.cells #[.int .i64 bl] 3) := by rw [← hV, ← hgg1]; exact ((((Below.refl (u1).heap.size (u1)).alloc (Nat.le_refl _) (.cells #[.slice a5 x.invs.length c5, .slice (some ⟨W2.drew.heap.size, 0, none⟩) 1 1] 22))).block W2.drew.heap.size (Nat.lt_of_lt_of_le (by simp) hbK.size)).trans ((hbK.block W2.drew.heap.size (by simp)).trans (heap_alloc_new W2.drew _))
          have hg2 : V.heap[g2]? = some (.cells #[.slice a5 x.invs.length c5, .slice (some ⟨g1, 0, none⟩) 1 1] 22) := by rw [← hV, ← hgg2, ← hgg1]; exact heap_alloc_new u1 _
          have hn1 : (Value.slice aK n cK).ownBlock ≠ some g1 := by rw [← hgg1]; exact own_not' hoK (by simp)
          have hn2 : (Value.slice aK n cK).ownBlock ≠ some g2 := by rw [← hgg2]; exact own_not hoK (Nat.le_refl _)
          rw [hV, hgg2, hgg1]
          obtain ⟨a9, c9, u9, r9, hs9, hp9, hb9⟩ := app_all 28 V W2.heap.size hVV.size aK cK n vals A hoV a5 c5 x.invs (fun U' hU' => ⟨RowsP.of (HA.out _ (HOFB.out _ (hBS _ (hVV.trans hU')))), (HIN.out _ (HOFB.out _ (hBS _ (hVV.trans hU')))).invs⟩) g1 bl hg1 hn1 g2 hg2 hn2 (by omega)
          have h9 : Below W2.heap.size W2 u9 := hVV.trans hb9
          refine HeldAll.one (i := 13) (by kernel_rfl) ?_
          refine HeldAll.opVal (i := 13) (oi := _) (d := some 25) (v := .slice a9 (n + 2) c9) (w2 := u9) rfl rfl (by rfl) (App2.exec_append rfl rfl rfl r9) (hSK _ (hBS _ h9)) ?_
          (try simp only [Act.put, List.setIfInBounds_toArray, List.set_cons_zero, List.set_cons_succ])
          refine HeldAll.one (i := 14) (by kernel_rfl) ?_
          refine HeldAll.opCall (i := 14) (oi := _) (d := some 26) (R := fun v w' => ∃ a' c', v = .slice a' l.length c' ∧ Sl w' a' l.length c' (ints l) ∧ Below u9.heap.size u9 w') rfl rfl (by rfl) (by go_simp; done) (concat_l u9 a9 (n + 2) c9 _ A x.invs bl l HL.out hs9 hp9 (by rw [← HL.out]; simp only [List.length_append, List.length_singleton]; omega)) ?_
          rintro v u10 ⟨aL, cL, rfl, hsL, hbL⟩
          have h10 : Below W2.heap.size W2 u10 := h9.trans (hbL.mono h9.size)
          refine ⟨hSK _ (hBS _ h10), ?_⟩
          (try simp only [Act.put, List.setIfInBounds_toArray, List.set_cons_zero, List.set_cons_succ])
          refine HeldAll.one (i := 15) (by kernel_rfl) ?_
          refine HeldAll.opCall (i := 15) (oi := _) (d := some 27) (R := fun v w' => ∃ X : List Int, SetK w' W1.heap.size X.length X ∧ CInv x l X ∧ OffB W1.heap.size u10 w') rfl rfl (by rfl) (by go_simp; done) (HADD.out u10 h10 aL cL hsL) ?_
          rintro v u11 ⟨X, hX1, hX2, hX3⟩
          have o11 : OffB W1.heap.size W2 u11 := (hBS _ h10).trans hX3
          refine ⟨hSK _ o11, ?_⟩
          (try simp only [Act.put, List.setIfInBounds_toArray, List.set_cons_zero, List.set_cons_succ])
          refine HeldAll.done (by kernel_rfl) ?_ _
          (try go_wp2_with fail)
          go_meet
          exact ⟨X, hX1, hX2, o11⟩
        · skip
          refine HeldAll.opVal (i := 12) (oi := _) (d := some 24) (v := .slice (some ⟨(W2.drew.alloc (.cells #[.int .i64 bl] 3)).heap.size, 0, none⟩) 2 2) (w2 := (W2.drew.alloc (.cells #[.int .i64 bl] 3)).alloc (.cells #[.slice a5 x.invs.length c5, .slice (some ⟨W2.drew.heap.size, 0, none⟩) 1 1] 22)) rfl rfl (by rfl) (by go_simp; done) (hSK _ (hBS _ (hE1.alloc hE1.size _))) ?_
          (try simp only [Act.put, List.setIfInBounds_toArray, List.set_cons_zero, List.set_cons_succ])
          have hE2 : Below W2.heap.size W2 ((W2.drew.alloc (.cells #[.int .i64 bl] 3)).alloc (.cells #[.slice a5 x.invs.length c5, .slice (some ⟨W2.drew.heap.size, 0, none⟩) 1 1] 22)) := hE1.alloc hE1.size _
          refine HeldAll.one (i := 3) (by kernel_rfl) ?_
          refine HeldAll.opCall (i := 3) (oi := _) (d := some 15) (R := fun v w' => ∃ a' c', v = .slice a' n c' ∧ w'.ownsRow ((W2.drew.alloc (.cells #[.int .i64 bl] 3)).alloc (.cells #[.slice a5 x.invs.length c5, .slice (some ⟨W2.drew.heap.size, 0, none⟩) 1 1] 22)).heap.size 22 1 (.slice a' n c') n vals ∧ Below ((W2.drew.alloc (.cells #[.int .i64 bl] 3)).alloc (.cells #[.slice a5 x.invs.length c5, .slice (some ⟨W2.drew.heap.size, 0, none⟩) 1 1] 22)).heap.size ((W2.drew.alloc (.cells #[.int .i64 bl] 3)).alloc (.cells #[.slice a5 x.invs.length c5, .slice (some ⟨W2.drew.heap.size, 0, none⟩) 1 1] 22)) w') rfl rfl (by rfl) (by go_simp; done) ((CloneR.clone ((W2.drew.alloc (.cells #[.int .i64 bl] 3)).alloc (.cells #[.slice a5 x.invs.length c5, .slice (some ⟨W2.drew.heap.size, 0, none⟩) 1 1] 22)) aA n cA vals (HA.out _ (HOFB.out _ (hBS _ hE2))).sl (row_one (HA.out _ (HOFB.out _ (hBS _ hE2)))) (by omega)).mono fun e w' h => by obtain ⟨a', c', he, ho, hb⟩ := h; exact ⟨_, he, a', c', rfl, ho, hb⟩) ?_
          rintro v u1 ⟨aK, cK, rfl, hoK, hbK⟩
          have hC : Below W2.heap.size W2 u1 := hE2.trans (hbK.mono hE2.size)
          refine ⟨hSK _ (hBS _ hC), ?_⟩
          (try simp only [Act.put, List.setIfInBounds_toArray, List.set_cons_zero, List.set_cons_succ])
          obtain ⟨V, hV⟩ : ∃ V, u1 = V := ⟨_, rfl⟩
          obtain ⟨g1, hgg1⟩ : ∃ g, W2.drew.heap.size = g := ⟨_, rfl⟩
          obtain ⟨g2, hgg2⟩ : ∃ g, (W2.drew.alloc (.cells #[.int .i64 bl] 3)).heap.size = g := ⟨_, rfl⟩
          have hVV : Below W2.heap.size W2 V := by rw [← hV]; exact hC
          have hoV : V.ownsRow W2.heap.size 22 1 (.slice aK n cK) n vals := by rw [← hV]; exact (own_mono hoK hE2.size)
          have hg1 : V.heap[g1]? = some (.cells #[.int .i64 bl] 3) := by rw [← hV, ← hgg1]; exact (hbK.block W2.drew.heap.size (by simp; omega)).trans ((((Below.refl (W2.drew.alloc (.cells #[.int .i64 bl] 3)).heap.size (W2.drew.alloc (.cells #[.int .i64 bl] 3))).alloc (Nat.le_refl _) (.cells #[.slice a5 x.invs.length c5, .slice (some ⟨W2.drew.heap.size, 0, none⟩) 1 1] 22)).block W2.drew.heap.size (by simp)).trans (heap_alloc_new W2.drew _))
          have hg2 : V.heap[g2]? = some (.cells #[.slice a5 x.invs.length c5, .slice (some ⟨g1, 0, none⟩) 1 1] 22) := by rw [← hV, ← hgg2, ← hgg1]; exact (hbK.block (W2.drew.alloc (.cells #[.int .i64 bl] 3)).heap.size (by simp)).trans (heap_alloc_new (W2.drew.alloc (.cells #[.int .i64 bl] 3)) _)
          have hn1 : (Value.slice aK n cK).ownBlock ≠ some g1 := by rw [← hgg1]; exact own_not' hoK (by simp; omega)
          have hn2 : (Value.slice aK n cK).ownBlock ≠ some g2 := by rw [← hgg2]; exact own_not' hoK (by simp)
          rw [hV, hgg2, hgg1]
          obtain ⟨a9, c9, u9, r9, hs9, hp9, hb9⟩ := app_all 28 V W2.heap.size hVV.size aK cK n vals A hoV a5 c5 x.invs (fun U' hU' => ⟨RowsP.of (HA.out _ (HOFB.out _ (hBS _ (hVV.trans hU')))), (HIN.out _ (HOFB.out _ (hBS _ (hVV.trans hU')))).invs⟩) g1 bl hg1 hn1 g2 hg2 hn2 (by omega)
          have h9 : Below W2.heap.size W2 u9 := hVV.trans hb9
          refine HeldAll.one (i := 13) (by kernel_rfl) ?_
          refine HeldAll.opVal (i := 13) (oi := _) (d := some 25) (v := .slice a9 (n + 2) c9) (w2 := u9) rfl rfl (by rfl) (App2.exec_append rfl rfl rfl r9) (hSK _ (hBS _ h9)) ?_
          (try simp only [Act.put, List.setIfInBounds_toArray, List.set_cons_zero, List.set_cons_succ])
          refine HeldAll.one (i := 14) (by kernel_rfl) ?_
          refine HeldAll.opCall (i := 14) (oi := _) (d := some 26) (R := fun v w' => ∃ a' c', v = .slice a' l.length c' ∧ Sl w' a' l.length c' (ints l) ∧ Below u9.heap.size u9 w') rfl rfl (by rfl) (by go_simp; done) (concat_l u9 a9 (n + 2) c9 _ A x.invs bl l HL.out hs9 hp9 (by rw [← HL.out]; simp only [List.length_append, List.length_singleton]; omega)) ?_
          rintro v u10 ⟨aL, cL, rfl, hsL, hbL⟩
          have h10 : Below W2.heap.size W2 u10 := h9.trans (hbL.mono h9.size)
          refine ⟨hSK _ (hBS _ h10), ?_⟩
          (try simp only [Act.put, List.setIfInBounds_toArray, List.set_cons_zero, List.set_cons_succ])
          refine HeldAll.one (i := 15) (by kernel_rfl) ?_
          refine HeldAll.opCall (i := 15) (oi := _) (d := some 27) (R := fun v w' => ∃ X : List Int, SetK w' W1.heap.size X.length X ∧ CInv x l X ∧ OffB W1.heap.size u10 w') rfl rfl (by rfl) (by go_simp; done) (HADD.out u10 h10 aL cL hsL) ?_
          rintro v u11 ⟨X, hX1, hX2, hX3⟩
          have o11 : OffB W1.heap.size W2 u11 := (hBS _ h10).trans hX3
          refine ⟨hSK _ o11, ?_⟩
          (try simp only [Act.put, List.setIfInBounds_toArray, List.set_cons_zero, List.set_cons_succ])
          refine HeldAll.done (by kernel_rfl) ?_ _
          (try go_wp2_with fail)
          go_meet
          exact ⟨X, hX1, hX2, o11⟩
  case rest =>
    obtain ⟨X0, hX1, hX2, hX3⟩ := hcut
    generalize wc = w3 at *
    obtain ⟨nb, hnb⟩ : ∃ nb, l.length + 2 * x.ands.length + x.lats.length = nb := ⟨_, rfl⟩
    have HNB := Lib.hid hnb
    obtain ⟨m, hm⟩ : ∃ m, x.lats.length = m := ⟨_, rfl⟩
    have HM := Lib.hid hm
    have HNBL : Hid (nb ≤ 100000000) := by
      show _ ≤ _
      have := HZ.out; have := congrArg List.length HL.out
      simp only [List.length_append, List.length_singleton] at this
      omega
    have hm5 : m ≤ 4000000 := by have := HZ.out; omega
    have hgk : Hid (2 * (nb - X0.length) + 1 = 2 * (nb - X0.length) + (if true = true then 1 else 0)) := by show _ = _; simp
    clear hnb hm
    go_wp2_with fail
    go_loopg [8] (2 * (nb - X0.length) + 1) (fun gk s8 wr => ∃ (X : List Int) (f : Bool), s8 = .bool f ∧ Hid (SetK wr W1.heap.size X.length X) ∧ Hid (CInv x l X) ∧ Hid (f = false → ∀ t ∈ x.lats, Shut x X t) ∧ Hid (gk = 2 * (nb - X.length) + (if f = true then 1 else 0)) ∧ Hid (OffB W1.heap.size W2 wr))
    case atStart => exact ⟨X0, true, rfl, hX1, hX2, fun h => absurd h (by decide), hgk, hX3⟩
    case round =>
      obtain ⟨X1, f, rfl, hS, hI, hsh, hgk1, hO⟩ := hrel
      clear hX1 hX2 hX3 hgk
      cases f
      · have hS' := hS.out
        have HE := Lib.hid (cinv_end hI.out (hsh.out rfl))
        have HBE := Lib.hid (HOFB.out wr hO.out)
        have HND := Lib.hid hI.out.nodup
        clear hsh hgk1 hI hS'
        go_wp2_with fail
        go_ret
        exact ⟨W1.heap.size, X1, rfl, Nat.le_of_lt HLT1.out, hS.out, HND.out, HE.out, HBE.out⟩
      · have m2 := (offb_cbox hO.out HC2.out (by have := HLT1.out; omega)).k2
        simp only [HM.out] at m2
        have HS1 := hS
        have HO1 := hO
        clear hS hO hsh
        generalize wr = wo at *
        go_wp2_with fail
        go_loopw [8, 32] (fun s8 i wr => ∃ (q : Nat) (X : List Int) (f : Bool), q ≤ m ∧ s8 = .bool f ∧ i = .int .i64 q ∧ Hid (SetK wr W1.heap.size X.length X) ∧ Hid (CInv x l X) ∧ Hid (OffB W1.heap.size W2 wr) ∧ Hid (f = false → X = X1 ∧ ∀ t ∈ x.lats.take q, Shut x X1 t) ∧ Hid (f = true → X1.length < X.length)) (fun _ i _ => m - (intOf i).toNat)
        case atStart => exact ⟨0, X1, false, Nat.zero_le _, rfl, rfl, HS1, hI, HO1, fun _ => ⟨rfl, fun t ht => by simp at ht⟩, fun h => absurd h (by decide)⟩
        case round =>
          obtain ⟨q, X, f, hq, rfl, rfl, hS, hI2, hO, hf0, hf1⟩ := hrel
          by_cases hlt : q < m
          · have hix := (HIN.out wr (HOFB.out wr hO.out)).lats
            have hlt2 : q < x.lats.length := by have := HM.out; omega
            obtain ⟨b, o, hx, hbo, hbs, e0, e1, e2⟩ := hix.tri hlt2
            simp only at hbo
            subst hbo
            have hcap := hix.cap
            have hbig := hix.big
            simp only [HM.out] at hcap
            have h64 := HW.out.lats x.lats[q] (List.getElem_mem _)
            have HTK := Lib.hid (List.take_succ_eq_append_getElem hx)
            have HMEM : Hid (x.lats[q] ∈ x.lats) := List.getElem_mem _
            generalize x.lats[q] = t at *
            obtain ⟨t0, t1, t2⟩ := t
            simp only at e0 e1 e2 h64
            obtain ⟨W5, hW5⟩ : ∃ U, wr.alloc (.cells #[.int .i64 t0, .int .i64 t1, .int .i64 t2] 41) = U := ⟨_, rfl⟩
            have hb5 : Below wr.heap.size wr W5 := by rw [← hW5]; exact (Below.refl _ _).alloc (Nat.le_refl _) _
            have hx5 : BoxN wr.heap.size [.int .i64 t0, .int .i64 t1, .int .i64 t2] W5 := by rw [← hW5]; exact BoxN.new wr _ _
            have hS5 := hS.out.next hb5
            have hO5 := hO.out.below hb5
            have HHAS := Lib.hid (has_any W5 hS5 t0 h64.1.1 h64.1.2)
            have y0 := hx5.at' 0 _ rfl
            have y1 := hx5.at' 1 _ rfl
            have hcw := c8of (offb_cbox hO5 HC2.out (by have := HLT1.out; omega))
            obtain ⟨n0, n1, n2, n3, n4, n5, n6, n7⟩ := hcw
            have HS5 := Lib.hid hS5
            have HO5 := Lib.hid hO5
            have HU1 := Lib.hid h64.2.1
            clear hix hlt2 hx hb5 hx5 hS5 hO5 h64 hO hS
            cases hin : SetI.inX X (var t0)
            · rw [hin] at HHAS
              have HSH : Hid (f = false → X = X1 ∧ ∀ t ∈ x.lats.take (q + 1), Shut x X1 t) := fun hf => by
                obtain ⟨h1, h2⟩ := hf0.out hf
                refine ⟨h1, fun t ht => ?_⟩
                rw [HTK.out, List.mem_append, List.mem_singleton] at ht
                rcases ht with ht | rfl
                · exact h2 t ht
                · intro hm
                  rw [← h1] at hm
                  rw [SetI.inX_iff.2 hm] at hin
                  cases hin
              clear hin hf0
              go_wp2_with fail
              with_reducible refine HHAS.out.mono ?_
              rintro e w6 ⟨rfl, rfl⟩
              clear hW5 n0 n1 n2 n3 n4 n5 n6 n7
              go_wp2_with fail
              go_roundw
              case rel => exact ⟨q + 1, X, f, by omega, rfl, by go_num, HS5.out, hI2.out, HO5.out, HSH.out, hf1.out⟩
              case measure => simp [intOf]; omega
            · rw [hin] at HHAS
              have HIN1 := Lib.hid (SetI.inX_iff.1 hin)
              have hXB := cinv_few hI2.out
              have HXB : Hid (X.length ≤ nb) := by show _ ≤ _; rw [← HNB.out]; exact hXB
              obtain ⟨W6, hW6⟩ : ∃ U, W5.alloc (.cells #[.int .i64 t1] 3) = U := ⟨_, rfl⟩
              have hb6 : Below W5.heap.size W5 W6 := by rw [← hW6]; exact (Below.refl _ _).alloc (Nat.le_refl _) _
              have hs6 : Sl W6 (some ⟨W5.heap.size, 0, none⟩) 1 1 (ints [t1]) := by rw [← hW6]; exact sl_new W5 #[.int .i64 t1] 3 1 rfl (by decide)
              have hO6 := HO5.out.below hb6
              have HAD := Lib.hid (HADX.out W6 (HOFB.out W6 hO6) X (HS5.out.next hb6) hI2.out.nodup (by have := HXB.out; have := HNBL.out; omega) (some ⟨W5.heap.size, 0, none⟩) 1 t1 HU1.out hs6)
              have HO6 := Lib.hid hO6
              clear hin hXB hb6 hs6 hO6
              go_wp2_with fail
              with_reducible refine HHAS.out.mono ?_
              rintro e w6 ⟨rfl, rfl⟩
              go_wp2_with fail
              with_reducible refine HAD.out.mono ?_
              rintro e w7 ⟨X2, rfl, hS7, hA7, hsm, hO7⟩
              have HS7 := Lib.hid hS7
              have HI7 := Lib.hid (cinv_next hI2.out HMEM.out HIN1.out hA7)
              have HO7 := Lib.hid (HO6.out.trans hO7)
              by_cases hg : X.length < X2.length
              · have hd : decide (X.length < X2.length) = true := decide_eq_true hg
                rw [hd]
                have HF1 : Hid (X1.length < X2.length) := by
                  show _ < _
                  cases f
                  · rw [← (hf0.out rfl).1]; exact hg
                  · have := hf1.out rfl; omega
                clear hd hg hsm hA7 hS7 hO7 hW5 hW6 n0 n1 n2 n3 n4 n5 n6 n7 hf0 hf1
                go_wp2_with fail
                go_roundw
                case rel => exact ⟨q + 1, X2, true, by omega, rfl, by go_num, HS7.out, HI7.out, HO7.out, fun h => absurd h (by decide), fun _ => HF1.out⟩
                case measure => simp [intOf]; omega
              · have hd : decide (X.length < X2.length) = false := decide_eq_false hg
                rw [hd]
                obtain ⟨h1, h2⟩ := hsm (by omega)
                have HX2 : Hid (X2 = X) := h1
                have HSH : Hid (f = false → X2 = X1 ∧ ∀ t ∈ x.lats.take (q + 1), Shut x X1 t) := fun hf => by
                  obtain ⟨g1, g2⟩ := hf0.out hf
                  refine ⟨h1.trans g1, fun t ht => ?_⟩
                  rw [HTK.out, List.mem_append, List.mem_singleton] at ht
                  rcases ht with ht | rfl
                  · exact g2 t ht
                  · intro _ v hv0 hv
                    rw [← g1]
                    exact h2 v hv0 hv
                have HF1 : Hid (f = true → X1.length < X2.length) := fun hf => by rw [h1]; exact hf1.out hf
                clear hd hg hsm hA7 hS7 hO7 hW5 hW6 n0 n1 n2 n3 n4 n5 n6 n7 hf0 hf1 h1 h2
                go_wp2_with fail
                go_roundw
                case rel => exact ⟨q + 1, X2, f, by omega, rfl, by go_num, HS7.out, HI7.out, HO7.out, HSH.out, HF1.out⟩
                case measure => simp [intOf]; omega
          · have hqm : q = m := by omega
            have hXB := cinv_few hI2.out
            have HXB : Hid (X.length ≤ nb) := by show _ ≤ _; rw [← HNB.out]; exact hXB
            have HSH : Hid (f = false → ∀ t ∈ x.lats, Shut x X t) := fun hf => by
              obtain ⟨g1, g2⟩ := hf0.out hf
              rw [g1]
              intro t ht
              refine g2 t ?_
              rw [List.take_of_length_le (by rw [HM.out]; omega)]
              exact ht
            have HLE : Hid (f = false → X.length = X1.length) := fun hf => by rw [(hf0.out hf).1]
            clear hqm hXB hf0
            go_wp2_with fail
            go_roundg (2 * (nb - X.length) + (if f = true then 1 else 0))
            case measure =>
              have h0 := hgk1.out
              have h1 := HXB.out
              cases f
              · have := HLE.out rfl; simp at h0 ⊢; omega
              · have := hf1.out rfl; simp at h0 ⊢; omega
            case rel => exact ⟨X, f, rfl, hS.out, hI2.out, HSH.out, rfl, hO.out⟩
end Coi
end Go.Proofs.YtninglnchengeaaGreat

/-
  slices.Clone of slices of structs of three cells.
-/
namespace Go.Proofs.YtninglnchengeaaGreat
open Go.RowKit Base
set_option linter.unusedVariables false
set_option linter.unusedSimpArgs false
namespace CloneT
theorem info_latch : (Tryz.prog.info? 41).map (fun i => (i.zero, i.size, i.bytes)) = some (some (.agg #[.int .i64 0, .int .i64 0, .int .i64 0]), 3, 24) := by kernel_rfl
theorem info_and : (Tryz.prog.info? 43).map (fun i => (i.zero, i.size, i.bytes)) = some (some (.agg #[.int .i64 0, .int .i64 0, .int .i64 0]), 3, 24) := by kernel_rfl


set_option maxHeartbeats 1000000 in
theorem latches (w : World) (a : Option Addr) (n c : Nat) (vs : List (List Value)) (hsl : SlT w 3 a n c vs) (h1 : ∀ u ∈ vs.flatten, u.oneCell' = true) (hr : ∀ r ∈ vs, r.length = 3) (hn : n * 24 ≤ 140737488355328) :
    Calls Tryz.prog 26 #[.slice a n c] w fun e w' => ∃ a' c', e = .returned (.slice a' n c') ∧ w'.ownsRow w.heap.size 41 3 (.slice a' n c') n vs.flatten ∧ Below w.heap.size w w' := by
  have heq := fun (W : World) (x : Option Addr) => Lib.run_eql_slice_nil (P := Tryz.prog) W 23 41 x n c 0 0 Tryz.underlying23
  cases a with
  | none =>
    obtain ⟨rfl, rfl⟩ := hsl.bare rfl
    have hv : vs = [] := List.eq_nil_of_length_eq_zero hsl.len
    subst hv
    go_enter Tryz.func26, Tryz.ntmps26
    go_wp2_with fail
    go_ret
    exact ⟨none, 0, rfl, World.ownsRow_nil _ _ _ _, Below.refl _ _⟩
  | some ad =>
    have hal : Below w.heap.size w (w.alloc (.cells #[] 41)) := (Below.refl _ _).alloc (Nat.le_refl _) _
    have hsl' := hsl.next hal
    have hown : (w.alloc (.cells #[] 41)).ownsRow w.heap.size 41 3 (.slice (some ⟨w.heap.size, 0, none⟩) 0 0) 0 ([] : List (List Value)).flatten := World.ownsRow_lit w #[] 0 (Nat.le_refl _) (by unfold maxLen; omega) rfl
    have H1 := Lib.hid h1
    have HR := Lib.hid hr
    clear h1 hsl hr
    go_enter Tryz.func26, Tryz.ntmps26
    go_wp2_with ((with_reducible refine wpL_appK (k := 3) (by decide) (B := w.heap.size) (W := w) _ 0 [] _ n c vs info_latch Tryz.underlying23 ?_ ?_ ?_ H1.out HR.out hown hsl' ?_ ?_ ?_ hal ?_); rfl; rfl; rfl; exact hal.size; omega; omega; (rw [Nat.zero_add, List.nil_append]; intro a2 c2 w2 hown2 hb2 _))
    go_ret
    exact ⟨a2, c2, rfl, hown2, hb2⟩


set_option maxHeartbeats 1000000 in
theorem ands (w : World) (a : Option Addr) (n c : Nat) (vs : List (List Value)) (hsl : SlT w 3 a n c vs) (h1 : ∀ u ∈ vs.flatten, u.oneCell' = true) (hr : ∀ r ∈ vs, r.length = 3) (hn : n * 24 ≤ 140737488355328) :
    Calls Tryz.prog 29 #[.slice a n c] w fun e w' => ∃ a' c', e = .returned (.slice a' n c') ∧ w'.ownsRow w.heap.size 43 3 (.slice a' n c') n vs.flatten ∧ Below w.heap.size w w' := by
  have heq := fun (W : World) (x : Option Addr) => Lib.run_eql_slice_nil (P := Tryz.prog) W 24 43 x n c 0 0 Tryz.underlying24
  cases a with
  | none =>
    obtain ⟨rfl, rfl⟩ := hsl.bare rfl
    have hv : vs = [] := List.eq_nil_of_length_eq_zero hsl.len
    subst hv
    go_enter Tryz.func29, Tryz.ntmps29
    go_wp2_with fail
    go_ret
    exact ⟨none, 0, rfl, World.ownsRow_nil _ _ _ _, Below.refl _ _⟩
  | some ad =>
    have hal : Below w.heap.size w (w.alloc (.cells #[] 43)) := (Below.refl _ _).alloc (Nat.le_refl _) _
    have hsl' := hsl.next hal
    have hown : (w.alloc (.cells #[] 43)).ownsRow w.heap.size 43 3 (.slice (some ⟨w.heap.size, 0, none⟩) 0 0) 0 ([] : List (List Value)).flatten := World.ownsRow_lit w #[] 0 (Nat.le_refl _) (by unfold maxLen; omega) rfl
    have H1 := Lib.hid h1
    have HR := Lib.hid hr
    clear h1 hsl hr
    go_enter Tryz.func29, Tryz.ntmps29
    go_wp2_with ((with_reducible refine wpL_appK (k := 3) (by decide) (B := w.heap.size) (W := w) _ 0 [] _ n c vs info_and Tryz.underlying24 ?_ ?_ ?_ H1.out HR.out hown hsl' ?_ ?_ ?_ hal ?_); rfl; rfl; rfl; exact hal.size; omega; omega; (rw [Nat.zero_add, List.nil_append]; intro a2 c2 w2 hown2 hb2 _))
    go_ret
    exact ⟨a2, c2, rfl, hown2, hb2⟩


end CloneT
end Go.Proofs.YtninglnchengeaaGreat
