/-
  Steps on slices of slices of the call's own: a level appended to; what lies below stays.
-/
import Derived.Test.YteamijldmhcicaaOwn3
import Derived.Test.YteamijldmhcicaaStep
namespace Go.Proofs.Yteamijldmhcicaa
open Go.RowKit Base Set1
set_option linter.unusedVariables false
set_option linter.unusedSimpArgs false
namespace Own3N

/-- All but block G stays below B. -/
structure LowKept (B G : Nat) (w wr : World) : Prop where
  os : wr.os = w.os
  tape : wr.tape = w.tape
  output : wr.output = w.output
  size : w.heap.size ≤ wr.heap.size
  bs : B ≤ w.heap.size
  block : ∀ b, b < B → b ≠ G → wr.heap[b]? = w.heap[b]?

theorem LowKept.refl {B G : Nat} {w : World} (h : B ≤ w.heap.size) : LowKept B G w w := ⟨rfl, rfl, rfl, Nat.le_refl _, h, fun _ _ _ => rfl⟩

theorem LowKept.next {B G : Nat} {w wr w' : World} (h : LowKept B G w wr) (hb : Below wr.heap.size wr w') : LowKept B G w w' :=
  ⟨hb.os.trans h.os, hb.tape.trans h.tape, hb.output.trans h.output, Nat.le_trans h.size hb.size, h.bs, fun b hB hG => (hb.block b (Nat.lt_of_lt_of_le hB (Nat.le_trans h.bs h.size))).trans (h.block b hB hG)⟩

theorem LowKept.grown {B G : Nat} {w wr w' : World} (h : LowKept B G w wr) {ob : Option Nat} (hg : wr.grownBy w' ob) (ho : ∀ k, ob = some k → B ≤ k) : LowKept B G w w' :=
  ⟨hg.os.trans h.os, hg.tape.trans h.tape, hg.output.trans h.output, Nat.le_trans h.size hg.size, h.bs, fun b hB hG => (hg.block b (Nat.lt_of_lt_of_le hB (Nat.le_trans h.bs h.size)) (fun e => by have := ho b e.symm; omega)).trans (h.block b hB hG)⟩

theorem LowKept.set {B G : Nat} {w wr : World} (h : LowKept B G w wr) (i : Nat) (u : Value) : LowKept B G w (wr.setCell ⟨G, i, none⟩ u) := by
  refine ⟨h.os, h.tape, h.output, by simpa [World.setCell] using h.size, h.bs, fun b hB hG => ?_⟩
  rw [← h.block b hB hG]
  simp [World.setCell, Array.getElem?_modify, Ne.symm hG]

theorem LowKept.cell {B G : Nat} {w wr : World} (h : LowKept B G w wr) {b : Nat} (hB : b < B) (hG : b ≠ G) (i : Nat) : wr.cell? ⟨b, i, none⟩ = w.cell? ⟨b, i, none⟩ :=
  World.cell?_of_block (w := w) (a := ⟨b, i, none⟩) (h.block b hB hG)

theorem LowKept.frozen {B G : Nat} {w wr : World} (h : LowKept B G w wr) {b : Nat} (hB : b < B) (hG : b ≠ G) (i : Nat) : wr.frozen? ⟨b, i, none⟩ = w.frozen? ⟨b, i, none⟩ :=
  World.frozen?_of_block (w := w) (a := ⟨b, i, none⟩) (h.block b hB hG)

theorem LowKept.below {B G X : Nat} {w0 w wr : World} (h : LowKept B G w wr) (h0 : Below X w0 w) (hB : X ≤ B) (hG : X ≤ G) : Below X w0 wr :=
  ⟨h.os.trans h0.os, h.tape.trans h0.tape, h.output.trans h0.output, Nat.le_trans h0.size h.size, fun b hb => (h.block b (Nat.lt_of_lt_of_le hb hB) (by omega)).trans (h0.block b hb)⟩

/-- A block below the levels is written. -/
theorem Own3.low {w : World} {B G n : Nat} {e1 e0 : TypeId} {vals : List Value} {F : List (List (List Int))} (h : Own3 w B G n e1 e0 vals F) {b : Nat} (hb : b < B) (hG : b ≠ G) (i : Nat) (u : Value) : Own3 (w.setCell ⟨b, i, none⟩ u) B G n e1 e0 vals F := by
  have hsz : (w.setCell ⟨b, i, none⟩ u).heap.size = w.heap.size := by simp [World.setCell]
  refine ⟨sl_keep h.sl (fun b' o ha _ => ?_), fun k => by rw [World.frozen?_setCell]; exact h.fz k, h.gB, by rw [hsz]; exact h.bs, h.len, fun k x xss hx hxs => ?_, h.apart⟩
  · simp only [Option.some.injEq, Addr.mk.injEq] at ha
    omega
  · obtain ⟨a, c, vs, rfl, ho⟩ := h.lev k x xss hx hxs
    exact ⟨a, c, vs, rfl, ho.set (a := ⟨b, i, none⟩) hb u⟩

theorem grown_alloc {w w1 : World} {o : Obj} {ob : Option Nat} (h : (w.alloc o).grownBy w1 ob) : w.grownBy w1 ob := by
  have ha : Below w.heap.size w (w.alloc o) := (Below.refl _ _).alloc (Nat.le_refl _) _
  exact ⟨h.os.trans ha.os, h.tape.trans ha.tape, h.output.trans ha.output, Nat.le_trans ha.size h.size, fun k hk hne => (h.block k (Nat.lt_of_lt_of_le hk ha.size) hne).trans (ha.block k hk)⟩

/-- append of one row to a level: what it leaves. -/
theorem run_push {P : Program} {e1 e0 t : TypeId} {bytes : Nat} (hinfo : (P.info? e1).map (fun i => (i.zero, i.size, i.bytes)) = some (some (.slice none 0 0), 1, bytes)) (ht : P.underlying t = some (.slice e1)) (he : e0 ≠ e1)
    (w0 : World) (B : Nat) (v : Value) (n : Nat) (vals : List Value) (xss : List (List Int)) (hmix : Own2 w0 B e1 e0 v n vals xss) (ua : Option Addr) (uc : Nat) (xs : List Int) (ul : Nat) (hul : xs.length = ul)
    (hu : w0.ownsRow B e0 1 (.slice ua ul uc) ul (ints xs)) (hB : B ≤ w0.heap.size) (hn : (n + 1) * bytes ≤ 140737488355328) (hn' : n + 1 ≤ 9223372036854775807) :
    ∃ a' c w1, (∀ ty, (Builtin.append_ #[t, t] ty #[v, .slice (some ⟨w0.heap.size, 0, none⟩) 1 1]).run P (w0.alloc (.cells #[.slice ua ul uc] e1)) = .ok (.slice a' (n + 1) c) w1) ∧ Own2 w1 B e1 e0 (.slice a' (n + 1) c) (n + 1) (vals ++ [.slice ua ul uc]) (xss ++ [xs]) ∧
      w0.grownBy w1 v.ownBlock ∧ ((Value.slice a' (n + 1) c).ownBlock = v.ownBlock ∨ (Value.slice a' (n + 1) c).ownBlock = some (w0.heap.size + 1)) := by
  obtain ⟨i, hi, hz0, hz1, hz2⟩ := info_parts hinfo
  subst hul
  have hal : Below w0.heap.size w0 (w0.alloc (.cells #[.slice ua xs.length uc] e1)) := (Below.refl _ _).alloc (Nat.le_refl _) _
  obtain ⟨v', w1, hr, hown', hgrow, _, hob⟩ := run_append_own_at (P := P) (w0.alloc (.cells #[.slice ua xs.length uc] e1)) B t t e1 i (.slice none 0 0) 1 bytes ht hi hz0 hz1 hz2 rfl (by decide) v n vals (hmix.outer.alloc _) ⟨w0.heap.size, 0, none⟩ 1 1 [.slice ua xs.length uc] rfl
    (cell_one_new _ _ _) (by intro q hq; simp at hq; subst hq; rfl) (by unfold maxLen; omega) hn (by simp; omega)
  obtain ⟨a', c, rfl, _⟩ := own_sl hown'
  refine ⟨a', c, w1, fun ty => hr, (hmix.next hal).push he (own_next hu hal) hown' hgrow, grown_alloc hgrow, ?_⟩
  rcases hob with h | h
  · exact .inl h
  · exact .inr (by rw [h]; simp)

/-- append of one row, wherever it lies, to a level: what it leaves. -/
theorem run_pushS {P : Program} {e1 e0 t : TypeId} {bytes : Nat} (hinfo : (P.info? e1).map (fun i => (i.zero, i.size, i.bytes)) = some (some (.slice none 0 0), 1, bytes)) (ht : P.underlying t = some (.slice e1))
    (w0 : World) (B : Nat) (v : Value) (n : Nat) (vals : List Value) (xss : List (List Int)) (hmix : Own2 w0 B e1 e0 v n vals xss) (ua : Option Addr) (uc : Nat) (ul : Nat)
    (hB : B ≤ w0.heap.size) (hn : (n + 1) * bytes ≤ 140737488355328) (hn' : n + 1 ≤ 9223372036854775807) :
    ∃ a' c w1, (∀ ty, (Builtin.append_ #[t, t] ty #[v, .slice (some ⟨w0.heap.size, 0, none⟩) 1 1]).run P (w0.alloc (.cells #[.slice ua ul uc] e1)) = .ok (.slice a' (n + 1) c) w1) ∧ w1.ownsRow B e1 1 (.slice a' (n + 1) c) (n + 1) (vals ++ [.slice ua ul uc]) ∧
      w0.grownBy w1 v.ownBlock := by
  obtain ⟨i, hi, hz0, hz1, hz2⟩ := info_parts hinfo
  obtain ⟨v', w1, hr, hown', hgrow, _, hob⟩ := run_append_own_at (P := P) (w0.alloc (.cells #[.slice ua ul uc] e1)) B t t e1 i (.slice none 0 0) 1 bytes ht hi hz0 hz1 hz2 rfl (by decide) v n vals (hmix.outer.alloc _) ⟨w0.heap.size, 0, none⟩ 1 1 [.slice ua ul uc] rfl
    (cell_one_new _ _ _) (by intro q hq; simp at hq; subst hq; rfl) (by unfold maxLen; omega) hn (by simp; omega)
  obtain ⟨a', c, rfl, _⟩ := own_sl hown'
  exact ⟨a', c, w1, fun ty => hr, hown', grown_alloc hgrow⟩

/-- .. and put in place, and a cell below written: all is readable. -/
theorem Own3.put_low {w w1 W4 : World} {B G n : Nat} {e1 e0 : TypeId} {vals : List Value} {F : List (List (List Int))} (h : Own3 w B G n e1 e0 vals F) (he : e0 ≠ e1) {i : Nat} (hi : i < n) {v : Value} (hx : vals[i]? = some v) {r : List (List Int)}
    {vs7 : List Value} (ho7 : Own2 w B e1 e0 v r.length vs7 r) (hg : w.grownBy w1 v.ownBlock) {a' : Option Addr} {c' : Nat} {ua : Option Addr} {uc : Nat} {xs : List Int} (hown : w1.ownsRow B e1 1 (.slice a' (r.length + 1) c') (r.length + 1) (vs7 ++ [.slice ua xs.length uc]))
    (hxs : Sl W4 ua xs.length uc (ints xs)) (h4 : Below W4.heap.size W4 w) (hG : W4.heap.size ≤ G) {b : Nat} (hbB : b < B) (hbG : b ≠ G) (hbx : ∀ b' o, ua = some ⟨b', o, none⟩ → xs ≠ [] → b' ≠ b) (j0 : Nat) (u : Value) :
    Sl3 ((w1.setCell ⟨G, i, none⟩ (.slice a' (r.length + 1) c')).setCell ⟨b, j0, none⟩ u) (some ⟨G, 0, none⟩) n n (vals.set i (.slice a' (r.length + 1) c')) (F.set i (r ++ [xs])) ∧ Below W4.heap.size W4 (w1.setCell ⟨G, i, none⟩ (.slice a' (r.length + 1) c')) := by
  have hGn : ∀ k, v.ownBlock = some k → k ≠ G := fun k hk => by have := (ownblock_lt ho7.outer hk).1; have := h.gB; omega
  have hblk : w1.heap[G]? = w.heap[G]? := hg.block G (Nat.lt_of_lt_of_le h.gB h.bs) (fun e => hGn G e.symm rfl)
  have hsl1 : Sl w1 (some ⟨G, 0, none⟩) n n vals := ⟨h.sl.len, h.sl.cap, h.sl.big, h.sl.bare, fun k v hv => by
    obtain ⟨b, o, ha, hb, hc⟩ := h.sl.cell k v hv
    simp only [Option.some.injEq, Addr.mk.injEq] at ha
    obtain ⟨rfl, rfl, _⟩ := ha
    exact ⟨G, 0, rfl, Nat.lt_of_lt_of_le hb hg.size, (World.cell?_of_block (w := w) (a := ⟨G, 0 + k, none⟩) hblk).trans hc⟩⟩
  have hbW : Below W4.heap.size W4 (w1.setCell ⟨G, i, none⟩ (.slice a' (r.length + 1) c')) := by
    have h41 : Below W4.heap.size W4 w1 := h4.grown hg (by have := h4.size; exact this) (fun k hk => by have := (ownblock_lt ho7.outer hk).1; have := h.gB; omega)
    exact h41.setCell (by exact hG) _
  refine ⟨⟨sl_keep (sl_set hsl1 hi _) (fun b' o e _ => by simp only [Option.some.injEq, Addr.mk.injEq] at e; omega), by rw [List.length_set]; exact h.len, fun k y yss hy hys => ?_⟩, hbW⟩
  have hvl : vals.length = n := h.sl.len
  have hiF : i < F.length := by rw [h.len]; exact hi
  by_cases hk : k = i
  · subst hk
    rw [List.getElem?_set_self (by omega)] at hy
    rw [List.getElem?_set_self hiF] at hys
    simp only [Option.some.injEq] at hy hys
    subst hy; subst hys
    have hos := ownsRow_setCell_below (ownsRow_setCell_below hown (a := ⟨G, k, none⟩) h.gB (.slice a' (r.length + 1) c')) (a := ⟨b, j0, none⟩) hbB u
    obtain ⟨a2, c2, hv2, hs2⟩ := own_sl hos
    simp only [Value.slice.injEq] at hv2
    obtain ⟨rfl, _, rfl⟩ := hv2
    refine ⟨a', c', vs7 ++ [.slice ua xs.length uc], by simp, ?_⟩
    have hl : (r ++ [xs]).length = r.length + 1 := by simp
    rw [hl]
    refine ⟨hs2, hl, fun j y ys hjy hjs => ?_⟩
    have h7l : vs7.length = r.length := ho7.vlen
    by_cases hj : j < r.length
    · rw [List.getElem?_append_left (by omega)] at hjy
      rw [List.getElem?_append_left hj] at hjs
      obtain ⟨ay, cy, rfl, hoy⟩ := ho7.row j y ys hjy hjs
      exact ⟨ay, cy, rfl, Base.own_ints (ownsRow_setCell_below (ownsRow_setCell_below (hoy.kept hg (own_apart hoy ho7.outer he)) (a := ⟨G, k, none⟩) h.gB _) (a := ⟨b, j0, none⟩) hbB u)⟩
    · rw [List.getElem?_append_right (by omega)] at hjs
      rw [List.getElem?_append_right (by omega)] at hjy
      have e : j - r.length = 0 := by
        have := (List.getElem?_eq_some_iff.1 hjs).1
        simpa using this
      rw [h7l, e] at hjy
      rw [e] at hjs
      simp only [List.getElem?_cons_zero, Option.some.injEq] at hjy hjs
      subst hjy; subst hjs
      exact ⟨ua, uc, rfl, sl_keep (hxs.next hbW) (fun b' o e hne => hbx b' o e (by rintro rfl; exact hne rfl))⟩
  · rw [List.getElem?_set_ne (fun e => hk e.symm)] at hy hys
    obtain ⟨a, c, vs, rfl, ho⟩ := h.lev k y yss hy hys
    exact ⟨a, c, vs, rfl, (((own2_kept ho he ho7.outer hg (h.apart k i _ _ hk hy hx)).set (a := ⟨G, i, none⟩) h.gB _).set (a := ⟨b, j0, none⟩) hbB u).sl2'⟩

/-- append as a step of a region that draws, by its run. -/
theorem step_run {P : Program} {w : World} {ops : Array Oper} {o : Oper} {a : Act} {K : Act → World → Prop} {Q : Exit → Act → World → Prop} {E : Prop} (hgd : o.guard = none) {s x : Operand} {t : TypeId}
    (ho : o.op = .call { callee := .builtin .append, args := #[s, x], argTypes := #[t, t] }) {v vx v' : Value} {w' : World} (hs : a.eval s = v) (hx : a.eval x = vx)
    (hr : ∀ ty, (Builtin.append_ #[t, t] ty #[v, vx]).run P w = .ok v' w') (hK : K (a.put o.dst v') w') :
    if Region.wanted o (yielded ops a.tmps) = true then Oper.wp P o a w K Q else E := by
  have hw : Region.wanted o (yielded ops a.tmps) = true := by simp [Region.wanted, hgd]
  rw [if_pos hw]
  have hr' := hr o.type
  unfold Oper.wp execOp
  simp only [ho, resolve, invoke, builtin, Sem.run_bind, Sem.run_pure, Result.andThen_ok, List.map_toArray, List.map_cons, List.map_nil, hs, hx, hr']
  exact hK

end Own3N
end Go.Proofs.Yteamijldmhcicaa
