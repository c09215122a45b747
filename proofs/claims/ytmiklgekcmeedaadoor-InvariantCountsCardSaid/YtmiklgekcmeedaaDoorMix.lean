/-
  A slice of the call's own whose elements are slices of integers: each of the call's own, or lying below.
-/
import Derived.Test.YtmiklgekcmeedaaDoorLaws
namespace Go.Proofs.YtmiklgekcmeedaaDoor
open Go.RowKit
set_option linter.unusedVariables false
set_option linter.unusedSimpArgs false
namespace Base

/-- x is a slice that holds xs: of the call's own from N on, or below N. -/
def RowOk (w : World) (N : Nat) (e0 : TypeId) (x : Value) (xs : List Int) : Prop :=
  ∃ a c, x = .slice a xs.length c ∧ Sl w a xs.length c (ints xs) ∧ ((∀ b o, a = some ⟨b, o, none⟩ → xs ≠ [] → b < N) ∨ w.ownsRow N e0 1 x xs.length (ints xs))

theorem RowOk.next {w w' : World} {N : Nat} {e0 : TypeId} {x : Value} {xs : List Int} (h : RowOk w N e0 x xs) (hb : Below w.heap.size w w') : RowOk w' N e0 x xs := by
  obtain ⟨a, c, rfl, hs, h⟩ := h
  refine ⟨a, c, rfl, hs.next hb, ?_⟩
  rcases h with h | h
  · exact .inl h
  · exact .inr (own_next h hb)

theorem RowOk.one {w : World} {N : Nat} {e0 : TypeId} {x : Value} {xs : List Int} (h : RowOk w N e0 x xs) : x.oneCell' = true := by
  obtain ⟨a, c, rfl, _⟩ := h; rfl

theorem RowOk.ints {w : World} {N : Nat} {e0 : TypeId} {x : Value} {xs : List Int} (h : RowOk w N e0 x xs) : IntsV w x xs := by
  obtain ⟨a, c, e, hs, _⟩ := h; exact ⟨a, c, e, hs⟩

theorem RowOk.of_own {w : World} {N : Nat} {e0 : TypeId} {a : Option Addr} {c : Nat} {xs : List Int} (h : w.ownsRow N e0 1 (.slice a xs.length c) xs.length (Base.ints xs)) : RowOk w N e0 (.slice a xs.length c) xs := by
  obtain ⟨a', c', hv, hsl⟩ := own_sl h
  simp only [Value.slice.injEq] at hv
  obtain ⟨rfl, _, rfl⟩ := hv
  exact ⟨a, c, rfl, hsl, .inr h⟩

/-- What lies there already, lies below. -/
theorem RowOk.of_sl {w : World} {N : Nat} {e0 : TypeId} {x : Value} {xs : List Int} (h : IntsV w x xs) (hN : w.heap.size ≤ N) : RowOk w N e0 x xs := by
  obtain ⟨a, c, rfl, hs⟩ := h
  refine ⟨a, c, rfl, hs, .inl fun b o ha hne => ?_⟩
  have hl : 0 < xs.length := List.length_pos_iff.2 hne
  obtain ⟨b', o', _, ha', hlt, _⟩ := hs.int hl
  rw [ha] at ha'
  simp only [Option.some.injEq, Addr.mk.injEq] at ha'
  obtain ⟨rfl, _, _⟩ := ha'
  omega

/-- .. is so from any number on that is no less. -/
theorem RowOk.low {w : World} {N N' : Nat} {e0 : TypeId} {x : Value} {xs : List Int} (h : RowOk w N e0 x xs) (hN : w.heap.size ≤ N') : RowOk w N' e0 x xs := RowOk.of_sl h.ints hN

/-- Behind an append to a row of the call's own of another type. -/
theorem RowOk.kept {w w1 : World} {N : Nat} {e0 e1 : TypeId} {x v : Value} {xs : List Int} {n : Nat} {vals : List Value} (h : RowOk w N e0 x xs) (hown : w.ownsRow N e1 1 v n vals) (he : e0 ≠ e1) (hg : w.grownBy w1 v.ownBlock) : RowOk w1 N e0 x xs := by
  obtain ⟨a, c, rfl, hs, h⟩ := h
  rcases h with h | h
  · refine ⟨a, c, rfl, ⟨hs.len, hs.cap, hs.big, hs.bare, fun k u hu => ?_⟩, .inl h⟩
    obtain ⟨b, o, ha, hlt, hc⟩ := hs.cell k u hu
    have hne : xs ≠ [] := by
      rintro rfl
      simp [Base.ints] at hu
    have hbN := h b o ha hne
    have hblk : w1.heap[b]? = w.heap[b]? := hg.block b hlt (fun e => by have := (hown.lt b e.symm).1; omega)
    exact ⟨b, o, ha, Nat.lt_of_lt_of_le hlt hg.size, (World.cell?_of_block (w := w) (a := ⟨b, o + k, none⟩) hblk).trans hc⟩
  · exact RowOk.of_own (h.kept hg (own_apart h hown he))

structure Mix (w : World) (N : Nat) (e1 e0 : TypeId) (v : Value) (n : Nat) (vals : List Value) (xss : List (List Int)) : Prop where
  outer : w.ownsRow N e1 1 v n vals
  len : xss.length = n
  row : ∀ (i : Nat) (x : Value) (xs : List Int), vals[i]? = some x → xss[i]? = some xs → RowOk w N e0 x xs

theorem Mix.nil (w : World) (N : Nat) (e1 e0 : TypeId) : Mix w N e1 e0 (.slice none 0 0) 0 [] [] := ⟨World.ownsRow_nil _ _ _ _, rfl, fun i x xs h => by simp at h⟩

theorem Mix.next {w w' : World} {N : Nat} {e1 e0 : TypeId} {v : Value} {n : Nat} {vals : List Value} {xss : List (List Int)} (h : Mix w N e1 e0 v n vals xss) (hb : Below w.heap.size w w') : Mix w' N e1 e0 v n vals xss :=
  ⟨own_next h.outer hb, h.len, fun i x xs hx hxs => (h.row i x xs hx hxs).next hb⟩

theorem Mix.sl2 {w : World} {N : Nat} {e1 e0 : TypeId} {v : Value} {n : Nat} {vals : List Value} {xss : List (List Int)} (h : Mix w N e1 e0 v n vals xss) : ∃ a c, v = .slice a n c ∧ Sl2 w a n c vals xss := by
  obtain ⟨a, c, rfl, hs⟩ := own_sl h.outer
  exact ⟨a, c, rfl, hs, h.len, fun k x xs hx hxs => (h.row k x xs hx hxs).ints⟩

theorem Mix.sl2' {w : World} {N : Nat} {e1 e0 : TypeId} {a : Option Addr} {n c : Nat} {vals : List Value} {xss : List (List Int)} (h : Mix w N e1 e0 (.slice a n c) n vals xss) : Sl2 w a n c vals xss := by
  obtain ⟨a', c', hv, hs⟩ := h.sl2
  simp only [Value.slice.injEq] at hv
  obtain ⟨rfl, _, rfl⟩ := hv
  exact hs

theorem Mix.vlen {w : World} {N : Nat} {e1 e0 : TypeId} {v : Value} {n : Nat} {vals : List Value} {xss : List (List Int)} (h : Mix w N e1 e0 v n vals xss) : vals.length = n := by have := h.outer.1; omega

theorem Mix.push {w w1 : World} {N : Nat} {e1 e0 : TypeId} {v v' x : Value} {n : Nat} {vals : List Value} {xss : List (List Int)} (h : Mix w N e1 e0 v n vals xss) (he : e0 ≠ e1) {xs : List Int}
    (hx : RowOk w N e0 x xs) (hown : w1.ownsRow N e1 1 v' (n + 1) (vals ++ [x])) (hg : w.grownBy w1 v.ownBlock) : Mix w1 N e1 e0 v' (n + 1) (vals ++ [x]) (xss ++ [xs]) := by
  have hl := h.vlen
  refine ⟨hown, by simp [h.len], fun i y ys hi hys => ?_⟩
  by_cases hin : i < n
  · rw [List.getElem?_append_left (by omega)] at hi
    rw [List.getElem?_append_left (by rw [h.len]; exact hin)] at hys
    exact (h.row i y ys hi hys).kept h.outer he hg
  · rw [List.getElem?_append_right (by omega)] at hi
    rw [List.getElem?_append_right (by rw [h.len]; omega)] at hys
    have e : i - vals.length = 0 := by
      have := (List.getElem?_eq_some_iff.1 hi).1
      simpa using this
    rw [e] at hi
    rw [h.len, ← hl, e] at hys
    simp only [List.getElem?_cons_zero, Option.some.injEq] at hi hys
    subst hi; subst hys
    exact hx.kept h.outer he hg

/-- append of one slice to such a slice. -/
theorem wpL_pushM {P : Program} {w : World} {ops : Array Oper} {rest : List Oper} {dst : Option Tmp} {ty : TypeId} {pos : String} {af : Array Edge} {a : Act} {Q : Exit → Act → World → Prop}
    {s x : Operand} {t e1 e0 : TypeId} {bytes : Nat} (B : Nat) (w0 : World) (u : Value) (xs : List Int) (v : Value) (n : Nat) (vals : List Value) (xss : List (List Int))
    (hinfo : (P.info? e1).map (fun i => (i.zero, i.size, i.bytes)) = some (some (.slice none 0 0), 1, bytes)) (ht : P.underlying t = some (.slice e1)) (he : e0 ≠ e1)
    (hw : w = w0.alloc (.cells #[u] e1)) (hs : a.eval s = v) (hx : a.eval x = .slice (some ⟨w0.heap.size, 0, none⟩) 1 1)
    (hmix : Mix w0 B e1 e0 v n vals xss) (hu : RowOk w0 B e0 u xs) (hB : B ≤ w0.heap.size) (hn : (n + 1) * bytes ≤ 140737488355328) (hn' : n + 1 ≤ 9223372036854775807) {W : World} (hb : Below B W w0)
    (hK : ∀ a' c w1, Mix w1 B e1 e0 (.slice a' (n + 1) c) (n + 1) (vals ++ [u]) (xss ++ [xs]) → Below B W w1 → w0.heap.size + 1 ≤ w1.heap.size → wpList P ops Q rest (a.put dst (.slice a' (n + 1) c)) w1) :
    wpList P ops Q (⟨dst, .call { callee := .builtin .append, args := #[s, x], argTypes := #[t, t] }, ty, pos, af, none⟩ :: rest) a w := by
  obtain ⟨i, hi, hz0, hz1, hz2⟩ := info_parts hinfo
  subst hw
  refine wpList_append_own _ rfl s x t rfl B e1 i (.slice none 0 0) 1 bytes ht hi hz0 hz1 hz2 rfl (by decide) v n vals hs (hmix.outer.alloc _) ⟨w0.heap.size, 0, none⟩ 1 1 [u] hx rfl (cell_one_new _ _ _) (by intro q hq; simp at hq; subst hq; exact hu.one)
    (by unfold maxLen; omega) hn (by simp; omega) ?_
  intro v' w1 hown' hgrow _
  obtain ⟨a', c, rfl, _⟩ := own_sl hown'
  have hal : Below w0.heap.size w0 (w0.alloc (.cells #[u] e1)) := (Below.refl _ _).alloc (Nat.le_refl _) _
  refine hK a' c w1 ((hmix.next hal).push he (hu.next hal) hown' hgrow) (below_own (hmix.outer.alloc _) hgrow (hb.alloc (by omega) _) (by simp; omega)) ?_
  have := hgrow.size
  simpa using this

/-- From behind a draw. -/
theorem undrew {B : Nat} {w w' : World} (h : Below B w.drew w') : Below B w w' := ⟨h.os, h.tape, h.output, h.size, h.block⟩

/-! ### All of the call's own. -/
theorem Own2.sl2' {w : World} {N : Nat} {e1 e0 : TypeId} {a : Option Addr} {n c : Nat} {vals : List Value} {xss : List (List Int)} (h : Own2 w N e1 e0 (.slice a n c) n vals xss) : Sl2 w a n c vals xss := by
  obtain ⟨a', c', hv, hs⟩ := h.sl2
  simp only [Value.slice.injEq] at hv
  obtain ⟨rfl, _, rfl⟩ := hv
  exact hs

theorem Own2.vlen {w : World} {N : Nat} {e1 e0 : TypeId} {v : Value} {n : Nat} {vals : List Value} {xss : List (List Int)} (h : Own2 w N e1 e0 v n vals xss) : vals.length = n := by have := h.outer.1; omega

theorem Own2.mono {w : World} {N N' : Nat} {e1 e0 : TypeId} {v : Value} {n : Nat} {vals : List Value} {xss : List (List Int)} (h : Own2 w N e1 e0 v n vals xss) (hN : N' ≤ N) : Own2 w N' e1 e0 v n vals xss :=
  ⟨own_mono h.outer hN, h.len, fun i x xs hx hxs => by
    obtain ⟨a, c, rfl, ho⟩ := h.row i x xs hx hxs
    exact ⟨a, c, rfl, own_mono ho hN⟩⟩

theorem Own2.mix {w : World} {N : Nat} {e1 e0 : TypeId} {v : Value} {n : Nat} {vals : List Value} {xss : List (List Int)} (h : Own2 w N e1 e0 v n vals xss) : Mix w N e1 e0 v n vals xss :=
  ⟨h.outer, h.len, fun i x xs hx hxs => by
    obtain ⟨a, c, rfl, ho⟩ := h.row i x xs hx hxs
    exact RowOk.of_own ho⟩

/-- append of one slice of the call's own to such a slice. -/
theorem wpL_pushO {P : Program} {w : World} {ops : Array Oper} {rest : List Oper} {dst : Option Tmp} {ty : TypeId} {pos : String} {af : Array Edge} {a : Act} {Q : Exit → Act → World → Prop}
    {s x : Operand} {t e1 e0 : TypeId} {bytes : Nat} (B : Nat) (w0 : World) (ua : Option Addr) (uc : Nat) (xs : List Int) (ul : Nat) (hul : xs.length = ul) (v : Value) (n : Nat) (vals : List Value) (xss : List (List Int))
    (hinfo : (P.info? e1).map (fun i => (i.zero, i.size, i.bytes)) = some (some (.slice none 0 0), 1, bytes)) (ht : P.underlying t = some (.slice e1)) (he : e0 ≠ e1)
    (hw : w = w0.alloc (.cells #[.slice ua ul uc] e1)) (hs : a.eval s = v) (hx : a.eval x = .slice (some ⟨w0.heap.size, 0, none⟩) 1 1)
    (hmix : Own2 w0 B e1 e0 v n vals xss) (hu : w0.ownsRow B e0 1 (.slice ua ul uc) ul (ints xs)) (hB : B ≤ w0.heap.size) (hn : (n + 1) * bytes ≤ 140737488355328) (hn' : n + 1 ≤ 9223372036854775807) {W : World} (hb : Below B W w0)
    (hK : ∀ a' c w1, Own2 w1 B e1 e0 (.slice a' (n + 1) c) (n + 1) (vals ++ [.slice ua ul uc]) (xss ++ [xs]) → Below B W w1 → w0.heap.size + 1 ≤ w1.heap.size → wpList P ops Q rest (a.put dst (.slice a' (n + 1) c)) w1) :
    wpList P ops Q (⟨dst, .call { callee := .builtin .append, args := #[s, x], argTypes := #[t, t] }, ty, pos, af, none⟩ :: rest) a w := by
  obtain ⟨i, hi, hz0, hz1, hz2⟩ := info_parts hinfo
  subst hw
  subst hul
  refine wpList_append_own _ rfl s x t rfl B e1 i (.slice none 0 0) 1 bytes ht hi hz0 hz1 hz2 rfl (by decide) v n vals hs (hmix.outer.alloc _) ⟨w0.heap.size, 0, none⟩ 1 1 [.slice ua xs.length uc] hx rfl (cell_one_new _ _ _) (by intro q hq; simp at hq; subst hq; rfl)
    (by unfold maxLen; omega) hn (by simp; omega) ?_
  intro v' w1 hown' hgrow _
  obtain ⟨a', c, rfl, _⟩ := own_sl hown'
  have hal : Below w0.heap.size w0 (w0.alloc (.cells #[.slice ua xs.length uc] e1)) := (Below.refl _ _).alloc (Nat.le_refl _) _
  refine hK a' c w1 ((hmix.next hal).push he (own_next hu hal) hown' hgrow) (below_own (hmix.outer.alloc _) hgrow (hb.alloc (by omega) _) (by simp; omega)) ?_
  have := hgrow.size
  simpa using this

theorem own_ints {w : World} {B : Nat} {e : TypeId} {a : Option Addr} {n c : Nat} {xs : List Int} (h : w.ownsRow B e 1 (.slice a n c) n (ints xs)) : Sl w a n c (ints xs) := by
  obtain ⟨a', c', hv, hsl⟩ := own_sl h
  simp only [Value.slice.injEq] at hv
  obtain ⟨rfl, _, rfl⟩ := hv
  exact hsl

end Base
end Go.Proofs.YtmiklgekcmeedaaDoor
