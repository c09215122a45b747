/-
  Laws for the walk in the words of Base: a string's bytes; bytes as a string; append to a slice of the call's own, of whatever source.
-/
import Derived.Test.YtjmmhbmbafjneaaGreatDoorBase
import Derived.Laws.AppendOwnNone
namespace Go.Proofs.YtjmmhbmbafjneaaGreatDoor
open Go.RowKit
set_option linter.unusedVariables false
namespace Base

def bytesV (s : ByteArray) : List Value := s.data.toList.map (fun b => Value.int .u8 b.toNat)

theorem bytesV_len (s : ByteArray) : (bytesV s).length = s.size := by simp [bytesV]

theorem bytesV_at {s : ByteArray} {k : Nat} (h : k < s.size) : (bytesV s)[k]? = some (.int .u8 (s[k].toNat : Nat)) := by
  unfold bytesV
  rw [List.getElem?_map, List.getElem?_eq_getElem (by simpa using h)]
  rfl

/-- A byte of a slice that holds a string's bytes. -/
theorem Sl.byte {w : World} {b o c : Nat} {s : ByteArray} (h : Sl w (some ⟨b, o, none⟩) s.size c (bytesV s)) {k : Nat} (hk : k < s.size) :
    w.cell? ⟨b, o + k, none⟩ = some (.int .u8 (s[k].toNat : Nat)) := by
  obtain ⟨b', o', ha, hs, hc⟩ := h.cell k _ (bytesV_at hk)
  simp only [Option.some.injEq, Addr.mk.injEq] at ha
  obtain ⟨rfl, rfl, _⟩ := ha
  exact hc

theorem byte_ne (b c : UInt8) (h : b ≠ c) : ((b.toNat : Int) == (c.toNat : Int)) = false := by
  rw [beq_eq_false_iff_ne]
  intro h'
  exact h (UInt8.toNat_inj.1 (by omega))

theorem byte_eq (b c : UInt8) : ((b.toNat : Int) == (c.toNat : Int)) = (b == c) := by
  rw [Bool.eq_iff_iff]; simp only [beq_iff_eq]
  exact ⟨fun h => UInt8.toNat_inj.1 (by omega), fun h => by rw [h]⟩

theorem grownCap_big (w : World) (n : Nat) (e : TypeId) (h : n ≤ 9223372036854775807) : grownCap w n 0 e ≤ 9223372036854775807 := by
  have := grownCap_le_maxLen w n 0 e (by unfold maxLen; omega)
  unfold maxLen at this; omega

/-- '[]byte(s)' in the walk. -/
theorem wpL_bytes {P : Program} {w : World} {ops : Array Oper} {rest : List Oper} {dst : Option Tmp} {ty : TypeId} {pos : String} {af : Array Edge} {a : Act} {Q : Exit → Act → World → Prop}
    {src d e : TypeId} {x : Operand} {s : ByteArray} (hx : a.eval x = .string s) (hn : s.size ≤ 9223372036854775807)
    (hs : P.underlying src = some .string) (hd : P.underlying d = some (.slice e)) (he : P.underlying e = some (.int .u8))
    (hK : ∀ b c w1, Sl w1 (some ⟨b, 0, none⟩) s.size c (bytesV s) → Below w.heap.size w w1 → w.heap.size ≤ b → wpList P ops Q rest (a.put dst (.slice (some ⟨b, 0, none⟩) s.size c)) w1) :
    wpList P ops Q (⟨dst, .convert src d x, ty, pos, af, none⟩ :: rest) a w := by
  refine wpList_plain rfl fun K hK' => ?_
  have hrun := run_bytes_of_string (P := P) w src d e s hs hd he
  generalize hc : grownCap w s.size 0 e = c at hrun
  have hge : s.size ≤ c := by rw [← hc]; exact grownCap_ge w s.size 0 e
  have hle : c ≤ 9223372036854775807 := by rw [← hc]; exact grownCap_big w s.size e hn
  clear hc
  have hb : Below w.heap.size w (w.drew.alloc (.cells (bytesRow s c) e ((bytesRow s c).size, (bytesRow s c).size + 1))) :=
    (Below.refl _ _).drew.alloc (Nat.le_refl _) _
  have hsl : Sl (w.drew.alloc (.cells (bytesRow s c) e ((bytesRow s c).size, (bytesRow s c).size + 1))) (some ⟨w.heap.size, 0, none⟩) s.size c (bytesV s) := by
    refine ⟨bytesV_len s, hge, hle, (fun h => by cases h), fun k v hv => ⟨w.heap.size, 0, rfl, ?_, ?_⟩⟩
    · show w.heap.size < (w.heap.push _).size; simp
    · rw [cell_of_row _ w.heap.size (0 + k) (bytesRow s c) e ((bytesRow s c).size, (bytesRow s c).size + 1) (by show (w.heap.push _)[w.heap.size]? = _; simp)]
      unfold bytesRow
      unfold bytesV at hv
      rw [Nat.zero_add, Array.getElem?_append_left, ← Array.getElem?_toList, Array.toList_map]
      · exact hv
      · have := (List.getElem?_eq_some_iff.1 hv).1
        simpa using this
  unfold Oper.wp
  simp [execOp, hx, hrun, Result.andThen]
  exact hK' _ _ (hK w.heap.size c _ hsl hb (Nat.le_refl _))

/-- What is owned, as a slice that can be read. -/
theorem own_sl {w : World} {B : Nat} {e : TypeId} {v : Value} {n : Nat} {vs : List Value} (h : w.ownsRow B e 1 v n vs) :
    ∃ a c, v = .slice a n c ∧ Sl w a n c vs := by
  obtain ⟨hl, h2⟩ := h
  rw [Nat.mul_one] at hl
  rcases h2 with ⟨rfl, rfl⟩ | ⟨g, cap, cur, rfl, hg, hh, hn, hcap, hcur, htake⟩
  · exact ⟨none, 0, rfl, hl, Nat.le_refl _, by omega, fun _ => ⟨rfl, rfl⟩, fun k x hx => by
      have := (List.getElem?_eq_some_iff.1 hx).1; omega⟩
  · refine ⟨_, _, rfl, hl, hn, by unfold maxLen at hcap; omega, (fun h => by cases h), fun k x hx => ⟨g, 0, rfl, (Array.getElem?_eq_some_iff.1 hh).1, ?_⟩⟩
    rw [cell_of_row _ g (0 + k) cur e _ hh]
    rw [← htake, List.getElem?_take, Nat.mul_one] at hx
    split at hx
    · rw [Nat.zero_add]; simpa using hx
    · cases hx

/-- What is owned stays owned where what lies below a number behind it has not turned. -/
theorem own_below {w w' : World} {B B' : Nat} {e : TypeId} {size : Nat} {v : Value} {n : Nat} {vs : List Value} (h : w.ownsRow B e size v n vs) (hb : Below B' w w') (hB : w.heap.size ≤ B') : w'.ownsRow B e size v n vs := by
  refine ⟨h.1, ?_⟩
  rcases h.2 with hn | ⟨g, cap, cur, rfl, hg, hh, r⟩
  · exact .inl hn
  · exact .inr ⟨g, cap, cur, rfl, hg, by rw [hb.block g (Nat.lt_of_lt_of_le (Array.getElem?_eq_some_iff.1 hh).1 hB)]; exact hh, r⟩

theorem own_next {w w' : World} {B : Nat} {e : TypeId} {size : Nat} {v : Value} {n : Nat} {vs : List Value} (h : w.ownsRow B e size v n vs) (hb : Below w.heap.size w w') : w'.ownsRow B e size v n vs := own_below h hb (Nat.le_refl _)

theorem own_mono {w : World} {B B' : Nat} {e : TypeId} {size : Nat} {v : Value} {n : Nat} {vs : List Value} (h : w.ownsRow B e size v n vs) (hB : B' ≤ B) : w.ownsRow B' e size v n vs := by
  refine ⟨h.1, ?_⟩
  rcases h.2 with hn | ⟨g, cap, cur, rfl, hg, r⟩
  · exact .inl hn
  · exact .inr ⟨g, cap, cur, rfl, Nat.le_trans hB hg, r⟩

/-- What the law on append leaves: the new value's own row, and nothing else turned. -/
theorem below_own {w w1 : World} {B : Nat} {e : TypeId} {size : Nat} {v : Value} {n : Nat} {vs : List Value} (h : w.ownsRow B e size v n vs) (hg : w.grownBy w1 v.ownBlock) {w0 : World} (hb : Below B w0 w) (hB : B ≤ w.heap.size) : Below B w0 w1 :=
  hb.grown hg hB fun k hk => (h.lt k hk).1

/-- append of one value to a slice of the call's own (elements of one cell). -/
theorem wpL_push {P : Program} {w : World} {ops : Array Oper} {rest : List Oper} {dst : Option Tmp} {ty : TypeId} {pos : String} {af : Array Edge} {a : Act} {Q : Exit → Act → World → Prop}
    {s x : Operand} {t e : TypeId} {z : Value} {bytes : Nat} (B : Nat) (w0 : World) (u : Value) (v : Value) (n : Nat) (vs : List Value)
    (hinfo : (P.info? e).map (fun i => (i.zero, i.size, i.bytes)) = some (some z, 1, bytes)) (ht : P.underlying t = some (.slice e)) (hzs : z.cells.size = 1)
    (hw : w = w0.alloc (.cells #[u] e)) (hs : a.eval s = v) (hx : a.eval x = .slice (some ⟨w0.heap.size, 0, none⟩) 1 1) (hu : u.oneCell' = true)
    (hown : w0.ownsRow B e 1 v n vs) (hB : B ≤ w0.heap.size) (hn : (n + 1) * bytes ≤ 140737488355328) (hn' : n + 1 ≤ 9223372036854775807) {W : World} (hb : Below B W w0)
    (hK : ∀ a' c w1, w1.ownsRow B e 1 (.slice a' (n + 1) c) (n + 1) (vs ++ [u]) → Below B W w1 → w0.heap.size + 1 ≤ w1.heap.size → wpList P ops Q rest (a.put dst (.slice a' (n + 1) c)) w1) :
    wpList P ops Q (⟨dst, .call { callee := .builtin .append, args := #[s, x], argTypes := #[t, t] }, ty, pos, af, none⟩ :: rest) a w := by
  obtain ⟨i, hi, hz0, hz1, hz2⟩ := info_parts hinfo
  subst hw
  refine wpList_append_own _ rfl s x t rfl B e i z 1 bytes ht hi hz0 hz1 hz2 hzs (by decide) v n vs hs (hown.alloc _) ⟨w0.heap.size, 0, none⟩ 1 1 [u] hx rfl (cell_one_new _ _ _) (by intro q hq; simp at hq; subst hq; exact hu)
    (by unfold maxLen; omega) hn (by simp; omega) ?_
  intro v' w1 hown' hgrow _
  obtain ⟨a', c, rfl, _⟩ := own_sl hown'
  refine hK a' c w1 hown' (below_own (hown.alloc _) hgrow (hb.alloc (by omega) _) (by simp; omega)) ?_
  have := hgrow.size
  simpa using this

/-- append of all of a slice (elements of one cell) to a slice of the call's own. -/
theorem wpL_app {P : Program} {w : World} {ops : Array Oper} {rest : List Oper} {dst : Option Tmp} {ty : TypeId} {pos : String} {af : Array Edge} {a : Act} {Q : Exit → Act → World → Prop}
    {s x : Operand} {t e : TypeId} {z : Value} {bytes : Nat} (B : Nat) (v : Value) (n : Nat) (vs : List Value) (ao : Option Addr) (m c : Nat) (us : List Value)
    (hinfo : (P.info? e).map (fun i => (i.zero, i.size, i.bytes)) = some (some z, 1, bytes)) (ht : P.underlying t = some (.slice e)) (hzs : z.cells.size = 1)
    (hs : a.eval s = v) (hx : a.eval x = .slice ao m c) (hu : ∀ u ∈ us, u.oneCell' = true)
    (hown : w.ownsRow B e 1 v n vs) (hsl : Sl w ao m c us) (hB : B ≤ w.heap.size) (hn : (n + m) * bytes ≤ 140737488355328) (hn' : n + m ≤ 9223372036854775807) {W : World} (hb : Below B W w)
    (hK : ∀ a' c' w1, w1.ownsRow B e 1 (.slice a' (n + m) c') (n + m) (vs ++ us) → Below B W w1 → w.heap.size ≤ w1.heap.size → wpList P ops Q rest (a.put dst (.slice a' (n + m) c')) w1) :
    wpList P ops Q (⟨dst, .call { callee := .builtin .append, args := #[s, x], argTypes := #[t, t] }, ty, pos, af, none⟩ :: rest) a w := by
  obtain ⟨i, hi, hz0, hz1, hz2⟩ := info_parts hinfo
  cases ao with
  | none =>
    obtain ⟨rfl, rfl⟩ := hsl.bare rfl
    have hus : us = [] := List.eq_nil_of_length_eq_zero hsl.len
    subst hus
    refine wpList_append_own_none rfl s x t rfl B e i 1 ht hi v n vs hs hown hx ?_
    obtain ⟨a', c', rfl, _⟩ := own_sl hown
    exact hK a' c' w (by simpa using hown) hb (Nat.le_refl _)
  | some ad =>
    have hl : us.length = m * 1 := by rw [hsl.len]; omega
    refine wpList_append_own _ rfl s x t rfl B e i z 1 bytes ht hi hz0 hz1 hz2 hzs (by decide) v n vs hs hown ad m c us hx hl ?_ hu
      (by unfold maxLen; omega) hn hB ?_
    · intro j u hj
      obtain ⟨b, o, ha, _, hc⟩ := hsl.cell j u hj
      simp only [Option.some.injEq] at ha
      subst ha
      rw [Addr.add_lit]
      exact hc
    · intro v' w1 hown' hgrow _
      obtain ⟨a', c', rfl, _⟩ := own_sl hown'
      exact hK a' c' w1 hown' (below_own hown hgrow hb hB) hgrow.size

/-- append of all of a slice to the nil slice. -/
theorem wpL_app0 {P : Program} {w : World} {ops : Array Oper} {rest : List Oper} {dst : Option Tmp} {ty : TypeId} {pos : String} {af : Array Edge} {a : Act} {Q : Exit → Act → World → Prop}
    {s x : Operand} {t e : TypeId} {z : Value} {bytes : Nat} (ao : Option Addr) (m c : Nat) (us : List Value)
    (hinfo : (P.info? e).map (fun i => (i.zero, i.size, i.bytes)) = some (some z, 1, bytes)) (ht : P.underlying t = some (.slice e)) (hzs : z.cells.size = 1)
    (hs : a.eval s = .slice none 0 0) (hx : a.eval x = .slice ao m c) (hu : ∀ u ∈ us, u.oneCell' = true)
    (hsl : Sl w ao m c us) (hn : m * bytes ≤ 140737488355328) (hn' : m ≤ 9223372036854775807)
    (hK : ∀ a' c' w1, w1.ownsRow w.heap.size e 1 (.slice a' m c') m us → Below w.heap.size w w1 → wpList P ops Q rest (a.put dst (.slice a' m c')) w1) :
    wpList P ops Q (⟨dst, .call { callee := .builtin .append, args := #[s, x], argTypes := #[t, t] }, ty, pos, af, none⟩ :: rest) a w :=
  wpL_app (B := w.heap.size) (W := w) (.slice none 0 0) 0 [] ao m c us hinfo ht hzs hs hx hu (World.ownsRow_nil _ _ _ _) hsl (Nat.le_refl _) (by simpa using hn) (by omega) (Below.refl _ _)
    (by simpa using fun a' c' w1 h1 h2 _ => hK a' c' w1 h1 h2)

theorem ints_one (xs : List Int) : ∀ u ∈ ints xs, u.oneCell' = true := by
  intro u hu
  obtain ⟨_, _, rfl⟩ := List.mem_map.1 hu
  rfl

/-- The head of an owned row that is not empty. -/
theorem own_addr {w : World} {B : Nat} {e : TypeId} {size : Nat} {a : Option Addr} {n c : Nat} {vs : List Value} (h : w.ownsRow B e size (.slice a n c) n vs) (hn : 0 < n) :
    ∃ g, a = some ⟨g, 0, none⟩ ∧ B ≤ g ∧ g < w.heap.size := by
  rcases h.2 with ⟨_, h0⟩ | ⟨g, cap, cur, hv, hg, hh, _⟩
  · omega
  · simp only [Value.slice.injEq] at hv
    exact ⟨g, hv.1, hg, (Array.getElem?_eq_some_iff.1 hh).1⟩

/-- A new block of values, as a slice that can be read. -/
theorem sl_new (w : World) (cs : Array Value) (e : TypeId) (n : Nat) (hn : cs.size = n) (hm : n ≤ 9223372036854775807) :
    Sl (w.alloc (.cells cs e)) (some ⟨w.heap.size, 0, none⟩) n n cs.toList := by
  obtain ⟨a, c, h, hsl⟩ := own_sl (World.ownsRow_lit (base := w.heap.size) (e := e) (size := 1) w cs n (Nat.le_refl _) (by unfold maxLen; omega) (by omega))
  simp only [Value.slice.injEq] at h
  obtain ⟨rfl, _, rfl⟩ := h
  exact hsl

/-- A part of a slice from its head. -/
theorem Sl.take {w : World} {a : Option Addr} {n c : Nat} {vs : List Value} (h : Sl w a n c vs) {k : Nat} (hk : k ≤ n) : Sl w a k c (vs.take k) :=
  ⟨by rw [List.length_take, h.len]; omega, Nat.le_trans hk h.cap, h.big, fun e => by have := h.bare e; omega, fun j x hx => by
    rw [List.getElem?_take] at hx
    split at hx
    · exact h.cell j x hx
    · cases hx⟩

/-! ### Slices of slices of integers. -/
def IntsV (w : World) (v : Value) (xs : List Int) : Prop := ∃ a c, v = .slice a xs.length c ∧ Sl w a xs.length c (ints xs)

theorem IntsV.below {B : Nat} {w w' : World} {v : Value} {xs : List Int} (h : IntsV w v xs) (hb : Below B w w') (hB : w.heap.size ≤ B) : IntsV w' v xs := by
  obtain ⟨a, c, rfl, h⟩ := h
  exact ⟨a, c, rfl, h.below hb hB⟩

/-- v is a slice of slices of integers. -/
structure Sl2 (w : World) (a : Option Addr) (n c : Nat) (vs : List Value) (xss : List (List Int)) : Prop where
  sl : Sl w a n c vs
  len : xss.length = n
  row : ∀ (k : Nat) (v : Value) (xs : List Int), vs[k]? = some v → xss[k]? = some xs → IntsV w v xs

theorem Sl2.below {B : Nat} {w w' : World} {a : Option Addr} {n c : Nat} {vs : List Value} {xss : List (List Int)} (h : Sl2 w a n c vs xss) (hb : Below B w w') (hB : w.heap.size ≤ B) : Sl2 w' a n c vs xss :=
  ⟨h.sl.below hb hB, h.len, fun k v xs hv hx => (h.row k v xs hv hx).below hb hB⟩

theorem Sl2.next {w w' : World} {a : Option Addr} {n c : Nat} {vs : List Value} {xss : List (List Int)} (h : Sl2 w a n c vs xss) (hb : Below w.heap.size w w') : Sl2 w' a n c vs xss := h.below hb (Nat.le_refl _)

theorem Sl2.nil (w : World) : Sl2 w none 0 0 [] [] := ⟨Sl.nil w, rfl, fun k v xs h => by simp at h⟩

/-- A row: its cell, and what it is. -/
theorem Sl2.at {w : World} {a : Option Addr} {n c : Nat} {vs : List Value} {xss : List (List Int)} (h : Sl2 w a n c vs xss) {k : Nat} (hk : k < n) :
    ∃ b o a' c', ∃ hx : k < xss.length, a = some ⟨b, o, none⟩ ∧ b < w.heap.size ∧ w.cell? ⟨b, o + k, none⟩ = some (.slice a' xss[k].length c') ∧ Sl w a' xss[k].length c' (ints xss[k]) ∧ vs[k]? = some (.slice a' xss[k].length c') := by
  obtain ⟨b, o, v, ha, hb, hv, hc⟩ := h.sl.at hk
  have hx : k < xss.length := by have := h.len; omega
  obtain ⟨a', c', rfl, hs⟩ := h.row k v _ hv (List.getElem?_eq_getElem hx)
  exact ⟨b, o, a', c', hx, ha, hb, hc, hs, hv⟩

/-- make of n elements of one cell. -/
theorem wpL_make {P : Program} {w : World} {ops : Array Oper} {rest : List Oper} {dst : Option Tmp} {ty : TypeId} {pos : String} {af : Array Edge} {a : Act} {Q : Exit → Act → World → Prop}
    {l c : Operand} {t e : TypeId} {z : Value} {bytes : Nat} (n : Nat) {L C : Int}
    (hinfo : (P.info? e).map (fun i => (i.zero, i.size, i.bytes)) = some (some z, 1, bytes)) (ht : P.underlying t = some (.slice e)) (hzs : z.cells = #[z])
    (hl : a.eval l = .int .i64 L) (hc : a.eval c = .int .i64 C) (hL : L = (n : Int)) (hC : C = (n : Int)) (hn : bytes * n ≤ 281474976710656) (hn' : n ≤ 9223372036854775807)
    (hK : ∀ g w1, w1.ownsRow w.heap.size e 1 (.slice (some ⟨g, 0, none⟩) n n) n (List.replicate n z) → Below w.heap.size w w1 → w.heap.size ≤ g → g < w1.heap.size → wpList P ops Q rest (a.put dst (.slice (some ⟨g, 0, none⟩) n n)) w1) :
    wpList P ops Q (⟨dst, .makeSlice t l c, ty, pos, af, none⟩ :: rest) a w := by
  obtain ⟨i, hi, hz0, hz1, hz2⟩ := info_parts hinfo
  refine wpList_make_full w rfl l c t rfl w.heap.size e i z 1 ht hi hz0 hz1 .i64 .i64 L C n hl hc hL hC (by rw [hz2]; exact hn) (by unfold maxLen; omega) (Nat.le_refl _) ?_
  intro w1 hown hg
  rw [hzs, Nat.mul_one, toList_madeCells_one] at hown
  have hlt := hown.lt w.heap.size rfl
  exact hK w.heap.size w1 hown ((Below.refl _ _).grown hg (Nat.le_refl _) (fun k hk => by cases hk)) (Nat.le_refl _) hlt.2

/-- A cell written twice holds what was written last. -/
theorem set_twice (w : World) (a : Addr) (u v : Value) : (w.setCell a u).setCell a v = w.setCell a v := by
  unfold World.setCell
  congr 1
  apply Array.ext
  · simp
  · intro i h1 h2
    simp only [Array.getElem_modify]
    split
    · cases w.heap[i]'(by simpa using h1) <;> simp <;> split <;> simp
    · rfl

/-- The same cell written in two worlds, one as the other below. -/
theorem below_set {B : Nat} {w w' : World} (hb : Below B w w') (a : Addr) (v : Value) : Below B (w.setCell a v) (w'.setCell a v) := by
  refine ⟨hb.os, hb.tape, hb.output, by simpa [World.setCell] using hb.size, fun k hk => ?_⟩
  have h := hb.block k hk
  simp only [World.setCell, Array.getElem?_modify]
  split
  · rw [h]
  · exact h

/-- A cell written with what it holds. -/
theorem setCell_same (w : World) (a : Addr) (v : Value) (h : w.cell? a = some v) : w.setCell a v = w := by
  have key : (w.heap.modify a.block fun
      | .cells c elem frozen => .cells (if a.spot.isSome then c else c.setIfInBounds a.off v) elem frozen
      | o => o) = w.heap := by
    apply Array.ext
    · simp
    · intro i h1 h2
      simp only [Array.getElem_modify]
      split
      · rename_i hi
        subst hi
        unfold World.cell? at h
        rw [Array.getElem?_eq_getElem h2] at h
        cases ho : w.heap[a.block] with
        | cells c e f =>
          rw [ho] at h
          simp only at h ⊢
          split at h
          · cases h
          · rename_i hs
            rw [if_neg hs]
            congr 1
            apply Array.ext_getElem?
            intro j
            rw [Array.getElem?_setIfInBounds]
            split
            · rename_i hj
              subst hj
              split
              · exact h.symm
              · rename_i hn; rw [Array.getElem?_eq_none (by omega)]
            · rfl
        | _ => rw [ho] at h
      · rfl
  exact (congrArg (fun hp => ({ w with heap := hp } : World)) key)

/-! ### A slice of the call's own whose elements are slices of the call's own. -/

/-- Two owned rows of elements of two types lie in two blocks. -/
theorem own_apart {w : World} {B1 B2 : Nat} {e1 e2 : TypeId} {s1 s2 : Nat} {v1 v2 : Value} {n1 n2 : Nat} {x1 x2 : List Value} (h1 : w.ownsRow B1 e1 s1 v1 n1 x1) (h2 : w.ownsRow B2 e2 s2 v2 n2 x2) (he : e1 ≠ e2) :
    v1.ownBlock = none ∨ v1.ownBlock ≠ v2.ownBlock := by
  rcases h1.2 with ⟨rfl, _⟩ | ⟨g, cap, cur, rfl, _, hg, _⟩
  · exact .inl rfl
  · right
    rcases h2.2 with ⟨rfl, _⟩ | ⟨g', cap', cur', rfl, _, hg', _⟩
    · simp [Value.ownBlock]
    · simp only [Value.ownBlock, ne_eq, Option.some.injEq]
      intro h
      subst h
      rw [hg] at hg'
      simp only [Option.some.injEq, Obj.cells.injEq] at hg'
      exact he hg'.2.1

structure Own2 (w : World) (B : Nat) (e1 e0 : TypeId) (v : Value) (n : Nat) (vals : List Value) (xss : List (List Int)) : Prop where
  outer : w.ownsRow B e1 1 v n vals
  len : xss.length = n
  row : ∀ (i : Nat) (x : Value) (xs : List Int), vals[i]? = some x → xss[i]? = some xs → ∃ a c, x = .slice a xs.length c ∧ w.ownsRow B e0 1 (.slice a xs.length c) xs.length (ints xs)

theorem Own2.nil (w : World) (B : Nat) (e1 e0 : TypeId) : Own2 w B e1 e0 (.slice none 0 0) 0 [] [] := ⟨World.ownsRow_nil _ _ _ _, rfl, fun i x xs h => by simp at h⟩

theorem Own2.next {w w' : World} {B : Nat} {e1 e0 : TypeId} {v : Value} {n : Nat} {vals : List Value} {xss : List (List Int)} (h : Own2 w B e1 e0 v n vals xss) (hb : Below w.heap.size w w') : Own2 w' B e1 e0 v n vals xss :=
  ⟨own_next h.outer hb, h.len, fun i x xs hx hxs => by
    obtain ⟨a, c, rfl, ho⟩ := h.row i x xs hx hxs
    exact ⟨a, c, rfl, own_next ho hb⟩⟩

/-- A cell below is written: what is owned from above stays. -/
theorem Own2.set {w : World} {B : Nat} {e1 e0 : TypeId} {v : Value} {n : Nat} {vals : List Value} {xss : List (List Int)} (h : Own2 w B e1 e0 v n vals xss) {a : Addr} (ha : a.block < B) (u : Value) : Own2 (w.setCell a u) B e1 e0 v n vals xss :=
  ⟨ownsRow_setCell_below h.outer ha u, h.len, fun i x xs hx hxs => by
    obtain ⟨a', c, rfl, ho⟩ := h.row i x xs hx hxs
    exact ⟨a', c, rfl, ownsRow_setCell_below ho ha u⟩⟩

theorem Own2.sl2 {w : World} {B : Nat} {e1 e0 : TypeId} {v : Value} {n : Nat} {vals : List Value} {xss : List (List Int)} (h : Own2 w B e1 e0 v n vals xss) : ∃ a c, v = .slice a n c ∧ Sl2 w a n c vals xss := by
  obtain ⟨a, c, rfl, hs⟩ := own_sl h.outer
  refine ⟨a, c, rfl, hs, h.len, fun k x xs hx hxs => ?_⟩
  obtain ⟨a', c', rfl, ho⟩ := h.row k x xs hx hxs
  obtain ⟨a2, c2, e, hs2⟩ := own_sl ho
  simp only [Value.slice.injEq] at e
  obtain ⟨rfl, _, rfl⟩ := e
  exact ⟨a', c', rfl, hs2⟩

/-- One row more: the outer row was appended to (what else is owned stays), the new element is owned. -/
theorem Own2.push {w w1 : World} {B : Nat} {e1 e0 : TypeId} {v v' : Value} {n : Nat} {vals : List Value} {xss : List (List Int)} (h : Own2 w B e1 e0 v n vals xss) (he : e0 ≠ e1) {a : Option Addr} {c : Nat} {xs : List Int}
    (hx : w.ownsRow B e0 1 (.slice a xs.length c) xs.length (ints xs)) (hown : w1.ownsRow B e1 1 v' (n + 1) (vals ++ [.slice a xs.length c])) (hg : w.grownBy w1 v.ownBlock) : Own2 w1 B e1 e0 v' (n + 1) (vals ++ [.slice a xs.length c]) (xss ++ [xs]) := by
  have hl : vals.length = n := by have := h.outer.1; omega
  refine ⟨hown, by simp [h.len], fun i x ys hi hys => ?_⟩
  by_cases hin : i < n
  · rw [List.getElem?_append_left (by omega)] at hi
    rw [List.getElem?_append_left (by rw [h.len]; exact hin)] at hys
    obtain ⟨a', c', rfl, ho⟩ := h.row i x ys hi hys
    exact ⟨a', c', rfl, ho.kept hg (own_apart ho h.outer he)⟩
  · rw [List.getElem?_append_right (by omega)] at hi
    rw [List.getElem?_append_right (by rw [h.len]; omega)] at hys
    have e : i - vals.length = 0 := by
      have := (List.getElem?_eq_some_iff.1 hi).1
      simpa using this
    rw [e] at hi
    rw [h.len, ← hl, e] at hys
    simp only [List.getElem?_cons_zero, Option.some.injEq] at hi hys
    subst hi; subst hys
    exact ⟨a, c, rfl, hx.kept hg (own_apart hx h.outer he)⟩

end Base
end Go.Proofs.YtjmmhbmbafjneaaGreatDoor
