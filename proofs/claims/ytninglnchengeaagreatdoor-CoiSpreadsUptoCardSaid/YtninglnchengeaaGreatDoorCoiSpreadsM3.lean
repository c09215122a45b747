/-
  Several texts in one (written by merge2.py): XSprW XSlfS XRefBits XSimBitsT XSprR XHeldTo XHeldBr XSprT XBadP XBadQ XRefVar XInitial XBadS1 XPathP XSprP XLitsIn XBadT
-/
import Derived.Test.YtninglnchengeaaGreatDoorCoiSpreadsM2
import Derived.Test.YtninglnchengeaaGreatDoorCoiSpreadsM1
import Derived.Test.YtninglnchengeaaGreatDoorSlfI
import Derived.Test.YtninglnchengeaaGreatDoorCBox
import Derived.Laws.IdiomStrings
import Derived.Test.YtninglnchengeaaGreatDoorBase
import Derived.Shelf.Abstract
import Derived.Test.YtninglnchengeaaGreatDoorLaws
import Derived.Test.YtninglnchengeaaGreatDoorWfC
import Derived.Test.YtninglnchengeaaGreatDoorLex
import Derived.OrdersHeld
import Derived.Tactics
import Derived.Test.YtninglnchengeaaGreatDoorGateP
import Derived.Test.YtninglnchengeaaGreatDoorCheckP
import Derived.Test.YtninglnchengeaaGreatDoorRefCheck
/-
  coi's spread, zeros, latchLits, beyond; slices.Index, told whole.
-/
namespace Go.Proofs.YtninglnchengeaaGreatDoor
open Go.RowKit Base
set_option linter.unusedVariables false
set_option linter.unusedSimpArgs false
namespace Spr
open Circuit StrashP

set_option maxHeartbeats 1000000 in
theorem index2_any (w : World) (a : Option Addr) (n c : Nat) (xs : List Int) (hsl : Sl w a n c (ints xs)) (x : Int) :
    Calls Tryz.prog 49 #[.slice a n c, .int .i64 x] w fun e w' => (∃ i : Int, e = .returned (.int .i64 i) ∧ ((∃ k : Nat, i = k ∧ xs[k]? = some x) ∨ (i = -1 ∧ x ∉ xs))) ∧ w = w' := by
  have HL : Hid (xs.length = n) := by have := hsl.len; rwa [ints_len] at this
  have hcap := hsl.cap
  have hbig := hsl.big
  have HSL := Lib.hid hsl
  clear hsl
  go_enter Tryz.func49, Tryz.ntmps49
  go_wp2
  go_loop [4, 8] (fun _ i => ∃ k : Nat, k ≤ n ∧ i = .int .i64 k ∧ Hid (decide (x ∈ xs.take k) = false)) (fun _ i => n - (Go.RowKit.intOf i).toNat)
  case atStart => exact ⟨0, Nat.zero_le _, rfl, by show _ = _; simp⟩
  case round =>
    obtain ⟨k, hk, rfl, hI⟩ := hrel
    by_cases hlt : k < n
    · obtain ⟨b, o, hx, rfl, hbs, hc⟩ := HSL.out.int hlt
      generalize hp : xs[k] = p at *
      have HP := Lib.hid hp
      clear hp
      by_cases hq : x = p
      · have v0 : (x == p) = true := by simp [hq]
        have HF : Hid (xs[k]? = some x) := by
          show _ = _
          rw [List.getElem?_eq_getElem hx, hq, ← HP.out]
        clear hq
        go_wp2
        go_ret
        exact ⟨⟨_, rfl, Or.inl ⟨k, rfl, HF.out⟩⟩, rfl⟩
      · have v0 : (x == p) = false := by simp [hq]
        have HF : Hid (decide (x ∈ xs.take (k + 1)) = false) := Cont.idx_take hx hI.out (by rw [HP.out]; exact fun e => hq e.symm)
        clear hq
        go_wp2
        go_round
        case rel => exact ⟨k + 1, by omega, by go_num, HF⟩
        case measure => simp [Go.RowKit.intOf]; omega
    · have HF : Hid (decide (x ∈ xs) = false) := by
        show _ = _
        have h := hI.out
        rwa [List.take_of_length_le (by have := HL.out; omega)] at h
      go_wp2
      go_ret
      exact ⟨⟨_, rfl, Or.inr ⟨rfl, of_decide_eq_false HF.out⟩⟩, rfl⟩

def bytesL (R : List UInt8) : List Value := R.map fun b => .int .u8 (b.toNat : Int)
theorem bytesL_get {R : List UInt8} {j : Nat} {b : UInt8} (h : R[j]? = some b) : (bytesL R)[j]? = some (.int .u8 (b.toNat : Int)) := by unfold bytesL; rw [List.getElem?_map, h]; rfl
theorem bytesL_set (R : List UInt8) (j : Nat) (b : UInt8) : (bytesL R).set j (.int .u8 (b.toNat : Int)) = bytesL (R.set j b) := by unfold bytesL; rw [List.map_set]
/-- The bits of some literals, among others. -/
structure Among (dst src : List Int) (bits rest R : List UInt8) (k : Nat) : Prop where
  len : R.length = rest.length
  at' : ∀ (i : Nat) (l : Int), i < k → dst[i]? = some l → (∃ j : Nat, src[j]? = some l ∧ R[i]? = bits[j]?) ∨ (l ∉ src ∧ R[i]? = rest[i]?)
  old : ∀ i : Nat, k ≤ i → R[i]? = rest[i]?
theorem among_start (dst src : List Int) (bits rest : List UInt8) : Among dst src bits rest rest 0 := ⟨rfl, fun i l h => by omega, fun _ _ => rfl⟩
theorem among_no {dst src : List Int} {bits rest R : List UInt8} {k : Nat} (h : Among dst src bits rest R k) {x : Int} (hx : dst[k]? = some x) (hn : x ∉ src) : Among dst src bits rest R (k + 1) :=
  ⟨h.len, fun i l hi hl => by
    by_cases e : i = k
    · subst e
      rw [hx] at hl
      cases hl
      exact Or.inr ⟨hn, h.old i (Nat.le_refl _)⟩
    · exact h.at' i l (by omega) hl, fun i hi => h.old i (by omega)⟩
theorem among_yes {dst src : List Int} {bits rest R : List UInt8} {k : Nat} (h : Among dst src bits rest R k) (hk : k < rest.length) {x : Int} (hx : dst[k]? = some x) {j : Nat} (hj : src[j]? = some x) {b : UInt8} (hb : bits[j]? = some b) : Among dst src bits rest (R.set k b) (k + 1) := by
  have get : ∀ i : Nat, (R.set k b)[i]? = if k = i then some b else R[i]? := fun i => by
    rw [List.getElem?_set]
    by_cases e : k = i
    · rw [if_pos e, if_pos e, if_pos (by rw [h.len]; omega)]
    · rw [if_neg e, if_neg e]
  refine ⟨by rw [List.length_set]; exact h.len, fun i l hi hl => ?_, fun i hi => ?_⟩
  · rw [get]
    by_cases e : k = i
    · subst e
      rw [hx] at hl
      cases hl
      exact Or.inl ⟨j, hj, by rw [if_pos rfl, hb]⟩
    · rw [if_neg e]
      exact h.at' i l (by omega) hl
  · rw [get, if_neg (by omega)]
    exact h.old i (by omega)

set_option maxRecDepth 8000 in
set_option maxHeartbeats 4000000 in
theorem spread_any (w : World) (a1 : Option Addr) (c1 : Nat) (dst : List Int) (h1 : Sl w a1 dst.length c1 (ints dst)) (a2 : Option Addr) (c2 : Nat) (src : List Int) (h2 : Sl w a2 src.length c2 (ints src)) (bits : ByteArray) (hb : bits.size = src.length)
    (g : Nat) (rest : List UInt8) (hg : BoxN g (bytesL rest) w) (hr : rest.length = dst.length) (hn1 : ∀ b o, a1 = some ⟨b, o, none⟩ → dst ≠ [] → b ≠ g) (hn2 : ∀ b o, a2 = some ⟨b, o, none⟩ → src ≠ [] → b ≠ g) (hbig : dst.length ≤ 1000000) :
    Calls Tryz.prog 18 #[.slice a1 dst.length c1, .slice a2 src.length c2, .string bits, .slice (some ⟨g, 0, none⟩) dst.length dst.length] w fun e w' => ∃ R, e = .returned (.string ⟨R.toArray⟩) ∧ Among dst src bits.data.toList rest R dst.length ∧ OffB g w w' := by
  have HG := Lib.hid hg
  have HR : Hid (rest.length = dst.length) := hr
  have HB : Hid (bits.data.toList.length = src.length) := by show _ = _; rw [Array.length_toList]; exact hb
  have hbs : bits.size = src.length := hb
  have HS1 := Lib.hid (fun (U : World) (hU : OffB g w U) => (⟨h1.len, h1.cap, h1.big, h1.bare, fun k v hv => by
    obtain ⟨b, o, ha, hs, hc⟩ := h1.cell k v hv
    exact ⟨b, o, ha, Nat.lt_of_lt_of_le hs hU.size, (World.cell?_of_block (w := w) (a := ⟨b, o + k, none⟩) (hU.block b hs (hn1 b o ha (fun e => by rw [e] at hv; simp [ints] at hv)))).trans hc⟩⟩ : Sl U a1 dst.length c1 (ints dst)))
  have HS2 := Lib.hid (fun (U : World) (hU : OffB g w U) => (⟨h2.len, h2.cap, h2.big, h2.bare, fun k v hv => by
    obtain ⟨b, o, ha, hs, hc⟩ := h2.cell k v hv
    exact ⟨b, o, ha, Nat.lt_of_lt_of_le hs hU.size, (World.cell?_of_block (w := w) (a := ⟨b, o + k, none⟩) (hU.block b hs (hn2 b o ha (fun e => by rw [e] at hv; simp [ints] at hv)))).trans hc⟩⟩ : Sl U a2 src.length c2 (ints src)))
  have hcap1 := h1.cap
  have hbig1 := h1.big
  generalize hT : dst.length = n at *
  have HTN := Lib.hid hT
  clear h1 h2 hg hr hn1 hn2 hb hT
  go_enter Tryz.func18, Tryz.ntmps18
  go_wp2_with fail
  go_loopw [14] (fun i wr => ∃ (k : Nat) (R : List UInt8), k ≤ n ∧ i = .int .i64 k ∧ Hid (Among dst src bits.data.toList rest R k) ∧ Hid (BoxN g (bytesL R) wr) ∧ Hid (OffB g w wr)) (fun i _ => n - (Go.RowKit.intOf i).toNat)
  case atStart => exact ⟨0, rest, Nat.zero_le _, rfl, among_start _ _ _ _, HG.out, OffB.refl _ _⟩
  case round =>
    obtain ⟨k, R, hk, rfl, hA, hX, hO⟩ := hrel
    by_cases hlt : k < n
    · obtain ⟨b, o, hx, rfl, hbb, d0⟩ := (HS1.out wr hO.out).int hlt
      have HX0 : Hid (dst[k]? = some dst[k]) := List.getElem?_eq_getElem hx
      generalize dst[k] = x at *
      have HIX := Lib.hid (index2_any wr a2 src.length c2 src (HS2.out wr hO.out) x)
      go_wp2_with fail
      with_reducible refine HIX.out.mono ?_
      rintro e w2 ⟨⟨i, rfl, hcase⟩, rfl⟩
      rcases hcase with ⟨j, rfl, hj⟩ | ⟨rfl, hnot⟩
      · have hjl : j < src.length := (List.getElem?_eq_some_iff.1 hj).1
        have hjb : j < bits.size := by omega
        have hjbI : (j : Int) < (bits.size : Int) := by omega
        have hjn : decide ((0 : Int) ≤ (j : Int)) = true := decide_eq_true (by omega)
        have HBJ : Hid (bits.data.toList[j]? = some bits[j]) := List.getElem?_eq_getElem (by rw [Array.length_toList]; exact hjb)
        have hkr : k < rest.length := by rw [HR.out]; exact hlt
        have HA2 := Lib.hid (among_yes hA.out hkr HX0.out hj HBJ.out)
        obtain ⟨v0, hv0⟩ : ∃ v, R[k]? = some v := ⟨_, List.getElem?_eq_getElem (by rw [hA.out.len]; exact hkr)⟩
        have e0 := hX.out.at' k _ (bytesL_get hv0)
        have z0 := hX.out.fz k
        have HX2 : Hid (BoxN g (bytesL (R.set k bits[j])) (wr.setCell ⟨g, k, none⟩ (.int .u8 (bits[j].toNat : Int)))) := by
          have h := hX.out.set k (.int .u8 (bits[j].toNat : Int))
          rw [bytesL_set] at h
          exact h
        have HO2 := Lib.hid (hO.out.set k (.int .u8 (bits[j].toNat : Int)))
        clear hj hkr hv0 hjl
        go_wp2_with fail
        go_roundw
        case rel => exact ⟨k + 1, R.set k bits[j], by omega, by go_num, HA2.out, HX2.out, HO2.out⟩
        case measure => simp [Go.RowKit.intOf]; omega
      · have HA2 := Lib.hid (among_no hA.out HX0.out hnot)
        clear hnot
        go_wp2_with fail
        go_roundw
        case rel => exact ⟨k + 1, R, by omega, by go_num, HA2.out, hX.out, hO.out⟩
        case measure => simp [Go.RowKit.intOf]; omega
    · have HE : Hid (Among dst src bits.data.toList rest R n) := by
        have e : k = n := by omega
        rw [← e]; exact hA.out
      have HRL : Hid (R.length = n) := by show _ = _; rw [hA.out.len, HR.out]
      have HCV : ∀ (l : Nat), l = n → (convert 49 9 (.slice (some ⟨g, 0, none⟩) l l)).run Tryz.prog wr = .ok (.string ⟨R.toArray⟩) wr := by
        rintro l rfl
        have h := run_convert_bytes_back (P := Tryz.prog) wr 49 9 5 ⟨g, 0, none⟩ l R Tryz.underlying49 Tryz.underlying5 Tryz.underlying9 (fun j hj => by
          rw [Addr.add_lit, Nat.zero_add]
          exact hX.out.at' j _ (bytesL_get (List.getElem?_eq_getElem hj)))
        rw [HRL.out] at h
        exact h
      have hcv := HCV n rfl
      clear HCV
      go_wp2_with fail
      go_ret
      exact ⟨R, rfl, HE.out, hO.out⟩

theorem zero_box {w : World} {B g n : Nat} {e : TypeId} {vs : List Value} (h : w.ownsRow B e 1 (.slice (some ⟨g, 0, none⟩) n n) n vs) : BoxN g vs w := by
  have hs := own_sl' h
  obtain ⟨_, h2⟩ := h
  rcases h2 with ⟨h3, _⟩ | ⟨g', cap, cur, hv, _, hh, _, _, hcur, ht⟩
  · cases h3
  · simp only [Value.slice.injEq, Option.some.injEq, Addr.mk.injEq] at hv
    obtain ⟨⟨rfl, _⟩, _, rfl⟩ := hv
    refine ⟨(Array.getElem?_eq_some_iff.1 hh).1, fun j u hu => ?_, fun j => by simp [World.frozen?, hh]⟩
    obtain ⟨b, o, ha, hb, hc⟩ := hs.cell j u hu
    simp only [Option.some.injEq, Addr.mk.injEq, and_true] at ha
    obtain ⟨rfl, rfl⟩ := ha
    rw [Nat.zero_add] at hc
    exact hc
set_option maxHeartbeats 1000000 in
theorem zeros_any (w : World) (n : Nat) (hn : n ≤ 1000000) :
    Calls Tryz.prog 17 #[.int .i64 n] w fun e w' => ∃ g, e = .returned (.slice (some ⟨g, 0, none⟩) n n) ∧ BoxN g (bytesL (List.replicate n 48)) w' ∧ w.heap.size ≤ g ∧ Below w.heap.size w w' := by
  obtain ⟨W1, hW1⟩ : ∃ U, w.alloc (.cells #[.int .u8 48] 5) = U := ⟨_, rfl⟩
  have hb1 : Below w.heap.size w W1 := by rw [← hW1]; exact (Below.refl _ _).alloc (Nat.le_refl _) _
  have hs1 : Sl W1 (some ⟨w.heap.size, 0, none⟩) 1 1 [.int .u8 48] := by rw [← hW1]; exact sl_new w #[.int .u8 48] 5 1 rfl (by decide)
  have HRP := Lib.hid (Repeat.repeat_any W1 w.heap.size 0 1 hs1 n hn)
  have HB1 := Lib.hid hb1
  clear hb1 hs1
  go_enter Tryz.func17, Tryz.ntmps17
  go_wp2_with fail
  clear hW1
  with_reducible refine HRP.out.mono ?_
  rintro e w2 ⟨g, rfl, ho, hb2⟩
  have HO := Lib.hid ho
  have HGE : Hid (w.heap.size ≤ g) := Nat.le_trans HB1.out.size (ho.lt g rfl).1
  have HB2 := Lib.hid (HB1.out.trans (hb2.mono HB1.out.size))
  clear ho hb2
  go_wp2_with fail
  go_ret
  refine ⟨g, rfl, ?_, HGE.out, HB2.out⟩
  have h := zero_box HO.out
  have e : bytesL (List.replicate n 48) = List.replicate n (.int .u8 48) := by unfold bytesL; rw [List.map_replicate]; rfl
  rw [e]; exact h

theorem info_iS : (Tryz.prog.info? 3).map (fun i => (i.zero, i.size, i.bytes)) = some (some (.int .i64 0), 1, 8) := by kernel_rfl
set_option maxRecDepth 8000 in
set_option maxHeartbeats 4000000 in
theorem latchLits_any (w : World) (x : Circ) (p : At) (hin : InCirc w x p) (hbig : x.lats.length ≤ 1000000) :
    Calls Tryz.prog 19 #[.agg (cells x p)] w fun e w' => ∃ a c, e = .returned (.slice a x.lats.length c) ∧ w'.ownsRow w.heap.size 3 1 (.slice a x.lats.length c) x.lats.length (ints (x.lats.map (·.1))) ∧ Below w.heap.size w w' := by
  obtain ⟨W1, hW1⟩ : ∃ U, w.alloc (.cells (cells x p) 27) = U := ⟨_, rfl⟩
  obtain ⟨hb1, hx1⟩ := cbox_new w x p W1 hW1
  have HB1 := Lib.hid hb1
  have HL := Lib.hid (hin.next hb1).lats
  have hcap := hin.lats.cap
  have hbg := hin.lats.big
  have k2 := hx1.k2
  obtain ⟨a1, c1, a2, c2, a3, c3, a4, c4, a5, c5, a6, c6, a7, c7⟩ := p
  simp only [cells] at *
  clear hin hb1 hx1
  generalize hN : x.lats.length = n at *
  have HN := Lib.hid hN
  clear hN
  go_enter Tryz.func19, Tryz.ntmps19
  go_wp2_with fail
  clear hW1 k2
  go_loopw [3, 9] (fun s i wr => ∃ (k : Nat) (a : Option Addr) (c : Nat), k ≤ n ∧ i = .int .i64 k ∧ s = .slice a k c ∧ Hid (wr.ownsRow W1.heap.size 3 1 (.slice a k c) k (ints ((x.lats.take k).map (·.1)))) ∧ Hid (Below W1.heap.size W1 wr)) (fun _ i _ => n - (Go.RowKit.intOf i).toNat)
  case atStart => exact ⟨0, none, 0, Nat.zero_le _, rfl, rfl, World.ownsRow_nil _ _ _ _, Below.refl _ _⟩
  case round =>
    obtain ⟨k, a, c, hk, rfl, rfl, hO, hB⟩ := hrel
    by_cases hlt : k < n
    · obtain ⟨b, o, hx, hae, hbs, d0, d1, d2⟩ := (HL.out.next hB.out).tri hlt
      try simp only at hae
      subst hae
      have HNX : Hid (ints ((x.lats.take (k + 1)).map (·.1)) = ints ((x.lats.take k).map (·.1)) ++ [.int .i64 x.lats[k].1]) := by
        show _ = _
        rw [List.take_succ_eq_append_getElem hx, List.map_append]
        unfold ints
        rw [List.map_append]; rfl
      generalize x.lats[k] = t at *
      obtain ⟨W2, hW2⟩ : ∃ U, wr.alloc (.cells #[.int .i64 t.1, .int .i64 t.2.1, .int .i64 t.2.2] 37) = U := ⟨_, rfl⟩
      have hb2 : Below wr.heap.size wr W2 := by rw [← hW2]; exact (Below.refl _ _).alloc (Nat.le_refl _) _
      have hown := own_next hO.out hb2
      have hbb := hB.out.trans (hb2.mono hB.out.size)
      have hsz := hbb.size
      have y0 : W2.cell? ⟨wr.heap.size, 0, none⟩ = some (.int .i64 t.1) := by rw [← hW2]; simp [go_sem]
      have HW2 := Lib.hid hW2
      clear hb2 hW2
      go_upto_region 5 with fail
      try rw [HW2.out]
      go_wp2_with ((with_reducible refine wpL_push (B := W1.heap.size) _ (.int .i64 t.1) _ k (ints ((x.lats.take k).map (·.1))) info_iS Tryz.underlying22 ?_ ?_ ?_ ?_ ?_ hown ?_ ?_ ?_ hbb ?_); rfl; rfl; rfl; rfl; rfl; (exact hsz); omega; omega; (intro a5 c5 w5 hown5 hb5 hs5))
      have HO5 : Hid (w5.ownsRow W1.heap.size 3 1 (.slice a5 (k + 1) c5) (k + 1) (ints ((x.lats.take (k + 1)).map (·.1)))) := by show World.ownsRow _ _ _ _ _ _ _; rw [HNX.out]; exact hown5
      have HB5 := Lib.hid hb5
      clear hown hbb hsz hown5 hb5 hs5 y0
      go_roundw
      case rel => exact ⟨k + 1, a5, c5, by omega, by go_num, rfl, HO5.out, HB5.out⟩
      case measure => simp [Go.RowKit.intOf]; omega
    · have e : k = n := by omega
      subst e
      have HE : Hid (x.lats.take k = x.lats) := List.take_of_length_le (by have := HN.out; omega)
      rw [HE.out] at hO
      go_wp2_with fail
      go_ret
      exact ⟨a, c, rfl, own_mono hO.out HB1.out.size, HB1.out.trans (hB.out.mono HB1.out.size)⟩

theorem eg_bey : SlfI.Enters 78 := enters_of Tryz.func78 (by kernel_rfl) rfl
set_option maxHeartbeats 1000000 in
theorem bey1_any (w : World) (N : Nat) (a : Option Addr) (n c : Nat) (some_ : List Int) (hc : w.cell? ⟨N, 0, none⟩ = some (.slice a n c)) (hs : Sl w a n c (ints some_)) (x : Int) :
    Calls Tryz.prog 78 #[.int .i64 x, .pointer (some ⟨N, 0, none⟩)] w fun e w' => e = .returned (.bool (!decide (x ∈ some_))) ∧ Below w.heap.size w w' := by
  have HC := Lib.hid (Cont.contains_any w a n c some_ hs x)
  clear hs
  generalize decide (x ∈ some_) = q at *
  go_enter Tryz.func78, Tryz.ntmps78
  go_wp2_with fail
  with_reducible refine HC.out.mono ?_
  rintro e w1 ⟨rfl, rfl⟩
  go_wp2_with fail
  go_ret
  exact ⟨rfl, Below.refl _ _⟩
def beyondB (l some_ : List Int) : Bool := l.any fun x => !decide (x ∈ some_)
set_option maxHeartbeats 1000000 in
theorem beyond_any (w : World) (a1 : Option Addr) (n1 c1 : Nat) (l : List Int) (h1 : Sl w a1 n1 c1 (ints l)) (a2 : Option Addr) (n2 c2 : Nat) (some_ : List Int) (h2 : Sl w a2 n2 c2 (ints some_)) :
    Calls Tryz.prog 44 #[.slice a1 n1 c1, .slice a2 n2 c2] w fun e w' => e = .returned (.bool (beyondB l some_)) ∧ Below w.heap.size w w' := by
  obtain ⟨W1, hW1⟩ : ∃ U, w.alloc (.cells #[.slice a2 n2 c2] 22) = U := ⟨_, rfl⟩
  have hb1 : Below w.heap.size w W1 := by rw [← hW1]; exact (Below.refl _ _).alloc (Nat.le_refl _) _
  have hz : w.heap.size < W1.heap.size := by rw [← hW1]; simp
  have k0 : W1.cell? ⟨w.heap.size, 0, none⟩ = some (.slice a2 n2 c2) := by rw [← hW1]; simp [go_sem]
  have hl : (ints l).length = n1 := h1.len
  have HCF := SlfI.containsFunc W1 a1 n1 c1 (ints l) 78 #[] #[.pointer (some ⟨w.heap.size, 0, none⟩)] (l.map fun x => !decide (x ∈ some_)) (h1.next hb1) (by rw [List.length_map]; rw [ints_len] at hl; exact hl) eg_bey (by
    intro V hV j y q hy hq
    unfold ints at hy
    rw [List.getElem?_map, Option.map_eq_some_iff] at hy hq
    obtain ⟨v, hv, rfl⟩ := hy
    obtain ⟨v2, hv2, rfl⟩ := hq
    rw [hv] at hv2
    cases hv2
    exact bey1_any V w.heap.size a2 n2 c2 some_ ((hV.cell (p := ⟨w.heap.size, 0, none⟩) hz).trans k0) ((h2.next hb1).next hV) v)
  have e : (l.map fun x => !decide (x ∈ some_)).any id = beyondB l some_ := by unfold beyondB; rw [List.any_map]; rfl
  rw [e] at HCF
  have HC := Lib.hid HCF
  have HB1 := Lib.hid hb1
  clear HCF hb1 k0 h1 h2 hl e
  go_enter Tryz.func44, Tryz.ntmps44
  go_wp2_with fail
  clear hW1
  with_reducible refine HC.out.mono ?_
  rintro e w2 ⟨rfl, hb2⟩
  have HB2 := Lib.hid (HB1.out.trans (hb2.mono HB1.out.size))
  clear hb2
  go_wp2_with fail
  go_ret
  exact ⟨rfl, HB2.out⟩
end Spr
end Go.Proofs.YtninglnchengeaaGreatDoor

/-
  slices.IndexFunc and slices.ContainsFunc of []string, whatever predicate is handed over: ps says of each element what the predicate gives.
-/
namespace Go.Proofs.YtninglnchengeaaGreatDoor
open Go.RowKit Base
set_option linter.unusedVariables false
namespace SlfS

/-- A function value gives ps of the elements, and turns nothing that is there. -/
def Gives (w : World) (g : FuncId) (fs lb : Array Value) (vs : List Value) (ps : List Bool) : Prop :=
  ∀ W, Below w.heap.size w W → ∀ (k : Nat) (v : Value) (b : Bool), vs[k]? = some v → ps[k]? = some b → Calls Tryz.prog g (fs.push v ++ lb) W fun e w' => e = .returned (.bool b) ∧ Below W.heap.size W w'

def Enters (g : FuncId) : Prop := ∀ args w, (callFunc g args).run Tryz.prog w = .ok (.enter g args) w

theorem idx_hit (ps : List Bool) (k : Nat) (h : ps[k]? = some true) : idx id (ps.drop k) k = k := by
  obtain ⟨hk, e⟩ := List.getElem?_eq_some_iff.1 h
  rw [List.drop_eq_getElem_cons hk]; unfold idx; rw [e]; rfl
theorem idx_miss (ps : List Bool) (k : Nat) (h : ps[k]? = some false) : idx id (ps.drop k) k = idx id (ps.drop (k + 1)) (k + 1) := by
  obtain ⟨hk, e⟩ := List.getElem?_eq_some_iff.1 h
  rw [List.drop_eq_getElem_cons hk]
  show (if id ps[k] = true then _ else _) = _
  rw [e]; rfl

set_option maxHeartbeats 1000000 in
theorem indexFunc (w : World) (a : Option Addr) (n c : Nat) (vs : List Value) (g : FuncId) (fs lb : Array Value) (ps : List Bool)
    (hs : Sl w a n c vs) (hps : ps.length = n) (eg : Enters g) (hg : Gives w g fs lb vs ps) :
    Calls Tryz.prog 81 #[.slice a n c, .func (.func g) fs lb] w fun e w' => e = .returned (.int .i64 (idx id ps 0)) ∧ Below w.heap.size w w' := by
  have hcap := hs.cap
  have hbig := hs.big
  have HPS := Lib.hid hps
  have HG := Lib.hid hg
  clear hg hps
  unfold Enters at eg
  go_enter Tryz.func81, Tryz.ntmps81
  go_wp2
  go_loopw [5, 8] (fun _ i wr => ∃ k : Nat, k ≤ n ∧ i = .int .i64 k ∧ Below w.heap.size w wr ∧ Hid (idx id ps 0 = idx id (ps.drop k) k)) (fun _ i _ => n - (intOf i).toNat)
  case atStart => exact ⟨0, Nat.zero_le _, rfl, Below.refl _ _, rfl⟩
  case round =>
    obtain ⟨k, hk, rfl, hb, hI⟩ := hrel
    by_cases hlt : k < n
    · obtain ⟨b, o, v, rfl, hbs, hv, hc⟩ := hs.at hlt
      have hcr : wr.cell? ⟨b, o + k, none⟩ = some v := (hb.cell (p := ⟨b, o + k, none⟩) hbs).trans hc
      have HV := Lib.hid hv
      clear hc hv
      obtain ⟨q, hq⟩ : ∃ q, ps[k]? = some q := ⟨_, List.getElem?_eq_getElem (by have := HPS.out; omega)⟩
      have HQ := Lib.hid hq
      clear hq
      cases q
      all_goals
        go_wp2_with fail
        refine (HG.out wr hb k v _ HV.out HQ.out).mono ?_
        rintro e w1 ⟨rfl, hb1⟩
        go_wp2_with fail
      · go_roundw
        case rel => exact ⟨k + 1, by omega, by go_num, hb.trans (hb1.mono hb.size), hI.out.trans (idx_miss ps k HQ.out)⟩
        case measure => simp [intOf]; omega
      · go_ret
        exact ⟨ret_int (by rw [hI.out, idx_hit ps k HQ.out]), hb.trans (hb1.mono hb.size)⟩
    · go_wp2
      go_ret
      exact ⟨ret_int (by rw [hI.out, List.drop_of_length_le (by rw [HPS.out]; omega)]; rfl), hb⟩

set_option maxHeartbeats 400000 in
theorem containsFunc (w : World) (a : Option Addr) (n c : Nat) (vs : List Value) (g : FuncId) (fs lb : Array Value) (ps : List Bool)
    (hs : Sl w a n c vs) (hps : ps.length = n) (eg : Enters g) (hg : Gives w g fs lb vs ps) :
    Calls Tryz.prog 46 #[.slice a n c, .func (.func g) fs lb] w fun e w' => e = .returned (.bool (ps.any id)) ∧ Below w.heap.size w w' := by
  have H := Lib.hid (indexFunc w a n c vs g fs lb ps hs hps eg hg)
  clear hg hs eg hps
  go_enter Tryz.func46, Tryz.ntmps46
  go_wp2_with fail
  refine H.out.mono ?_
  rintro e w1 ⟨rfl, hb1⟩
  generalize hq : idx id ps 0 = q
  have HQ := Lib.hid hq
  clear hq
  go_wp2_with fail
  go_ret
  exact ⟨ret_bool (by rw [← idx_nn id ps 0, HQ.out]), hb1⟩
end SlfS
end Go.Proofs.YtninglnchengeaaGreatDoor

/-
  interlockref07.Bits: is a text so many bits?
-/
namespace Go.Proofs.YtninglnchengeaaGreatDoor
open Go.RowKit Base
set_option linter.unusedVariables false
namespace RefBits

def bit (c : UInt8) : Bool := c == 48 || c == 49
def bits (s : List UInt8) (n : Int) : Bool := s.all bit && decide ((s.length : Int) = n)

theorem all_take_more {s : ByteArray} {k : Nat} (hk : k < s.size) (h : (s.data.toList.take k).all bit = true) (hb : bit s[k] = true) : (s.data.toList.take (k + 1)).all bit = true := by
  have e : s.data.toList.take (k + 1) = s.data.toList.take k ++ [s[k]] := by
    rw [List.take_succ_eq_append_getElem (by simpa using hk)]; rfl
  rw [e, List.all_append, h]
  simp [hb]

theorem all_no {s : ByteArray} {k : Nat} (hk : k < s.size) (hb : bit s[k] = false) : s.data.toList.all bit = false := by
  rw [List.all_eq_false]
  refine ⟨s[k], ?_, by simp [hb]⟩
  have : s[k] = s.data.toList[k]'(by simpa using hk) := rfl
  rw [this]
  exact List.getElem_mem _

set_option maxHeartbeats 1000000 in
theorem bits_any (w : World) (s : ByteArray) (hs : s.size ≤ 9223372036854775807) (n : Int) :
    Calls Tryz.prog 8 #[.string s, .int .i64 n] w fun e w' => e = .returned (.bool (bits s.data.toList n)) ∧ w = w' := by
  go_enter Tryz.func8, Tryz.ntmps8
  go_wp2
  go_loop [5] (fun i => ∃ k : Nat, k ≤ s.size ∧ i = .int .i64 k ∧ Hid ((s.data.toList.take k).all bit = true)) (fun i => s.size - (intOf i).toNat)
  case atStart => exact ⟨0, Nat.zero_le _, rfl, rfl⟩
  case round =>
    obtain ⟨k, hk, rfl, hI⟩ := hrel
    by_cases hlt : k < s.size
    · generalize hq : s[k] = q at *
      have HQ := Lib.hid hq
      have hix : s[k] = q := hq
      by_cases h0 : q = 48
      · have v0 : ((q.toNat : Int) != 48) = false := by rw [h0]; rfl
        have H0 := Lib.hid h0
        clear h0 hq
        go_wp2
        go_round
        case rel => exact ⟨k + 1, by omega, by go_num, all_take_more hlt hI.out (by rw [HQ.out, H0.out]; rfl)⟩
        case measure => simp [intOf]; omega
      · have v0 : ((q.toNat : Int) != 48) = true := by have := byte_ne q 48 h0; simp only [bne]; rw [show (48 : Int) = ((48 : UInt8).toNat : Int) from rfl, this]; rfl
        by_cases h1 : q = 49
        · have v1 : ((q.toNat : Int) != 49) = false := by rw [h1]; rfl
          have H0 := Lib.hid h1
          clear h0 h1 hq
          go_wp2
          go_round
          case rel => exact ⟨k + 1, by omega, by go_num, all_take_more hlt hI.out (by rw [HQ.out, H0.out]; rfl)⟩
          case measure => simp [intOf]; omega
        · have v1 : ((q.toNat : Int) != 49) = true := by have := byte_ne q 49 h1; simp only [bne]; rw [show (49 : Int) = ((49 : UInt8).toNat : Int) from rfl, this]; rfl
          have HB := Lib.hid (show bit q = false by unfold bit; simp [h0, h1])
          clear h0 h1 hq
          go_wp2
          go_ret
          exact ⟨ret_bool (by unfold bits; rw [all_no hlt (by rw [HQ.out]; exact HB.out)]; rfl), rfl⟩
    · go_wp2
      go_ret
      have e : s.data.toList.take k = s.data.toList := List.take_of_length_le (by simp; omega)
      refine ⟨ret_bool ?_, rfl⟩
      unfold bits
      rw [← e, hI.out, e]
      have : (s.data.toList.length : Int) = s.size := by simp
      rw [this]
      rfl
end RefBits
end Go.Proofs.YtninglnchengeaaGreatDoor

/-
  sim.Bits: is a text so many bits?
-/
namespace Go.Proofs.YtninglnchengeaaGreatDoor
open Go.RowKit Base
set_option linter.unusedVariables false
set_option linter.unusedSimpArgs false
namespace SimBits

theorem drop_all {α : Type} {p : α → Bool} {L : List α} (h : ∀ x ∈ L.dropWhile p, p x = true) : ∀ x ∈ L, p x = true := by
  induction L with
  | nil => intro x hx; cases hx
  | cons a t ih =>
    rw [List.dropWhile_cons] at h
    by_cases hp : p a = true
    · rw [if_pos hp] at h
      intro x hx
      rcases List.mem_cons.1 hx with rfl | hx
      · exact hp
      · exact ih h x hx
    · rw [if_neg hp] at h
      exact absurd (h a List.mem_cons_self) hp
theorem drop_nil {α : Type} {p : α → Bool} {L : List α} (h : ∀ x ∈ L, p x = true) : L.dropWhile p = [] := by
  induction L with
  | nil => rfl
  | cons a t ih =>
    rw [List.dropWhile_cons, if_pos (h a List.mem_cons_self)]
    exact ih fun x hx => h x (List.mem_cons_of_mem _ hx)
theorem drop_ne {α : Type} {p : α → Bool} {L : List α} (h : L.dropWhile p = []) : ∀ x ∈ L, p x = true := drop_all (by rw [h]; intro x hx; cases hx)

theorem set_bit (c : UInt8) : ([48, 49] : List UInt8).contains c = RefBits.bit c := by
  unfold RefBits.bit
  simp only [List.contains_cons, List.contains_nil, Bool.or_false]

theorem trim_all {l : List UInt8} (h : l.all RefBits.bit = true) : Lib.trimS l [48, 49] = [] := by
  rw [List.all_eq_true] at h
  unfold Lib.trimS Lib.trimLeftS Lib.trimRightS
  rw [drop_nil (L := l.reverse) (fun x hx => by rw [set_bit]; exact h x (List.mem_reverse.1 hx))]
  rfl
theorem trim_not {l : List UInt8} (h : Lib.trimS l [48, 49] = []) : l.all RefBits.bit = true := by
  rw [List.all_eq_true]
  unfold Lib.trimS Lib.trimLeftS Lib.trimRightS at h
  have h1 := drop_ne h
  intro x hx
  rw [← set_bit]
  exact drop_all (p := fun c => ([48, 49] : List UInt8).contains c) (L := l.reverse) (fun y hy => h1 y (List.mem_reverse.2 hy)) x (List.mem_reverse.2 hx)

set_option maxHeartbeats 1000000 in
theorem bits_any (w : World) (s : ByteArray) (hs : s.size ≤ 9223372036854775807) (n : Int) :
    Calls Tryz.prog 45 #[.string s, .int .i64 n] w fun e w' => e = .returned (.bool (RefBits.bits s.data.toList n)) ∧ Below w.heap.size w w' := by
  have HT := Lib.hid (LayB.trim_any s w hs)
  have hl : (s.data.toList.length : Int) = s.size := by rw [Array.length_toList]; rfl
  have HB : Hid (RefBits.bits s.data.toList n = (s.data.toList.all RefBits.bit && decide ((s.size : Int) = n))) := by show _ = _; unfold RefBits.bits; rw [hl]
  have HA := Lib.hid (fun h => trim_all (l := s.data.toList) h)
  have HN := Lib.hid (fun h => trim_not (l := s.data.toList) h)
  clear hl
  generalize RefBits.bits s.data.toList n = B at *
  generalize hab : s.data.toList.all RefBits.bit = ab at *
  generalize Lib.trimS s.data.toList [48, 49] = T at *
  by_cases hn : (s.size : Int) = n
  · have hv : ((s.size : Int) == n) = true := by simp [hn]
    cases ab
    · have hT : T ≠ [] := fun e => by have := HN.out e; cases this
      have hd2 : (⟨T.toArray⟩ : ByteArray).toList.isEmpty = false := by
        rw [Lib.toList_data]
        show T.toArray.toList.isEmpty = false
        cases T with
        | nil => exact absurd rfl hT
        | cons _ _ => rfl
      have HV : Hid (B = false) := by show _ = _; rw [HB.out]; rfl
      generalize (⟨T.toArray⟩ : ByteArray) = R at *
      clear hT hn
      go_enter Tryz.func45, Tryz.ntmps45
      go_wp2_with fail
      with_reducible refine HT.out.mono ?_
      rintro e w1 ⟨rfl, hb1⟩
      go_wp2_with fail
      go_ret
      exact ⟨by rw [HV.out]; rfl, hb1⟩
    · have hT : T = [] := HA.out rfl
      subst hT
      have HV : Hid (B = true) := by show _ = _; rw [HB.out, decide_eq_true hn]; rfl
      clear hn
      go_enter Tryz.func45, Tryz.ntmps45
      go_wp2_with fail
      with_reducible refine HT.out.mono ?_
      rintro e w1 ⟨rfl, hb1⟩
      go_wp2_with fail
      go_ret
      exact ⟨by rw [HV.out]; rfl, hb1⟩
  · have hv : ((s.size : Int) == n) = false := by simp [hn]
    have HV : Hid (B = false) := by show _ = _; rw [HB.out, decide_eq_false hn, Bool.and_false]
    clear hn
    go_enter Tryz.func45, Tryz.ntmps45
    go_wp2_with fail
    go_ret
    exact ⟨by rw [HV.out]; rfl, Below.refl _ _⟩
end SimBits
end Go.Proofs.YtninglnchengeaaGreatDoor

/-
  coi.right (written by spreads.py).
-/
namespace Go.Proofs.YtninglnchengeaaGreatDoor
open Go.RowKit Base
set_option linter.unusedVariables false
set_option linter.unusedSimpArgs false
namespace Spr
open Circuit StrashP

noncomputable def partB (x y : Circ) : Bool := !(beyondB y.ins x.ins || beyondB (y.lats.map (·.1)) (x.lats.map (·.1)))
def bitsB (y : Circ) (st : ByteArray) (inp : List ByteArray) : Bool := RefBits.bits st.data.toList y.lats.length && inp.all fun s => RefBits.bits s.data.toList y.ins.length
noncomputable def rightE (x y : Circ) (st : ByteArray) (inp : List ByteArray) : Int :=
  if (tt (CheckOk x) && tt (CheckOk y)) = false then 9 else if partB x y = false then 23 else if bitsB y st inp = false then 5 else 0
theorem call_keep {P : Program} {f : FuncId} {args : Array Value} {v : Value} {S : World → Prop} (hc : ∀ U, S U → Calls P f args U fun e U' => e = .returned v ∧ Below U.heap.size U U') (hs : ∀ U U', S U → Below U.heap.size U U' → S U') :
    ∀ U, S U → Calls P f args U fun e U' => e = .returned v ∧ S U' := fun U hU => (hc U hU).mono fun e U' h => ⟨h.1, hs U U' hU h.2⟩
theorem chk_tt (x : Circ) : chk x = if tt (CheckOk x) = true then 0 else 9 := rfl
theorem eg_r1 : SlfS.Enters 47 := enters_of Tryz.func47 (by kernel_rfl) rfl
set_option maxHeartbeats 1000000 in
theorem r1_any (w : World) (N : Nat) (y : Circ) (q : At) (hB : CBox N y q w) (hin : InCirc w y q) (s : ByteArray) (hs : s.size ≤ 9223372036854775807) :
    Calls Tryz.prog 47 #[.string s, .pointer (some ⟨N, 0, none⟩)] w fun e w' => e = .returned (.bool (!RefBits.bits s.data.toList y.ins.length)) ∧ Below w.heap.size w w' := by
  have HC := Lib.hid (SimBits.bits_any w s hs (y.ins.length : Int))
  have k1 := hB.k1
  have hc := hin.ins.cap
  have hb := hin.ins.big
  clear hB hin hs
  generalize RefBits.bits s.data.toList (y.ins.length : Int) = b at *
  go_enter Tryz.func47, Tryz.ntmps47
  go_wp2_with fail
  with_reducible refine HC.out.mono ?_
  rintro e w1 ⟨rfl, hb1⟩
  have HB1 := Lib.hid hb1
  clear hb1
  go_wp2_with fail
  go_ret
  exact ⟨rfl, HB1.out⟩

set_option maxRecDepth 8000 in
set_option maxHeartbeats 16000000 in
theorem right_any (w : World) (x : Circ) (p : At) (hin : InCirc w x p) (hw : WfC x) (y : Circ) (q : At) (hiq : InCirc w y q) (hyw : WfC y) (bad : Int) (st : ByteArray) (hst : st.size ≤ 9223372036854775807)
    (aI : Option Addr) (cI : Nat) (inp : List ByteArray) (hI : Sl w aI inp.length cI (inp.map Value.string)) (hIz : ∀ s ∈ inp, s.size ≤ 9223372036854775807) :
    Calls Tryz.prog 16 #[.agg (cells x p), .agg (cells y q), .agg #[.int .i64 bad, .string st, .slice aI inp.length cI]] w fun e w' => e = .returned (.int .i64 (rightE x y st inp)) ∧ Below w.heap.size w w' := by
  obtain ⟨W1, hW1⟩ : ∃ U, w.alloc (.cells (cells x p) 27) = U := ⟨_, rfl⟩
  obtain ⟨hb1, hx1⟩ := cbox_new w x p W1 hW1
  obtain ⟨W2, hW2⟩ : ∃ U, W1.alloc (.cells (cells y q) 27) = U := ⟨_, rfl⟩
  obtain ⟨hb2, hx2⟩ := cbox_new W1 y q W2 hW2
  obtain ⟨W3, hW3⟩ : ∃ U, W2.alloc (.cells #[.int .i64 bad, .string st, .slice aI inp.length cI] 30) = U := ⟨_, rfl⟩
  have hb3 : Below W2.heap.size W2 W3 := by rw [← hW3]; exact (Below.refl _ _).alloc (Nat.le_refl _) _
  have hx3 : BoxN W2.heap.size [.int .i64 bad, .string st, .slice aI inp.length cI] W3 := by rw [← hW3]; exact BoxN.new W2 _ _
  have hb13 : Below w.heap.size w W3 := hb1.trans ((hb2.trans (hb3.mono hb2.size)).mono hb1.size)
  have HB3 := Lib.hid hb13
  have hl1 : w.heap.size < W1.heap.size := hx1.lt
  have HX := Lib.hid (fun (U : World) (hU : Below W3.heap.size W3 U) => (hx1.next (hb2.trans (hb3.mono hb2.size)) (Nat.le_refl _)).next hU (Nat.le_refl _))
  have HY := Lib.hid (fun (U : World) (hU : Below W3.heap.size W3 U) => (hx2.next hb3 (Nat.le_refl _)).next hU (Nat.le_refl _))
  have HW := Lib.hid (fun (U : World) (hU : Below W3.heap.size W3 U) => hx3.next hU hx3.lt)
  have HIX := Lib.hid (fun (U : World) (hU : Below W3.heap.size W3 U) => hin.next (hb13.trans (hU.mono hb13.size)))
  have HIY := Lib.hid (fun (U : World) (hU : Below W3.heap.size W3 U) => hiq.next (hb13.trans (hU.mono hb13.size)))
  have HII := Lib.hid (fun (U : World) (hU : Below W3.heap.size W3 U) => hI.next (hb13.trans (hU.mono hb13.size)))
  have HCX := fun (U : World) (hU : Below W3.heap.size W3 U) => check_any U x p (HIX.out U hU) hw.ins hw.outs hw.bads hw.invs hw.lats hw.ands hw.mx
  have HCY := fun (U : World) (hU : Below W3.heap.size W3 U) => check_any U y q (HIY.out U hU) hyw.ins hyw.outs hyw.bads hyw.invs hyw.lats hyw.ands hyw.mx
  have HBY := fun (U : World) (hU : Below W3.heap.size W3 U) => beyond_any U q.a1 y.ins.length q.c1 y.ins (HIY.out U hU).ins p.a1 x.ins.length p.c1 x.ins (HIX.out U hU).ins
  have HST := Lib.hid (fun (U : World) => SimBits.bits_any U st hst (y.lats.length : Int))
  have HEE : Hid (rightE x y st inp = if (tt (CheckOk x) && tt (CheckOk y)) = false then 9 else if partB x y = false then 23 else if bitsB y st inp = false then 5 else 0) := rfl
  have HPB : Hid (partB x y = !(beyondB y.ins x.ins || beyondB (y.lats.map (·.1)) (x.lats.map (·.1)))) := rfl
  have HBB : Hid (bitsB y st inp = (RefBits.bits st.data.toList y.lats.length && inp.all fun s => RefBits.bits s.data.toList y.ins.length)) := rfl
  have HIZ := Lib.hid hIz
  have hcl := hiq.lats.cap
  have hgl := hiq.lats.big
  rw [chk_tt] at HCX HCY
  generalize hcx : tt (CheckOk x) = cx at *
  generalize hcy : tt (CheckOk y) = cy at *
  have HCXO : Hid (cx = true → CheckOk x) := fun h => by rw [h] at hcx; exact Classical.byContradiction fun hn => by rw [tt_neg hn] at hcx; cases hcx
  have HCYO : Hid (cy = true → CheckOk y) := fun h => by rw [h] at hcy; exact Classical.byContradiction fun hn => by rw [tt_neg hn] at hcy; cases hcy
  generalize rightE x y st inp = rr at *
  obtain ⟨a1, c1, a2, c2, a3, c3, a4, c4, a5, c5, a6, c6, a7, c7⟩ := p
  obtain ⟨b1, d1, b2, d2, b3, d3, b4, d4, b5, d5, b6, d6, b7, d7⟩ := q
  simp only [cells] at hW1 hW2 HCX HCY HBY hcl hgl ⊢
  have HCX1 := Lib.hid HCX
  have HCY1 := Lib.hid HCY
  have HBY1 := Lib.hid HBY
  clear hin hw hiq hyw hst hI hIz hb1 hx1 hb2 hx2 hb3 hx3 hb13 HCX HCY HBY hcx hcy
  have c := HX.out W3 (Below.refl _ _)
  have k0 := c.k0
  have k1 := c.k1
  have k2 := c.k2
  have k3 := c.k3
  have k4 := c.k4
  have k5 := c.k5
  have k6 := c.k6
  have k7 := c.k7
  clear c
  try simp only at k0 k1 k2 k3 k4 k5 k6 k7
  have HC1 := Lib.hid (HCX1.out W3 (Below.refl _ _))
  go_enter Tryz.func16, Tryz.ntmps16
  go_wp2_with fail
  clear hW1 hW2 hW3
  with_reducible refine HC1.out.mono ?_
  rintro e w4 ⟨rfl, hb4⟩
  have HB4 := Lib.hid hb4
  clear k0 k1 k2 k3 k4 k5 k6 k7
  cases cx
  · have HN : Hid (rr = 9) := HEE.out
    clear hb4
    go_wp2_with fail
    go_ret
    exact ⟨by rw [HN.out]; rfl, HB3.out.trans (HB4.out.mono HB3.out.size)⟩
  · have HC2 := Lib.hid (HCY1.out w4 hb4)
    have c := HY.out w4 hb4
    have k0 := c.k0
    have k1 := c.k1
    have k2 := c.k2
    have k3 := c.k3
    have k4 := c.k4
    have k5 := c.k5
    have k6 := c.k6
    have k7 := c.k7
    clear c hb4
    try simp only at k0 k1 k2 k3 k4 k5 k6 k7
    go_wp2_with fail
    with_reducible refine HC2.out.mono ?_
    rintro e w5 ⟨rfl, hb5⟩
    have HB5 := Lib.hid (HB4.out.trans (hb5.mono HB4.out.size))
    clear k0 k1 k2 k3 k4 k5 k6 k7 hb5
    cases cy
    · have HN : Hid (rr = 9) := HEE.out
      go_wp2_with fail
      go_ret
      exact ⟨by rw [HN.out]; rfl, HB3.out.trans (HB5.out.mono HB3.out.size)⟩
    · have HE2 : Hid (rr = if partB x y = false then 23 else if bitsB y st inp = false then 5 else 0) := HEE.out
      clear HEE
      have HLX : Hid (x.lats.length ≤ 1000000) := by show _ ≤ _; have := (HCXO.out (by first | rfl | trivial)).1.2.2.2.1; omega
      have HLY : Hid (y.lats.length ≤ 1000000) := by show _ ≤ _; have := (HCYO.out (by first | rfl | trivial)).1.2.2.2.1; omega
      have hSK : ∀ U : World, Below w5.heap.size w5 U → Below w5.heap.size w5 U ∧ U.cell? ⟨w.heap.size, 0, none⟩ = some (.int .i64 x.max) ∧ U.cell? ⟨w.heap.size, 1, none⟩ = some (.slice a1 x.ins.length c1) ∧ U.cell? ⟨w.heap.size, 2, none⟩ = some (.slice a2 x.lats.length c2) ∧ U.cell? ⟨w.heap.size, 3, none⟩ = some (.slice a3 x.outs.length c3) ∧ U.cell? ⟨w.heap.size, 4, none⟩ = some (.slice a4 x.bads.length c4) ∧ U.cell? ⟨w.heap.size, 5, none⟩ = some (.slice a5 x.invs.length c5) ∧ U.cell? ⟨w.heap.size, 6, none⟩ = some (.slice a6 x.ands.length c6) ∧ U.cell? ⟨w.heap.size, 7, none⟩ = some (.slice a7 x.names.length c7) ∧ U.cell? ⟨W1.heap.size, 0, none⟩ = some (.int .i64 y.max) ∧ U.cell? ⟨W1.heap.size, 1, none⟩ = some (.slice b1 y.ins.length d1) ∧ U.cell? ⟨W1.heap.size, 2, none⟩ = some (.slice b2 y.lats.length d2) ∧ U.cell? ⟨W1.heap.size, 3, none⟩ = some (.slice b3 y.outs.length d3) ∧ U.cell? ⟨W1.heap.size, 4, none⟩ = some (.slice b4 y.bads.length d4) ∧ U.cell? ⟨W1.heap.size, 5, none⟩ = some (.slice b5 y.invs.length d5) ∧ U.cell? ⟨W1.heap.size, 6, none⟩ = some (.slice b6 y.ands.length d6) ∧ U.cell? ⟨W1.heap.size, 7, none⟩ = some (.slice b7 y.names.length d7) := fun U hU => by
        have c := HX.out U (HB5.out.trans (hU.mono HB5.out.size))
        have d := HY.out U (HB5.out.trans (hU.mono HB5.out.size))
        exact ⟨hU, c.k0, c.k1, c.k2, c.k3, c.k4, c.k5, c.k6, c.k7, d.k0, d.k1, d.k2, d.k3, d.k4, d.k5, d.k6, d.k7⟩
      have HT5 := Lib.hid (fun (U : World) (hU : Below w5.heap.size w5 U) => HB5.out.trans (hU.mono HB5.out.size))
      generalize hbi : beyondB y.ins x.ins = bi at *
      have hS0 := hSK _ (Below.refl w5.heap.size w5).drew
      go_upto_region 3 with fail
      cases bi
      · have HBL : Hid (partB x y = !beyondB (y.lats.map (·.1)) (x.lats.map (·.1))) := by show _ = _; rw [HPB.out]; rfl
        clear HPB
        refine HeldAll.region (fun U : World => Below w5.heap.size w5 U ∧ U.cell? ⟨w.heap.size, 0, none⟩ = some (.int .i64 x.max) ∧ U.cell? ⟨w.heap.size, 1, none⟩ = some (.slice a1 x.ins.length c1) ∧ U.cell? ⟨w.heap.size, 2, none⟩ = some (.slice a2 x.lats.length c2) ∧ U.cell? ⟨w.heap.size, 3, none⟩ = some (.slice a3 x.outs.length c3) ∧ U.cell? ⟨w.heap.size, 4, none⟩ = some (.slice a4 x.bads.length c4) ∧ U.cell? ⟨w.heap.size, 5, none⟩ = some (.slice a5 x.invs.length c5) ∧ U.cell? ⟨w.heap.size, 6, none⟩ = some (.slice a6 x.ands.length c6) ∧ U.cell? ⟨w.heap.size, 7, none⟩ = some (.slice a7 x.names.length c7) ∧ U.cell? ⟨W1.heap.size, 0, none⟩ = some (.int .i64 y.max) ∧ U.cell? ⟨W1.heap.size, 1, none⟩ = some (.slice b1 y.ins.length d1) ∧ U.cell? ⟨W1.heap.size, 2, none⟩ = some (.slice b2 y.lats.length d2) ∧ U.cell? ⟨W1.heap.size, 3, none⟩ = some (.slice b3 y.outs.length d3) ∧ U.cell? ⟨W1.heap.size, 4, none⟩ = some (.slice b4 y.bads.length d4) ∧ U.cell? ⟨W1.heap.size, 5, none⟩ = some (.slice b5 y.invs.length d5) ∧ U.cell? ⟨W1.heap.size, 6, none⟩ = some (.slice b6 y.ands.length d6) ∧ U.cell? ⟨W1.heap.size, 7, none⟩ = some (.slice b7 y.names.length d7)) (by kernel_rfl) ?_
        (refine HeldAll.take (i := 0) (oi := _) (d := some 17) (v := ?_) rfl rfl (by kernel_rfl) (by kernel_rfl) (by kernel_rfl) (fun _ _ _ h => h) (Or.inl ⟨by rfl, ?_⟩) hS0 ?_; rotate_left; (focus (intro w hSw; clear hSw; go_simp; (try with_reducible rfl); done)); (try simp only [Act.put, List.setIfInBounds_toArray, List.set_cons_zero, List.set_cons_succ]))
        (refine HeldAll.take (i := 1) (oi := _) (d := some 18) (v := ?_) rfl rfl (by kernel_rfl) (by kernel_rfl) (by kernel_rfl) (fun _ _ _ h => h) (Or.inl ⟨by rfl, ?_⟩) hS0 ?_; rotate_left; (focus (intro w hSw; (try dsimp only at hSw); go_simp; (try with_reducible rfl); done)); (try simp only [Act.put, List.setIfInBounds_toArray, List.set_cons_zero, List.set_cons_succ]))
        (refine HeldAll.take (i := 2) (oi := _) (d := some 19) (v := ?_) rfl rfl (by kernel_rfl) (by kernel_rfl) (by kernel_rfl) (fun _ _ _ h => h) (Or.inl ⟨by rfl, ?_⟩) hS0 ?_; rotate_left; (focus (intro w hSw; clear hSw; go_simp; (try with_reducible rfl); done)); (try simp only [Act.put, List.setIfInBounds_toArray, List.set_cons_zero, List.set_cons_succ]))
        (refine HeldAll.take (i := 3) (oi := _) (d := some 20) (v := ?_) rfl rfl (by kernel_rfl) (by kernel_rfl) (by kernel_rfl) (fun _ _ _ h => h) (Or.inl ⟨by rfl, ?_⟩) hS0 ?_; rotate_left; (focus (intro w hSw; (try dsimp only at hSw); go_simp; (try with_reducible rfl); done)); (try simp only [Act.put, List.setIfInBounds_toArray, List.set_cons_zero, List.set_cons_succ]))
        refine HeldAll.one (i := 4) (by kernel_rfl) ?_
        refine HeldAll.opCall (i := 4) (oi := _) (d := some 21) (R := fun v w' => v = .bool false ∧ Below w5.drew.heap.size w5.drew w') rfl rfl (by rfl) (by go_simp; done) ((HBY1.out w5.drew (HT5.out _ (Below.refl w5.heap.size w5).drew)).mono fun e w' h => ⟨_, h.1, rfl, h.2⟩) ?_
        rintro v u1 ⟨rfl, su1⟩
        have bu1 : Below w5.heap.size w5 u1 := (Below.refl w5.heap.size w5).drew.trans (su1.mono (Below.refl w5.heap.size w5).drew.size)
        refine ⟨hSK _ bu1, ?_⟩
        (try simp only [Act.put, List.setIfInBounds_toArray, List.set_cons_zero, List.set_cons_succ])
        have hS0 := hSK _ bu1
        (refine HeldAll.take (i := 5) (oi := _) (d := some 22) (v := ?_) rfl rfl (by kernel_rfl) (by kernel_rfl) (by kernel_rfl) (fun _ _ _ h => h) (Or.inl ⟨by rfl, ?_⟩) hS0 ?_; rotate_left; (focus (intro w hSw; clear hSw; go_simp; (try with_reducible rfl); done)); (try simp only [Act.put, List.setIfInBounds_toArray, List.set_cons_zero, List.set_cons_succ]))
        (refine HeldAll.take (i := 6) (oi := _) (d := some 23) (v := ?_) rfl rfl (by kernel_rfl) (by kernel_rfl) (by kernel_rfl) (fun _ _ _ h => h) (Or.inl ⟨by rfl, ?_⟩) hS0 ?_; rotate_left; (focus (intro w hSw; (try dsimp only at hSw); go_simp; (try with_reducible rfl); done)); (try simp only [Act.put, List.setIfInBounds_toArray, List.set_cons_zero, List.set_cons_succ]))
        (refine HeldAll.take (i := 8) (oi := _) (d := some 25) (v := ?_) rfl rfl (by kernel_rfl) (by kernel_rfl) (by kernel_rfl) (fun _ _ _ h => h) (Or.inl ⟨by rfl, ?_⟩) hS0 ?_; rotate_left; (focus (intro w hSw; (try dsimp only at hSw); go_simp; (try with_reducible rfl); done)); (try simp only [Act.put, List.setIfInBounds_toArray, List.set_cons_zero, List.set_cons_succ]))
        have HL1 := latchLits_any u1 y ⟨b1, d1, b2, d2, b3, d3, b4, d4, b5, d5, b6, d6, b7, d7⟩ (HIY.out u1 (HT5.out _ bu1)) HLY.out
        simp only [cells] at HL1
        refine HeldAll.one (i := 7) (by kernel_rfl) ?_
        refine HeldAll.opCall (i := 7) (oi := _) (d := some 24) (R := fun v w' => ∃ a c, v = .slice a y.lats.length c ∧ w'.ownsRow u1.heap.size 3 1 (.slice a y.lats.length c) y.lats.length (ints (y.lats.map (·.1))) ∧ Below u1.heap.size u1 w') rfl rfl (by rfl) (by go_simp; done) (HL1.mono fun e w' h => by obtain ⟨a, c, he, ho, hb⟩ := h; exact ⟨_, he, a, c, rfl, ho, hb⟩) ?_
        rintro v u2 ⟨ya, yc, rfl, yo, su2⟩
        have bu2 : Below w5.heap.size w5 u2 := bu1.trans (su2.mono bu1.size)
        refine ⟨hSK _ bu2, ?_⟩
        (try simp only [Act.put, List.setIfInBounds_toArray, List.set_cons_zero, List.set_cons_succ])
        have HL2 := latchLits_any u2 x ⟨a1, c1, a2, c2, a3, c3, a4, c4, a5, c5, a6, c6, a7, c7⟩ (HIX.out u2 (HT5.out _ bu2)) HLX.out
        simp only [cells] at HL2
        refine HeldAll.one (i := 9) (by kernel_rfl) ?_
        refine HeldAll.opCall (i := 9) (oi := _) (d := some 26) (R := fun v w' => ∃ a c, v = .slice a x.lats.length c ∧ w'.ownsRow u2.heap.size 3 1 (.slice a x.lats.length c) x.lats.length (ints (x.lats.map (·.1))) ∧ Below u2.heap.size u2 w') rfl rfl (by rfl) (by go_simp; done) (HL2.mono fun e w' h => by obtain ⟨a, c, he, ho, hb⟩ := h; exact ⟨_, he, a, c, rfl, ho, hb⟩) ?_
        rintro v u3 ⟨xa, xc, rfl, xo, su3⟩
        have bu3 : Below w5.heap.size w5 u3 := bu2.trans (su3.mono bu2.size)
        refine ⟨hSK _ bu3, ?_⟩
        (try simp only [Act.put, List.setIfInBounds_toArray, List.set_cons_zero, List.set_cons_succ])
        refine HeldAll.one (i := 10) (by kernel_rfl) ?_
        refine HeldAll.opCall (i := 10) (oi := _) (d := some 27) (R := fun v w' => v = .bool (beyondB (y.lats.map (·.1)) (x.lats.map (·.1))) ∧ Below u3.heap.size u3 w') rfl rfl (by rfl) (by go_simp; done) ((beyond_any u3 ya y.lats.length yc (y.lats.map (·.1)) ((own_sl' yo).next su3) xa x.lats.length xc (x.lats.map (·.1)) (own_sl' xo)).mono fun e w' h => ⟨_, h.1, rfl, h.2⟩) ?_
        rintro v u4 ⟨rfl, su4⟩
        have bu4 : Below w5.heap.size w5 u4 := bu3.trans (su4.mono bu3.size)
        refine ⟨hSK _ bu4, ?_⟩
        (try simp only [Act.put, List.setIfInBounds_toArray, List.set_cons_zero, List.set_cons_succ])
        have hS0 := hSK _ bu4
        (refine HeldAll.take (i := 11) (oi := _) (d := some 28) (v := ?_) rfl rfl (by kernel_rfl) (by kernel_rfl) (by kernel_rfl) (fun _ _ _ h => h) (Or.inl ⟨by rfl, ?_⟩) hS0 ?_; rotate_left; (focus (intro w hSw; clear hSw; go_simp; (try with_reducible rfl); done)); (try simp only [Act.put, List.setIfInBounds_toArray, List.set_cons_zero, List.set_cons_succ]))
        (refine HeldAll.take (i := 12) (oi := _) (d := some 16) (v := ?_) rfl rfl (by kernel_rfl) (by kernel_rfl) (by kernel_rfl) (fun _ _ _ h => h) (Or.inl ⟨by rfl, ?_⟩) hS0 ?_; rotate_left; (focus (intro w hSw; clear hSw; go_simp; (try with_reducible rfl); done)); (try simp only [Act.put, List.setIfInBounds_toArray, List.set_cons_zero, List.set_cons_succ]))
        refine HeldAll.done (by kernel_rfl) ?_ _
        have HB6 := Lib.hid (HB5.out.trans (bu4.mono HB5.out.size))
        clear hS0 hSK bu1 bu2 bu3 bu4 su1 su2 su3 su4 yo xo HL1 HL2
        generalize hbl : beyondB (y.lats.map (·.1)) (x.lats.map (·.1)) = bl at *
        cases bl
        · have HE3 : Hid (rr = if bitsB y st inp = false then 5 else 0) := by show _ = _; rw [HE2.out, HBL.out]; rfl
          clear HE2 HBL hbl
          have c := HW.out u4 HB6.out
          have j0 := c.at' 0 _ rfl
          have j1 := c.at' 1 _ rfl
          have j2 := c.at' 2 _ rfl
          have d := HY.out u4 HB6.out
          have k1 := d.k1
          have k2 := d.k2
          try simp only at k1 k2
          clear c d
          have HS1 := Lib.hid (HST.out u4)
          generalize hsb : RefBits.bits st.data.toList (y.lats.length : Int) = sb at *
          go_wp2_with fail
          with_reducible refine HS1.out.mono ?_
          rintro e w7 ⟨rfl, hb7⟩
          have HB7 := Lib.hid (HB6.out.trans (hb7.mono HB6.out.size))
          clear hb7 j0 j1 j2 k1 k2
          cases sb
          · have HN : Hid (rr = 5) := by show _ = _; rw [HE3.out, HBB.out]; rfl
            go_wp2_with fail
            go_ret
            exact ⟨by rw [HN.out]; rfl, HB3.out.trans (HB7.out.mono HB3.out.size)⟩
          · have HCF := SlfS.containsFunc w7 aI inp.length cI (inp.map Value.string) 47 #[] #[.pointer (some ⟨W1.heap.size, 0, none⟩)] (inp.map fun s => !RefBits.bits s.data.toList (y.ins.length : Int)) (HII.out w7 HB7.out) (by simp) eg_r1 (by
              intro V hV j v q hv hq
              rw [List.getElem?_map, Option.map_eq_some_iff] at hv hq
              obtain ⟨s1, hs1, rfl⟩ := hv
              obtain ⟨s2, hs2, rfl⟩ := hq
              rw [hs1] at hs2
              cases hs2
              have hV2 := HB7.out.trans (hV.mono HB7.out.size)
              exact r1_any V W1.heap.size y ⟨b1, d1, b2, d2, b3, d3, b4, d4, b5, d5, b6, d6, b7, d7⟩ (HY.out V hV2) (HIY.out V hV2) s1 (HIZ.out s1 (List.mem_of_getElem? hs1)))
            have hany : (inp.map fun s => !RefBits.bits s.data.toList (y.ins.length : Int)).any id = !inp.all fun s => RefBits.bits s.data.toList (y.ins.length : Int) := by
              rw [List.any_map, List.not_all_eq_any_not]; rfl
            rw [hany] at HCF
            have HC7 := Lib.hid HCF
            have HE4 : Hid (rr = if (inp.all fun s => RefBits.bits s.data.toList (y.ins.length : Int)) = false then 5 else 0) := by show _ = _; rw [HE3.out, HBB.out]; rfl
            clear HCF hany HE3 HBB
            generalize (inp.all fun s => RefBits.bits s.data.toList (y.ins.length : Int)) = ab at *
            have c := HW.out w7 HB7.out
            have j2 := c.at' 2 _ rfl
            clear c
            go_wp2_with fail
            with_reducible refine HC7.out.mono ?_
            rintro e w8 ⟨rfl, hb8⟩
            have HB8 := Lib.hid (HB7.out.trans (hb8.mono HB7.out.size))
            clear hb8 j2
            cases ab
            · have HN : Hid (rr = 5) := HE4.out
              go_wp2_with fail
              go_ret
              exact ⟨by rw [HN.out]; rfl, HB3.out.trans (HB8.out.mono HB3.out.size)⟩
            · have HN : Hid (rr = 0) := HE4.out
              go_wp2_with fail
              go_ret
              exact ⟨by rw [HN.out]; rfl, HB3.out.trans (HB8.out.mono HB3.out.size)⟩
        · have HN : Hid (rr = 23) := by show _ = _; rw [HE2.out, HBL.out]; rfl
          go_wp2_with fail
          go_ret
          exact ⟨by rw [HN.out]; rfl, HB3.out.trans (HB6.out.mono HB3.out.size)⟩
      · have HN : Hid (rr = 23) := by show _ = _; rw [HE2.out, HPB.out]; rfl
        have HF := hS0
        have CB := Lib.hid (call_keep (S := fun U => Below w5.heap.size w5 U ∧ U.cell? ⟨w.heap.size, 0, none⟩ = some (.int .i64 x.max) ∧ U.cell? ⟨w.heap.size, 1, none⟩ = some (.slice a1 x.ins.length c1) ∧ U.cell? ⟨w.heap.size, 2, none⟩ = some (.slice a2 x.lats.length c2) ∧ U.cell? ⟨w.heap.size, 3, none⟩ = some (.slice a3 x.outs.length c3) ∧ U.cell? ⟨w.heap.size, 4, none⟩ = some (.slice a4 x.bads.length c4) ∧ U.cell? ⟨w.heap.size, 5, none⟩ = some (.slice a5 x.invs.length c5) ∧ U.cell? ⟨w.heap.size, 6, none⟩ = some (.slice a6 x.ands.length c6) ∧ U.cell? ⟨w.heap.size, 7, none⟩ = some (.slice a7 x.names.length c7) ∧ U.cell? ⟨W1.heap.size, 0, none⟩ = some (.int .i64 y.max) ∧ U.cell? ⟨W1.heap.size, 1, none⟩ = some (.slice b1 y.ins.length d1) ∧ U.cell? ⟨W1.heap.size, 2, none⟩ = some (.slice b2 y.lats.length d2) ∧ U.cell? ⟨W1.heap.size, 3, none⟩ = some (.slice b3 y.outs.length d3) ∧ U.cell? ⟨W1.heap.size, 4, none⟩ = some (.slice b4 y.bads.length d4) ∧ U.cell? ⟨W1.heap.size, 5, none⟩ = some (.slice b5 y.invs.length d5) ∧ U.cell? ⟨W1.heap.size, 6, none⟩ = some (.slice b6 y.ands.length d6) ∧ U.cell? ⟨W1.heap.size, 7, none⟩ = some (.slice b7 y.names.length d7)) (fun U hU => HBY1.out U (HT5.out _ hU.1)) (fun U U' h hb => hSK U' (h.1.trans (hb.mono h.1.size))))
        clear hSK hS0
        refine Lex.region (fun U => Below w5.heap.size w5 U ∧ U.cell? ⟨w.heap.size, 0, none⟩ = some (.int .i64 x.max) ∧ U.cell? ⟨w.heap.size, 1, none⟩ = some (.slice a1 x.ins.length c1) ∧ U.cell? ⟨w.heap.size, 2, none⟩ = some (.slice a2 x.lats.length c2) ∧ U.cell? ⟨w.heap.size, 3, none⟩ = some (.slice a3 x.outs.length c3) ∧ U.cell? ⟨w.heap.size, 4, none⟩ = some (.slice a4 x.bads.length c4) ∧ U.cell? ⟨w.heap.size, 5, none⟩ = some (.slice a5 x.invs.length c5) ∧ U.cell? ⟨w.heap.size, 6, none⟩ = some (.slice a6 x.ands.length c6) ∧ U.cell? ⟨w.heap.size, 7, none⟩ = some (.slice a7 x.names.length c7) ∧ U.cell? ⟨W1.heap.size, 0, none⟩ = some (.int .i64 y.max) ∧ U.cell? ⟨W1.heap.size, 1, none⟩ = some (.slice b1 y.ins.length d1) ∧ U.cell? ⟨W1.heap.size, 2, none⟩ = some (.slice b2 y.lats.length d2) ∧ U.cell? ⟨W1.heap.size, 3, none⟩ = some (.slice b3 y.outs.length d3) ∧ U.cell? ⟨W1.heap.size, 4, none⟩ = some (.slice b4 y.bads.length d4) ∧ U.cell? ⟨W1.heap.size, 5, none⟩ = some (.slice b5 y.invs.length d5) ∧ U.cell? ⟨W1.heap.size, 6, none⟩ = some (.slice b6 y.ands.length d6) ∧ U.cell? ⟨W1.heap.size, 7, none⟩ = some (.slice b7 y.names.length d7)) (by kernel_rfl) (by kernel_rfl) HF ?_
        (refine Lex.step_val (v := ?_) ?_ (fun w' hSw => ?_) ?_; rotate_left; (focus rfl); (focus (clear hSw; go_simp; (try with_reducible rfl); done)); (try simp only [Act.put, List.setIfInBounds_toArray, List.set_cons_zero, List.set_cons_succ]))
        (refine Lex.step_val (v := ?_) ?_ (fun w' hSw => ?_) ?_; rotate_left; (focus rfl); (focus ((try dsimp only at hSw); go_simp; (try with_reducible rfl); done)); (try simp only [Act.put, List.setIfInBounds_toArray, List.set_cons_zero, List.set_cons_succ]))
        (refine Lex.step_val (v := ?_) ?_ (fun w' hSw => ?_) ?_; rotate_left; (focus rfl); (focus (clear hSw; go_simp; (try with_reducible rfl); done)); (try simp only [Act.put, List.setIfInBounds_toArray, List.set_cons_zero, List.set_cons_succ]))
        (refine Lex.step_val (v := ?_) ?_ (fun w' hSw => ?_) ?_; rotate_left; (focus rfl); (focus ((try dsimp only at hSw); go_simp; (try with_reducible rfl); done)); (try simp only [Act.put, List.setIfInBounds_toArray, List.set_cons_zero, List.set_cons_succ]))
        (refine Lex.step_call (v := ?_) (f := ?_) (args := ?_) ?_ (fun w' hSw => ?_) ?_ ?_; rotate_left 3; (focus rfl); (focus (clear hSw; go_simp; (refine And.intro ?_ ?_ <;> with_reducible rfl); done)); (focus (first | with_reducible exact CB.out)); (try simp only [Act.put, List.setIfInBounds_toArray, List.set_cons_zero, List.set_cons_succ]))
        (refine Lex.step_val (v := ?_) ?_ (fun w' hSw => ?_) ?_; rotate_left; (focus rfl); (focus (clear hSw; go_simp; (try with_reducible rfl); done)); (try simp only [Act.put, List.setIfInBounds_toArray, List.set_cons_zero, List.set_cons_succ]))
        (refine Lex.step_off ?_ ?_; (focus (first | (go_simp; done) | (simp [Region.wanted, yielded, undef]; done) | rfl)); (try simp only [Act.put, List.setIfInBounds_toArray, List.set_cons_zero, List.set_cons_succ]))
        (refine Lex.step_off ?_ ?_; (focus (first | (go_simp; done) | (simp [Region.wanted, yielded, undef]; done) | rfl)); (try simp only [Act.put, List.setIfInBounds_toArray, List.set_cons_zero, List.set_cons_succ]))
        (refine Lex.step_off ?_ ?_; (focus (first | (go_simp; done) | (simp [Region.wanted, yielded, undef]; done) | rfl)); (try simp only [Act.put, List.setIfInBounds_toArray, List.set_cons_zero, List.set_cons_succ]))
        (refine Lex.step_off ?_ ?_; (focus (first | (go_simp; done) | (simp [Region.wanted, yielded, undef]; done) | rfl)); (try simp only [Act.put, List.setIfInBounds_toArray, List.set_cons_zero, List.set_cons_succ]))
        (refine Lex.step_off ?_ ?_; (focus (first | (go_simp; done) | (simp [Region.wanted, yielded, undef]; done) | rfl)); (try simp only [Act.put, List.setIfInBounds_toArray, List.set_cons_zero, List.set_cons_succ]))
        (refine Lex.step_val (v := ?_) ?_ (fun w' hSw => ?_) ?_; rotate_left; (focus rfl); (focus (clear hSw; go_simp; (try with_reducible rfl); done)); (try simp only [Act.put, List.setIfInBounds_toArray, List.set_cons_zero, List.set_cons_succ]))
        (refine Lex.step_val (v := ?_) ?_ (fun w' hSw => ?_) ?_; rotate_left; (focus rfl); (focus (clear hSw; go_simp; (try with_reducible rfl); done)); (try simp only [Act.put, List.setIfInBounds_toArray, List.set_cons_zero, List.set_cons_succ]))
        refine Lex.step_nil ?_
        intro wz hz
        have HZ := Lib.hid hz.1
        clear hz HF
        go_wp2_with fail
        go_ret
        exact ⟨by rw [HN.out]; rfl, HB3.out.trans ((HB5.out.trans (HZ.out.mono HB5.out.size)).mono HB3.out.size)⟩
end Spr
end Go.Proofs.YtninglnchengeaaGreatDoor

/-
  A region that draws its order, with loads, calls that make memory, and stores behind them all: a condition S on the world is asked only up to the first store (operation number s); a load under S, and what yields in every world, may be taken first. No program's function.
-/
namespace Go.Proofs.YtninglnchengeaaGreatDoor
open Go.RowKit
set_option linter.unusedVariables false
namespace HeldTo

section
variable {P : Program} {ops : Array Oper} {Q : Exit → Act → World → Prop} {md : Region.Mode} {S : World → Prop} {s : Nat}

def wpAnyG (P : Program) (md : Region.Mode) (ops : Array Oper) (Q : Exit → Act → World → Prop) (S : World → Prop) (s : Nat) : Nat → Array Bool → Act → World → Prop
  | 0, listed, a, w => Region.ready md ops listed = [] ∧ Q .normal a w
  | fuel + 1, listed, a, w =>
    (Region.ready md ops listed = [] → Q .normal a w) ∧
    ∀ i ∈ Region.ready md ops listed, wpOp P ops Q i (fun a' w' => ((listed.setIfInBounds i true).getD s true = false → S w') ∧ wpAnyG P md ops Q S s fuel (listed.setIfInBounds i true) a' w') a w

theorem wpAny_of_G : ∀ (fuel : Nat) (listed : Array Bool) (a : Act) (w : World), wpAnyG P md ops Q S s fuel listed a w → wpAny P md ops Q fuel listed a w
  | 0, _, _, _, h => h
  | fuel + 1, _, _, _, h => ⟨h.1, fun i hi => wpOp_mono (fun a' w' h' => wpAny_of_G fuel _ a' w' h'.2) (h.2 i hi)⟩

theorem wpAnyG_first {i : Nat} {oi : Oper} {v : Value} (hi : ops[i]? = some oi) (hsel : ∀ (j : Nat) (o : Oper) cs b, ops[j]? = some o → o.op ≠ .select cs b)
    (hQ : ∀ c a w, Q (.panic c) (a.put oi.dst v) w → Q (.panic c) a w) (his : i ≠ s) (hw8 : ∀ os, ops[s]? = some os → ∃ e ∈ os.after, Region.binds md e = true ∧ e.on = i) :
    ∀ (fuel : Nat) (listed : Array Bool) (a : Act) (w : World),
      (∀ j oj, ops[j]? = some oj → j ≠ i → listed.getD j true = false → (∀ e ∈ oj.after, Region.binds md e = true → e.on ≠ i) → oi.apart ops oj = true) →
      i ∈ Region.ready md ops listed → listed.getD s true = false → YieldsIf P ops S oi v a → S w →
      wpAnyG P md ops Q S s fuel (listed.setIfInBounds i true) (a.put oi.dst v) w → wpAnyG P md ops Q S s (fuel + 1) listed a w := by
  intro fuel
  induction fuel with
  | zero =>
    intro listed a w _ hr hs hy hS H
    refine ⟨fun h => (by rw [h] at hr; cases hr), fun j hj => ?_⟩
    by_cases hji : j = i
    · subst hji; exact hy.wpOp hi hS ⟨fun _ => hS, H⟩
    · have := ready_mono hj hji
      rw [H.1] at this
      cases this
  | succ fuel ih =>
    intro listed a w hfree hr hs hy hS H
    refine ⟨fun h => (by rw [h] at hr; cases hr), fun j hj => ?_⟩
    by_cases hji : j = i
    · subst hji; exact hy.wpOp hi hS ⟨fun _ => hS, H⟩
    · have h1 := H.2 j (ready_mono hj hji)
      obtain ⟨hjun, oj, hoj, hall⟩ := mem_ready.1 hj
      have hnot : ∀ e ∈ oj.after, Region.binds md e = true → e.on ≠ i := fun e he hb heq => by
        have h1 := hall e he hb
        have h0 := (mem_ready.1 hr).1
        rw [heq] at h1
        rcases Nat.lt_or_ge i listed.size with h' | h'
        · simp [h'] at h0 h1; rw [h0] at h1; cases h1
        · simp [Array.getElem?_eq_none h'] at h1
      have hjs : j ≠ s := fun h => by
        subst h
        obtain ⟨e, he, hb, heq⟩ := hw8 oj hoj
        exact hnot e he hb heq
      have h2 := wpOp_putIf hoj (hfree j oj hoj hji hjun hnot) (fun cs b => hsel i oi cs b hi) (fun cs b => hsel j oj cs b hoj) hQ hy h1
      have hfree' : ∀ k ok, ops[k]? = some ok → k ≠ i → (listed.setIfInBounds j true).getD k true = false →
          (∀ e ∈ ok.after, Region.binds md e = true → e.on ≠ i) → oi.apart ops ok = true := fun k ok hk hki hun hno => by
        refine hfree k ok hk hki ?_ hno
        by_cases hjk : j = k
        · subst hjk; exact hjun
        · rw [getD_set_ne true hjk] at hun; exact hun
      have hs2 : (listed.setIfInBounds j true).getD s true = false := by rw [getD_set_ne true hjs]; exact hs
      have hs3 : ((listed.setIfInBounds i true).setIfInBounds j true).getD s true = false := by rw [getD_set_ne true hjs, getD_set_ne true his]; exact hs
      refine wpOp_mono (fun a' w' h3 => ⟨fun _ => h3.2.1 hs3, ih (listed.setIfInBounds j true) a' w' hfree' (ready_mono hr (Ne.symm hji)) hs2 h3.1 (h3.2.1 hs3) ?_⟩) h2
      rw [Array.setIfInBounds_comm _ _ hji]
      exact h3.2.2

/-- What yields in every world may be taken first at any time. -/
theorem wpAnyG_plain {i : Nat} {oi : Oper} {v : Value} (hi : ops[i]? = some oi) (hsel : ∀ (j : Nat) (o : Oper) cs b, ops[j]? = some o → o.op ≠ .select cs b)
    (hQ : ∀ c a w, Q (.panic c) (a.put oi.dst v) w → Q (.panic c) a w) (his : i ≠ s) :
    ∀ (fuel : Nat) (listed : Array Bool) (a : Act) (w : World),
      (∀ j oj, ops[j]? = some oj → j ≠ i → listed.getD j true = false → (∀ e ∈ oj.after, Region.binds md e = true → e.on ≠ i) → oi.apart ops oj = true) →
      i ∈ Region.ready md ops listed → YieldsIf P ops (fun _ => True) oi v a → (listed.getD s true = false → S w) →
      wpAnyG P md ops Q S s fuel (listed.setIfInBounds i true) (a.put oi.dst v) w → wpAnyG P md ops Q S s (fuel + 1) listed a w := by
  intro fuel
  induction fuel with
  | zero =>
    intro listed a w _ hr hy hS H
    refine ⟨fun h => (by rw [h] at hr; cases hr), fun j hj => ?_⟩
    by_cases hji : j = i
    · subst hji; exact hy.wpOp hi trivial ⟨fun h => hS (by rwa [getD_set_ne true his] at h), H⟩
    · have := ready_mono hj hji
      rw [H.1] at this
      cases this
  | succ fuel ih =>
    intro listed a w hfree hr hy hS H
    refine ⟨fun h => (by rw [h] at hr; cases hr), fun j hj => ?_⟩
    by_cases hji : j = i
    · subst hji; exact hy.wpOp hi trivial ⟨fun h => hS (by rwa [getD_set_ne true his] at h), H⟩
    · have h1 := H.2 j (ready_mono hj hji)
      obtain ⟨hjun, oj, hoj, hall⟩ := mem_ready.1 hj
      have hnot : ∀ e ∈ oj.after, Region.binds md e = true → e.on ≠ i := fun e he hb heq => by
        have h1 := hall e he hb
        have h0 := (mem_ready.1 hr).1
        rw [heq] at h1
        rcases Nat.lt_or_ge i listed.size with h' | h'
        · simp [h'] at h0 h1; rw [h0] at h1; cases h1
        · simp [Array.getElem?_eq_none h'] at h1
      have h2 := wpOp_putIf hoj (hfree j oj hoj hji hjun hnot) (fun cs b => hsel i oi cs b hi) (fun cs b => hsel j oj cs b hoj) hQ hy h1
      have hfree' : ∀ k ok, ops[k]? = some ok → k ≠ i → (listed.setIfInBounds j true).getD k true = false →
          (∀ e ∈ ok.after, Region.binds md e = true → e.on ≠ i) → oi.apart ops ok = true := fun k ok hk hki hun hno => by
        refine hfree k ok hk hki ?_ hno
        by_cases hjk : j = k
        · subst hjk; exact hjun
        · rw [getD_set_ne true hjk] at hun; exact hun
      have key : ∀ w', (((listed.setIfInBounds i true).setIfInBounds j true).getD s true = false → S w') → ((listed.setIfInBounds j true).getD s true = false → S w') := fun w' h hh => by
        apply h
        rw [Array.setIfInBounds_comm _ _ (Ne.symm hji), getD_set_ne true his]
        exact hh
      refine wpOp_mono (fun a' w' h3 => ⟨key w' h3.2.1, ih (listed.setIfInBounds j true) a' w' hfree' (ready_mono hr (Ne.symm hji)) h3.1 (key w' h3.2.1) ?_⟩) h2
      rw [Array.setIfInBounds_comm _ _ hji]
      exact h3.2.2

def waits (md : Region.Mode) (ops : Array Oper) (s i : Nat) : Bool := match ops[s]? with | none => true | some os => os.after.any (fun e => Region.binds md e && e.on == i)

/-- A load, or whatever yields under S, is taken first. -/
theorem take {i : Nat} {oi : Oper} {v : Value} {d : Option Tmp} {fuel : Nat} {listed : Array Bool} {a : Act} {w : World} (hi : ops[i]? = some oi) (hd : oi.dst = d)
    (hs : Region.noSelect ops = true) (hf : Region.free md ops listed i = true) (hr : (Region.ready md ops listed).contains i = true) (his : (i != s) = true) (hw8 : waits md ops s i = true) (hun : listed.getD s true = false)
    (hQ : ∀ c a w, Q (.panic c) (a.put oi.dst v) w → Q (.panic c) a w) (hy : YieldsIf P ops S oi v a) (hS : S w)
    (h : wpAnyG P md ops Q S s fuel (listed.setIfInBounds i true) (a.put d v) w) : wpAnyG P md ops Q S s (fuel + 1) listed a w := by
  subst hd
  exact wpAnyG_first hi (Region.noSelect_spec hs) hQ (by simpa using his) (fun os ho => by
    unfold waits at hw8
    rw [ho] at hw8
    simp only [Array.any_eq_true, Bool.and_eq_true, beq_iff_eq] at hw8
    obtain ⟨k, hk, h1, h2⟩ := hw8
    exact ⟨_, Array.getElem_mem hk, h1, h2⟩) fuel listed a w (Region.free_spec hi hf) (by simpa using hr) hun hy hS h

/-- What yields in every world is taken first. -/
theorem plain {i : Nat} {oi : Oper} {v : Value} {d : Option Tmp} {fuel : Nat} {listed : Array Bool} {a : Act} {w : World} (hi : ops[i]? = some oi) (hd : oi.dst = d)
    (hs : Region.noSelect ops = true) (hf : Region.free md ops listed i = true) (hr : (Region.ready md ops listed).contains i = true) (his : (i != s) = true)
    (hQ : ∀ c a w, Q (.panic c) (a.put oi.dst v) w → Q (.panic c) a w) (hy : YieldsIf P ops (fun _ => True) oi v a) (hS : listed.getD s true = false → S w)
    (h : wpAnyG P md ops Q S s fuel (listed.setIfInBounds i true) (a.put d v) w) : wpAnyG P md ops Q S s (fuel + 1) listed a w := by
  subst hd
  exact wpAnyG_plain hi (Region.noSelect_spec hs) hQ (by simpa using his) fuel listed a w (Region.free_spec hi hf) (by simpa using hr) hy hS h

/-- The one that may come up: a call. -/
theorem call {i : Nat} {oi : Oper} {d : Option Tmp} {fuel : Nat} {listed : Array Bool} {a : Act} {w : World} {f : FuncId} {args : Array Value} {R : Value → World → Prop} (hi : ops[i]? = some oi) (hd : oi.dst = d) (hr : Region.ready md ops listed = [i])
    (hw : Region.wanted oi (yielded ops a.tmps) = true) (hv : (execOp a.eval oi).run P w = .ok (.enter f args) w) (hc : Calls P f args w (fun e w'' => ∃ v, e = .returned v ∧ R v w''))
    (h : ∀ v w', R v w' → S w' ∧ wpAnyG P md ops Q S s fuel (listed.setIfInBounds i true) (a.put d v) w') : wpAnyG P md ops Q S s (fuel + 1) listed a w := by
  subst hd
  refine ⟨fun h0 => absurd (hr ▸ h0) (by simp), ?_⟩
  rw [hr]
  intro j hj
  rw [List.mem_singleton] at hj
  subst hj
  unfold wpOp
  simp only [hi, hw, if_true]
  refine .inl ?_
  unfold Oper.wp
  rw [hv]
  simp only [Oper.upon]
  refine hc.mono fun e w'' ⟨v, he, hR⟩ => ?_
  subst he
  exact ⟨fun _ => (h v w'' hR).1, (h v w'' hR).2⟩

/-- The one that may come up: a store, behind the loads. -/
theorem store {i : Nat} {oi : Oper} {d : Option Tmp} {fuel : Nat} {listed : Array Bool} {a : Act} {w w2 : World} (hi : ops[i]? = some oi) (hd : oi.dst = d) (hr : Region.ready md ops listed = [i]) (hl : (listed.setIfInBounds i true).getD s true = true)
    (hw : Region.wanted oi (yielded ops a.tmps) = true) (hv : (execOp a.eval oi).run P w = .ok .skip w2)
    (h : wpAnyG P md ops Q S s fuel (listed.setIfInBounds i true) (a.put d undef) w2) : wpAnyG P md ops Q S s (fuel + 1) listed a w := by
  subst hd
  refine ⟨fun h0 => absurd (hr ▸ h0) (by simp), ?_⟩
  rw [hr]
  intro j hj
  rw [List.mem_singleton] at hj
  subst hj
  unfold wpOp
  simp only [hi, hw, if_true]
  refine .inl ?_
  unfold Oper.wp
  rw [hv]
  simp only [Oper.upon]
  exact ⟨fun hh => (by rw [hl] at hh; cases hh), h⟩

/-- All have come up. -/
theorem done {listed : Array Bool} {a : Act} {w : World} (hr : Region.ready md ops listed = []) (h : Q .normal a w) :
    ∀ fuel, wpAnyG P md ops Q S s fuel listed a w
  | 0 => ⟨hr, h⟩
  | _ + 1 => ⟨fun _ => h, by rw [hr]; simp⟩

/-- The beginning. -/
theorem region {id : Nat} {l : List Oper} {a : Act} {w : World} (S : World → Prop) (s : Nat) (hm : P.follows .mixedOrders = true)
    (h : wpAnyG P .any l.toArray Q S s l.toArray.size (Array.replicate l.toArray.size false) a w.drew) : (Code.region id l.toArray true).wp P Q a w :=
  wp_region_any hm (wpAny_of_G _ _ _ _ h)
end
end HeldTo
end Go.Proofs.YtninglnchengeaaGreatDoor

/-
  HeldTo, where two operations may come up: a call or a store. No program's function.
-/
namespace Go.Proofs.YtninglnchengeaaGreatDoor
open Go.RowKit
set_option linter.unusedVariables false
namespace HeldTo

section
variable {P : Program} {ops : Array Oper} {Q : Exit → Act → World → Prop} {md : Region.Mode} {S : World → Prop} {s : Nat}

def Nx (P : Program) (md : Region.Mode) (ops : Array Oper) (Q : Exit → Act → World → Prop) (S : World → Prop) (s fuel : Nat) (listed : Array Bool) (i : Nat) (a : Act) (w : World) : Prop :=
  ((listed.setIfInBounds i true).getD s true = false → S w) ∧ wpAnyG P md ops Q S s fuel (listed.setIfInBounds i true) a w

/-- Either of two may come up. -/
theorem two {i j : Nat} {fuel : Nat} {listed : Array Bool} {a : Act} {w : World} (hr : Region.ready md ops listed = [i, j])
    (h1 : wpOp P ops Q i (Nx P md ops Q S s fuel listed i) a w) (h2 : wpOp P ops Q j (Nx P md ops Q S s fuel listed j) a w) : wpAnyG P md ops Q S s (fuel + 1) listed a w := by
  refine ⟨fun h0 => absurd (hr ▸ h0) (by simp), ?_⟩
  rw [hr]
  intro k hk
  simp only [List.mem_cons, List.not_mem_nil, or_false] at hk
  rcases hk with rfl | rfl
  · exact h1
  · exact h2
/-- One alone may come up. -/
theorem one {i : Nat} {fuel : Nat} {listed : Array Bool} {a : Act} {w : World} (hr : Region.ready md ops listed = [i])
    (h1 : wpOp P ops Q i (Nx P md ops Q S s fuel listed i) a w) : wpAnyG P md ops Q S s (fuel + 1) listed a w := by
  refine ⟨fun h0 => absurd (hr ▸ h0) (by simp), ?_⟩
  rw [hr]
  intro k hk
  simp only [List.mem_cons, List.not_mem_nil, or_false] at hk
  subst hk
  exact h1

/-- A call. -/
theorem opCall {i : Nat} {oi : Oper} {d : Option Tmp} {fuel : Nat} {listed : Array Bool} {a : Act} {w : World} {f : FuncId} {args : Array Value} {R : Value → World → Prop} (hi : ops[i]? = some oi) (hd : oi.dst = d)
    (hw : Region.wanted oi (yielded ops a.tmps) = true) (hv : (execOp a.eval oi).run P w = .ok (.enter f args) w) (hc : Calls P f args w (fun e w'' => ∃ v, e = .returned v ∧ R v w''))
    (h : ∀ v w', R v w' → S w' ∧ wpAnyG P md ops Q S s fuel (listed.setIfInBounds i true) (a.put d v) w') : wpOp P ops Q i (Nx P md ops Q S s fuel listed i) a w := by
  subst hd
  unfold wpOp
  simp only [hi, hw, if_true]
  refine .inl ?_
  unfold Oper.wp
  rw [hv]
  simp only [Oper.upon]
  refine hc.mono fun e w'' ⟨v, he, hR⟩ => ?_
  subst he
  exact ⟨fun _ => (h v w'' hR).1, (h v w'' hR).2⟩

/-- A value. -/
theorem opVal {i : Nat} {oi : Oper} {d : Option Tmp} {v : Value} {fuel : Nat} {listed : Array Bool} {a : Act} {w w2 : World} (hi : ops[i]? = some oi) (hd : oi.dst = d)
    (hw : Region.wanted oi (yielded ops a.tmps) = true) (hv : (execOp a.eval oi).run P w = .ok (.value v) w2) (hS : S w2)
    (h : wpAnyG P md ops Q S s fuel (listed.setIfInBounds i true) (a.put d v) w2) : wpOp P ops Q i (Nx P md ops Q S s fuel listed i) a w := by
  subst hd
  unfold wpOp
  simp only [hi, hw, if_true]
  refine .inl ?_
  unfold Oper.wp
  rw [hv]
  simp only [Oper.upon]
  exact ⟨fun _ => hS, h⟩

/-- A store. -/
theorem opStore {i : Nat} {oi : Oper} {d : Option Tmp} {fuel : Nat} {listed : Array Bool} {a : Act} {w w2 : World} (hi : ops[i]? = some oi) (hd : oi.dst = d)
    (hw : Region.wanted oi (yielded ops a.tmps) = true) (hv : (execOp a.eval oi).run P w = .ok .skip w2) (hS : S w2)
    (h : wpAnyG P md ops Q S s fuel (listed.setIfInBounds i true) (a.put d undef) w2) : wpOp P ops Q i (Nx P md ops Q S s fuel listed i) a w := by
  subst hd
  unfold wpOp
  simp only [hi, hw, if_true]
  refine .inl ?_
  unfold Oper.wp
  rw [hv]
  simp only [Oper.upon]
  exact ⟨fun _ => hS, h⟩
end
end HeldTo
end Go.Proofs.YtninglnchengeaaGreatDoor

/-
  coi.Spread (written by spread2.py).
-/
namespace Go.Proofs.YtninglnchengeaaGreatDoor
open Go.RowKit Base
set_option linter.unusedVariables false
set_option linter.unusedSimpArgs false
namespace Spr
open Circuit StrashP

def firstB (t : Tri) : UInt8 := if t.2.2 = 1 then 49 else 48
def firstL (x : Circ) : List UInt8 := x.lats.map firstB
structure FirstI (x : Circ) (k : Nat) (R : List UInt8) : Prop where
  len : R.length = x.lats.length
  now : ∀ i, i < k → R[i]? = (x.lats[i]?).map firstB
  old : ∀ i, k ≤ i → i < x.lats.length → R[i]? = some 48
theorem first_start (x : Circ) : FirstI x 0 (List.replicate x.lats.length 48) := ⟨by simp, fun i h => by omega, fun i _ h => by rw [List.getElem?_replicate, if_pos h]⟩
theorem first_no {x : Circ} {k : Nat} {R : List UInt8} (h : FirstI x k R) (hk : k < x.lats.length) (h1 : x.lats[k].2.2 ≠ 1) : FirstI x (k + 1) R :=
  ⟨h.len, fun i hi => by
    by_cases e : i = k
    · subst e
      rw [h.old i (Nat.le_refl _) hk, List.getElem?_eq_getElem hk]
      show _ = some (firstB _)
      unfold firstB
      rw [if_neg h1]
    · exact h.now i (by omega), fun i hi hl => h.old i (by omega) hl⟩
theorem first_yes {x : Circ} {k : Nat} {R : List UInt8} (h : FirstI x k R) (hk : k < x.lats.length) (h1 : x.lats[k].2.2 = 1) : FirstI x (k + 1) (R.set k 49) := by
  have get : ∀ i : Nat, (R.set k 49)[i]? = if k = i then some 49 else R[i]? := fun i => by
    rw [List.getElem?_set]
    by_cases e : k = i
    · rw [if_pos e, if_pos e, if_pos (by rw [h.len]; omega)]
    · rw [if_neg e, if_neg e]
  refine ⟨by rw [List.length_set]; exact h.len, fun i hi => ?_, fun i hi hl => ?_⟩
  · rw [get]
    by_cases e : k = i
    · subst e
      rw [if_pos rfl, List.getElem?_eq_getElem hk]
      show _ = some (firstB _)
      unfold firstB
      rw [if_pos h1]
    · rw [if_neg e]; exact h.now i (by omega)
  · rw [get, if_neg (by omega)]; exact h.old i (by omega) hl
theorem first_end {x : Circ} {k : Nat} {R : List UInt8} (h : FirstI x k R) (hk : x.lats.length ≤ k) : R = firstL x := by
  refine List.ext_getElem? fun i => ?_
  unfold firstL
  rw [List.getElem?_map]
  by_cases hi : i < k
  · exact h.now i hi
  · rw [List.getElem?_eq_none (by rw [h.len]; omega), List.getElem?_eq_none (by omega)]; rfl
def OutsI (x y : Circ) (inp outs : List ByteArray) : Prop := ∀ (i : Nat) s o, inp[i]? = some s → outs[i]? = some o → ∃ R, o = ⟨R.toArray⟩ ∧ Among x.ins y.ins s.data.toList (List.replicate x.ins.length 48) R x.ins.length
theorem right_zero {x y : Circ} {st : ByteArray} {inp : List ByteArray} (h : rightE x y st inp = 0) : CheckOk x ∧ CheckOk y ∧ partB x y = true ∧ bitsB y st inp = true := by
  unfold rightE at h
  by_cases h1 : (tt (CheckOk x) && tt (CheckOk y)) = false
  · rw [if_pos h1] at h; omega
  · rw [if_neg h1] at h
    by_cases h2 : partB x y = false
    · rw [if_pos h2] at h; omega
    · rw [if_neg h2] at h
      by_cases h3 : bitsB y st inp = false
      · rw [if_pos h3] at h; omega
      · simp at h1 h2 h3
        have key : ∀ P : Prop, tt P = true → P := fun P hp => Classical.byContradiction fun hn => by rw [tt_neg hn] at hp; cases hp
        cases hx : tt (CheckOk x)
        · rw [hx] at h1; simp at h1
        · cases hy : tt (CheckOk y)
          · rw [hx, hy] at h1; simp at h1
          · exact ⟨key _ hx, key _ hy, by simpa using h2, by simpa using h3⟩
theorem bits_size {s : ByteArray} {n : Nat} (h : RefBits.bits s.data.toList (n : Int) = true) : s.size = n := by
  unfold RefBits.bits at h
  rw [Bool.and_eq_true, decide_eq_true_eq] at h
  have e : s.data.toList.length = s.size := by rw [Array.length_toList]; rfl
  have := h.2
  omega
theorem box_grown {N : Nat} {cs : List Value} {w w' : World} (h : BoxN N cs w) {row : Option Nat} (hg : w.grownBy w' row) (hne : some N ≠ row) : BoxN N cs w' := by
  have hblk := hg.block N h.lt hne
  refine ⟨Nat.lt_of_lt_of_le h.lt hg.size, fun j u hu => ?_, fun j => ?_⟩
  · exact (World.cell?_of_block (w := w) (a := ⟨N, j, none⟩) hblk).trans (h.at' j u hu)
  · exact (World.frozen?_of_block (w := w) (a := ⟨N, j, none⟩) hblk).trans (h.fz j)
theorem info_strS : (Tryz.prog.info? 9).map (fun i => (i.zero, i.size, i.bytes)) = some (some (.string ⟨#[]⟩), 1, 16) := by kernel_rfl

set_option maxRecDepth 8000 in
set_option maxHeartbeats 4000000 in
theorem spread_no (w : World) (x : Circ) (p : At) (hin : InCirc w x p) (hw : WfC x) (y : Circ) (q : At) (hiq : InCirc w y q) (hyw : WfC y) (bad : Int) (st : ByteArray) (hst : st.size ≤ 9223372036854775807)
    (aI : Option Addr) (cI : Nat) (inp : List ByteArray) (hI : Sl w aI inp.length cI (inp.map Value.string)) (hIz : ∀ s ∈ inp, s.size ≤ 9223372036854775807) (hno : rightE x y st inp ≠ 0) :
    Calls Tryz.prog 6 #[.agg (cells x p), .agg (cells y q), .agg #[.int .i64 bad, .string st, .slice aI inp.length cI]] w fun e w' => e = .returned (.tuple #[.agg #[.int .i64 0, .string ⟨#[]⟩, .slice none 0 0], .int .i64 (rightE x y st inp)]) ∧ Below w.heap.size w w' := by
  obtain ⟨W1, hW1⟩ : ∃ U, w.alloc (.cells (cells x p) 27) = U := ⟨_, rfl⟩
  obtain ⟨hb1, hx1⟩ := cbox_new w x p W1 hW1
  obtain ⟨W2, hW2⟩ : ∃ U, W1.alloc (.cells (cells y q) 27) = U := ⟨_, rfl⟩
  obtain ⟨hb2, hx2⟩ := cbox_new W1 y q W2 hW2
  obtain ⟨W3, hW3⟩ : ∃ U, W2.alloc (.cells #[.int .i64 bad, .string st, .slice aI inp.length cI] 30) = U := ⟨_, rfl⟩
  have hb3 : Below W2.heap.size W2 W3 := by rw [← hW3]; exact (Below.refl _ _).alloc (Nat.le_refl _) _
  have hx3 : BoxN W2.heap.size [.int .i64 bad, .string st, .slice aI inp.length cI] W3 := by rw [← hW3]; exact BoxN.new W2 _ _
  obtain ⟨W4, hW4⟩ : ∃ U, W3.alloc (.cells #[.int .i64 0, .string ⟨#[]⟩, .slice none 0 0] 30) = U := ⟨_, rfl⟩
  have hb4 : Below W3.heap.size W3 W4 := by rw [← hW4]; exact (Below.refl _ _).alloc (Nat.le_refl _) _
  have hx4 : BoxN W3.heap.size [.int .i64 0, .string ⟨#[]⟩, .slice none 0 0] W4 := by rw [← hW4]; exact BoxN.new W3 _ _
  have hb24 : Below W2.heap.size W2 W4 := hb3.trans (hb4.mono hb3.size)
  have hb14 : Below W1.heap.size W1 W4 := hb2.trans (hb24.mono hb2.size)
  have hb04 : Below w.heap.size w W4 := hb1.trans (hb14.mono hb1.size)
  have HB4 := Lib.hid hb04
  have hl1 : w.heap.size < W1.heap.size := hx1.lt
  have hl2 : W1.heap.size < W2.heap.size := hx2.lt
  have hl3 : W2.heap.size < W3.heap.size := hx3.lt
  have hl4 : W3.heap.size < W4.heap.size := hx4.lt
  have HLT := Lib.hid (And.intro hl1 (And.intro hl2 (And.intro hl3 hl4)))
  have HX := Lib.hid (fun (U : World) (hU : Below W4.heap.size W4 U) => (hx1.next hb14 (Nat.le_refl _)).next hU (Nat.le_refl _))
  have HY := Lib.hid (fun (U : World) (hU : Below W4.heap.size W4 U) => (hx2.next hb24 (Nat.le_refl _)).next hU (Nat.le_refl _))
  have HW := Lib.hid (fun (U : World) (hU : Below W4.heap.size W4 U) => (hx3.next hb4 hx3.lt).next hU (Nat.lt_of_lt_of_le hx3.lt hb4.size))
  have HZ := Lib.hid (fun (U : World) (hU : Below W4.heap.size W4 U) => hx4.next hU hx4.lt)
  have HIX := Lib.hid (fun (U : World) (hU : Below W4.heap.size W4 U) => hin.next (hb04.trans (hU.mono hb04.size)))
  have HIY := Lib.hid (fun (U : World) (hU : Below W4.heap.size W4 U) => hiq.next (hb04.trans (hU.mono hb04.size)))
  have HII := Lib.hid (fun (U : World) (hU : Below W4.heap.size W4 U) => hI.next (hb04.trans (hU.mono hb04.size)))
  have HRI := right_any W4 x p (hin.next hb04) hw y q (hiq.next hb04) hyw bad st hst aI cI inp (hI.next hb04) hIz
  have hcl := hin.lats.cap
  have hgl := hin.lats.big
  have hcI := hI.cap
  have hgI := hI.big
  obtain ⟨er, her⟩ : ∃ r, rightE x y st inp = r := ⟨_, rfl⟩
  rw [her] at HRI hno ⊢
  have hne : (er != 0) = true := by simpa using hno
  obtain ⟨a1, c1, a2, c2, a3, c3, a4, c4, a5, c5, a6, c6, a7, c7⟩ := p
  obtain ⟨b1, d1, b2, d2, b3, d3, b4, d4, b5, d5, b6, d6, b7, d7⟩ := q
  simp only [cells] at hW1 hW2 HRI ⊢
  have HR := Lib.hid HRI
  clear hin hw hiq hyw hst hI hIz hb1 hx1 hb2 hx2 hb3 hx3 hb4 hx4 hb24 hb14 hb04 HRI her hno hl1 hl2 hl3 hl4
  have c := HX.out W4 (Below.refl _ _)
  have k0 := c.k0
  have k1 := c.k1
  have k2 := c.k2
  have k3 := c.k3
  have k4 := c.k4
  have k5 := c.k5
  have k6 := c.k6
  have k7 := c.k7
  have d := HY.out W4 (Below.refl _ _)
  have j0 := d.k0
  have j1 := d.k1
  have j2 := d.k2
  have j3 := d.k3
  have j4 := d.k4
  have j5 := d.k5
  have j6 := d.k6
  have j7 := d.k7
  have e := HW.out W4 (Below.refl _ _)
  have v0 := e.at' 0 _ rfl
  have v1 := e.at' 1 _ rfl
  have v2 := e.at' 2 _ rfl
  clear c d e
  try simp only at k0 k1 k2 k3 k4 k5 k6 k7 j0 j1 j2 j3 j4 j5 j6 j7
  go_enter Tryz.func6, Tryz.ntmps6
  go_wp2_with fail
  clear hW1 hW2 hW3 hW4
  with_reducible refine HR.out.mono ?_
  rintro e w5 ⟨rfl, hb5⟩
  have HB5 := Lib.hid hb5
  have hz := HZ.out w5 hb5
  have y0 := hz.at' 0 _ rfl
  have y1 := hz.at' 1 _ rfl
  have y2 := hz.at' 2 _ rfl
  have z := hz.fz
  clear k0 k1 k2 k3 k4 k5 k6 k7 j0 j1 j2 j3 j4 j5 j6 j7 v0 v1 v2
  clear hb5 hz
  go_wp2_with fail
  refine bodyPost_ret (v := .tuple #[.agg #[.int .i64 0, .string ⟨#[]⟩, .slice none 0 0], .int .i64 er]) (by simp [results, Tryz.results6, go_sem, y0, y1, y2]) rfl ?_
  refine ⟨rfl, ?_⟩
  have ob : OffB W3.heap.size w5 _ := (((OffB.refl W3.heap.size w5).set 0 (.int .i64 0)).set 1 (.string ⟨#[]⟩)).set 2 (.slice none 0 0)
  exact ob.base (HB4.out.trans (HB5.out.mono HB4.out.size)) (Nat.le_trans HB4.out.size HB5.out.size) (by have := HLT.out; omega)

set_option maxRecDepth 8000 in
set_option maxHeartbeats 16000000 in
theorem spread_ok (w : World) (x : Circ) (p : At) (hin : InCirc w x p) (hw : WfC x) (y : Circ) (q : At) (hiq : InCirc w y q) (hyw : WfC y) (bad : Int) (st : ByteArray) (hst : st.size ≤ 9223372036854775807)
    (aI : Option Addr) (cI : Nat) (inp : List ByteArray) (hI : Sl w aI inp.length cI (inp.map Value.string)) (hIz : ∀ s ∈ inp, s.size ≤ 9223372036854775807) (hIL : inp.length * 16 ≤ 140737488351232) (hok : rightE x y st inp = 0) :
    Calls Tryz.prog 6 #[.agg (cells x p), .agg (cells y q), .agg #[.int .i64 bad, .string st, .slice aI inp.length cI]] w fun e w' => ∃ (R : List UInt8) (aO : Option Addr) (cO : Nat) (outs : List ByteArray), e = .returned (.tuple #[.agg #[.int .i64 bad, .string ⟨R.toArray⟩, .slice aO inp.length cO], .int .i64 0]) ∧ Among (x.lats.map (·.1)) (y.lats.map (·.1)) st.data.toList (firstL x) R x.lats.length ∧
      outs.length = inp.length ∧ OutsI x y inp outs ∧ Sl w' aO inp.length cO (outs.map Value.string) ∧ Below w.heap.size w w' := by
  obtain ⟨W1, hW1⟩ : ∃ U, w.alloc (.cells (cells x p) 27) = U := ⟨_, rfl⟩
  obtain ⟨hb1, hx1⟩ := cbox_new w x p W1 hW1
  obtain ⟨W2, hW2⟩ : ∃ U, W1.alloc (.cells (cells y q) 27) = U := ⟨_, rfl⟩
  obtain ⟨hb2, hx2⟩ := cbox_new W1 y q W2 hW2
  obtain ⟨W3, hW3⟩ : ∃ U, W2.alloc (.cells #[.int .i64 bad, .string st, .slice aI inp.length cI] 30) = U := ⟨_, rfl⟩
  have hb3 : Below W2.heap.size W2 W3 := by rw [← hW3]; exact (Below.refl _ _).alloc (Nat.le_refl _) _
  have hx3 : BoxN W2.heap.size [.int .i64 bad, .string st, .slice aI inp.length cI] W3 := by rw [← hW3]; exact BoxN.new W2 _ _
  obtain ⟨W4, hW4⟩ : ∃ U, W3.alloc (.cells #[.int .i64 0, .string ⟨#[]⟩, .slice none 0 0] 30) = U := ⟨_, rfl⟩
  have hb4 : Below W3.heap.size W3 W4 := by rw [← hW4]; exact (Below.refl _ _).alloc (Nat.le_refl _) _
  have hx4 : BoxN W3.heap.size [.int .i64 0, .string ⟨#[]⟩, .slice none 0 0] W4 := by rw [← hW4]; exact BoxN.new W3 _ _
  have hb24 : Below W2.heap.size W2 W4 := hb3.trans (hb4.mono hb3.size)
  have hb14 : Below W1.heap.size W1 W4 := hb2.trans (hb24.mono hb2.size)
  have hb04 : Below w.heap.size w W4 := hb1.trans (hb14.mono hb1.size)
  have HB4 := Lib.hid hb04
  have hl1 : w.heap.size < W1.heap.size := hx1.lt
  have hl2 : W1.heap.size < W2.heap.size := hx2.lt
  have hl3 : W2.heap.size < W3.heap.size := hx3.lt
  have hl4 : W3.heap.size < W4.heap.size := hx4.lt
  have HLT := Lib.hid (And.intro hl1 (And.intro hl2 (And.intro hl3 hl4)))
  have HX := Lib.hid (fun (U : World) (hU : Below W4.heap.size W4 U) => (hx1.next hb14 (Nat.le_refl _)).next hU (Nat.le_refl _))
  have HY := Lib.hid (fun (U : World) (hU : Below W4.heap.size W4 U) => (hx2.next hb24 (Nat.le_refl _)).next hU (Nat.le_refl _))
  have HW := Lib.hid (fun (U : World) (hU : Below W4.heap.size W4 U) => (hx3.next hb4 hx3.lt).next hU (Nat.lt_of_lt_of_le hx3.lt hb4.size))
  have HZ := Lib.hid (fun (U : World) (hU : Below W4.heap.size W4 U) => hx4.next hU hx4.lt)
  have HIX := Lib.hid (fun (U : World) (hU : Below W4.heap.size W4 U) => hin.next (hb04.trans (hU.mono hb04.size)))
  have HIY := Lib.hid (fun (U : World) (hU : Below W4.heap.size W4 U) => hiq.next (hb04.trans (hU.mono hb04.size)))
  have HII := Lib.hid (fun (U : World) (hU : Below W4.heap.size W4 U) => hI.next (hb04.trans (hU.mono hb04.size)))
  have HRI := right_any W4 x p (hin.next hb04) hw y q (hiq.next hb04) hyw bad st hst aI cI inp (hI.next hb04) hIz
  have hcl := hin.lats.cap
  have hgl := hin.lats.big
  have hcI := hI.cap
  have hgI := hI.big
  obtain ⟨hcx, hcy, hpt, hbt⟩ := right_zero hok
  rw [hok] at HRI
  have HLX : Hid (x.lats.length ≤ 1000000) := by show _ ≤ _; have := hcx.1.2.2.2.1; omega
  have HLY : Hid (y.lats.length ≤ 1000000) := by show _ ≤ _; have := hcy.1.2.2.2.1; omega
  have HLI : Hid (x.ins.length ≤ 1000000) := by show _ ≤ _; have := hcx.1.2.2.1; omega
  have hbt1 : RefBits.bits st.data.toList (y.lats.length : Int) = true ∧ (inp.all fun s => RefBits.bits s.data.toList (y.ins.length : Int)) = true := by
    unfold bitsB at hbt
    rwa [Bool.and_eq_true] at hbt
  have HSZ : Hid (st.size = y.lats.length) := bits_size hbt1.1
  have HIL : Hid (inp.length * 16 ≤ 140737488351232) := hIL
  have HIS : Hid (∀ s ∈ inp, s.size = y.ins.length) := fun s hs => bits_size (List.all_eq_true.1 hbt1.2 s hs)
  have HWX : Hid (∀ t ∈ x.lats, Circuit.I64 t.2.2) := fun t ht => (hw.lats t ht).2.2
  have hcn := hin.ins.cap
  have hgn := hin.ins.big
  have hcm := hiq.ins.cap
  have hgm := hiq.ins.big
  obtain ⟨a1, c1, a2, c2, a3, c3, a4, c4, a5, c5, a6, c6, a7, c7⟩ := p
  obtain ⟨b1, d1, b2, d2, b3, d3, b4, d4, b5, d5, b6, d6, b7, d7⟩ := q
  simp only [cells] at hW1 hW2 HRI ⊢
  simp only at hcl hgl hcn hgn hcm hgm
  have HR := Lib.hid HRI
  clear hin hw hiq hyw hst hI hIz hb1 hx1 hb2 hx2 hb3 hx3 hb4 hx4 hb24 hb14 hb04 HRI hok hIL hl1 hl2 hl3 hl4 hcx hcy hpt hbt hbt1
  have c := HX.out W4 (Below.refl _ _)
  have k0 := c.k0
  have k1 := c.k1
  have k2 := c.k2
  have k3 := c.k3
  have k4 := c.k4
  have k5 := c.k5
  have k6 := c.k6
  have k7 := c.k7
  have d := HY.out W4 (Below.refl _ _)
  have j0 := d.k0
  have j1 := d.k1
  have j2 := d.k2
  have j3 := d.k3
  have j4 := d.k4
  have j5 := d.k5
  have j6 := d.k6
  have j7 := d.k7
  have e := HW.out W4 (Below.refl _ _)
  have v0 := e.at' 0 _ rfl
  have v1 := e.at' 1 _ rfl
  have v2 := e.at' 2 _ rfl
  clear c d e
  try simp only at k0 k1 k2 k3 k4 k5 k6 k7 j0 j1 j2 j3 j4 j5 j6 j7
  go_enter Tryz.func6, Tryz.ntmps6
  go_wp2_with fail
  clear hW1 hW2 hW3 hW4
  with_reducible refine HR.out.mono ?_
  rintro e w5 ⟨rfl, hb5⟩
  have HB5 := Lib.hid hb5
  clear k0 k1 k2 k3 k4 k5 k6 k7 j0 j1 j2 j3 j4 j5 j6 j7 v0 v1 v2
  have c := HX.out w5 hb5
  have k2 := c.k2
  try simp only at k2
  clear c hb5
  have HZN := Lib.hid (zeros_any w5 x.lats.length HLX.out)
  go_wp2_with fail
  with_reducible refine HZN.out.mono ?_
  rintro e w6 ⟨g1, rfl, hg1, hge, hb6⟩
  have HG := Lib.hid hg1
  have HG0 : Hid (W4.heap.size ≤ g1) := Nat.le_trans HB5.out.size hge
  have HB6 := Lib.hid (HB5.out.trans (hb6.mono HB5.out.size))
  have HG16 : Hid (g1 < w6.heap.size) := hg1.lt
  have hg0 : W4.heap.size ≤ g1 := HG0.out
  have c := HX.out w6 HB6.out
  clear k2
  have k2 := c.k2
  try simp only at k2
  clear c hg1 hge hb6
  have HLA := Lib.hid (fun (U : World) (hU : Below W4.heap.size W4 U) => (HIX.out U hU).lats)
  go_wp2_with fail
  go_loopw [30] (fun i wr => ∃ (k : Nat) (R : List UInt8), k ≤ x.lats.length ∧ i = .int .i64 k ∧ Hid (FirstI x k R) ∧ Hid (BoxN g1 (bytesL R) wr) ∧ Hid (Below W4.heap.size W4 wr) ∧ Hid (w6.heap.size ≤ wr.heap.size)) (fun i _ => x.lats.length - (Go.RowKit.intOf i).toNat)
  case atStart => exact ⟨0, List.replicate x.lats.length 48, Nat.zero_le _, rfl, first_start x, HG.out, HB6.out, Nat.le_refl _⟩
  case round =>
    clear HG
    obtain ⟨k, R, hk, rfl, hF, hX, hB, hS⟩ := hrel
    by_cases hlt : k < x.lats.length
    · obtain ⟨b, o, hx, hae, hbs, f0, f1, f2⟩ := (HLA.out wr hB.out).tri hlt
      try simp only at hae
      subst hae
      have HFN := Lib.hid (first_no hF.out hx)
      have HFY := Lib.hid (first_yes hF.out hx)
      have hkR : k < R.length := by rw [hF.out.len]; exact hlt
      obtain ⟨v0, hv0⟩ : ∃ v, R[k]? = some v := ⟨_, List.getElem?_eq_getElem hkR⟩
      generalize x.lats[k] = t at *
      obtain ⟨w7, hw7⟩ : ∃ U, wr.alloc (.cells #[.int .i64 t.1, .int .i64 t.2.1, .int .i64 t.2.2] 37) = U := ⟨_, rfl⟩
      have hb7 : Below wr.heap.size wr w7 := by rw [← hw7]; exact (Below.refl _ _).alloc (Nat.le_refl _) _
      have hX7 := hX.out.next hb7 hX.out.lt
      have e0 := hX7.at' k _ (bytesL_get hv0)
      have z0 := hX7.fz k
      have HX7 := Lib.hid hX7
      have HB7 := Lib.hid (hB.out.trans (hb7.mono hB.out.size))
      have HS7 : Hid (w6.heap.size ≤ w7.heap.size) := Nat.le_trans hS.out hb7.size
      have y2 : w7.cell? ⟨wr.heap.size, 2, none⟩ = some (.int .i64 t.2.2) := by rw [← hw7]; simp [go_sem]
      have HW7 := Lib.hid hw7
      clear hb7 hX7 hw7 hkR hv0
      go_upto_region 8 with fail
      try rw [HW7.out]
      by_cases h1 : t.2.2 = 1
      · have h1b : (t.2.2 == 1) = true := by simpa using h1
        have HF2 := Lib.hid (HFY.out h1)
        have HX8 : Hid (BoxN g1 (bytesL (R.set k 49)) (w7.setCell ⟨g1, k, none⟩ (.int .u8 49))) := by
          have h := HX7.out.set k (.int .u8 ((49 : UInt8).toNat : Int))
          rw [bytesL_set] at h
          exact h
        have HB8 := Lib.hid (HB7.out.setCell (p := ⟨g1, k, none⟩) hg0 (.int .u8 49))
        clear h1 HFN HFY
        go_wp2_with fail
        go_roundw
        case rel => exact ⟨k + 1, R.set k 49, by omega, by go_num, HF2.out, HX8.out, HB8.out, by show _ ≤ _; simpa [World.setCell] using HS7.out⟩
        case measure => simp [Go.RowKit.intOf]; omega
      · have h1b : (t.2.2 == 1) = false := by simpa using h1
        have HF2 := Lib.hid (HFN.out h1)
        clear h1 HFN HFY
        go_wp2_with fail
        go_roundw
        case rel => exact ⟨k + 1, R, by omega, by go_num, HF2.out, HX7.out, HB7.out, HS7.out⟩
        case measure => simp [Go.RowKit.intOf]; omega
    · have hend : R = firstL x := first_end hF.out (by omega)
      subst hend
      have HG1 : Hid (g1 < wr.heap.size) := hX.out.lt
      clear hF k2
      generalize wr = w7 at *
      go_upto_region 11 with fail
      go_cut [12] from 42 to 53 (fun u12 wx => ∃ (N : Nat) (R : List UInt8), u12 = .pointer (some ⟨N, 0, none⟩) ∧ Hid (W4.heap.size ≤ N) ∧ Hid (Among (x.lats.map (·.1)) (y.lats.map (·.1)) st.data.toList (firstL x) R x.lats.length) ∧ Hid (BoxN N [.int .i64 bad, .string ⟨R.toArray⟩, .slice none 0 0] wx) ∧ Hid (Below W4.heap.size W4 wx))
      case first =>
        have hSK : ∀ U : World, Below W4.heap.size W4 U → U.cell? ⟨w.heap.size, 0, none⟩ = some (.int .i64 x.max) ∧ U.cell? ⟨w.heap.size, 1, none⟩ = some (.slice a1 x.ins.length c1) ∧ U.cell? ⟨w.heap.size, 2, none⟩ = some (.slice a2 x.lats.length c2) ∧ U.cell? ⟨w.heap.size, 3, none⟩ = some (.slice a3 x.outs.length c3) ∧ U.cell? ⟨w.heap.size, 4, none⟩ = some (.slice a4 x.bads.length c4) ∧ U.cell? ⟨w.heap.size, 5, none⟩ = some (.slice a5 x.invs.length c5) ∧ U.cell? ⟨w.heap.size, 6, none⟩ = some (.slice a6 x.ands.length c6) ∧ U.cell? ⟨w.heap.size, 7, none⟩ = some (.slice a7 x.names.length c7) ∧ U.cell? ⟨W1.heap.size, 0, none⟩ = some (.int .i64 y.max) ∧ U.cell? ⟨W1.heap.size, 1, none⟩ = some (.slice b1 y.ins.length d1) ∧ U.cell? ⟨W1.heap.size, 2, none⟩ = some (.slice b2 y.lats.length d2) ∧ U.cell? ⟨W1.heap.size, 3, none⟩ = some (.slice b3 y.outs.length d3) ∧ U.cell? ⟨W1.heap.size, 4, none⟩ = some (.slice b4 y.bads.length d4) ∧ U.cell? ⟨W1.heap.size, 5, none⟩ = some (.slice b5 y.invs.length d5) ∧ U.cell? ⟨W1.heap.size, 6, none⟩ = some (.slice b6 y.ands.length d6) ∧ U.cell? ⟨W1.heap.size, 7, none⟩ = some (.slice b7 y.names.length d7) ∧ U.cell? ⟨W2.heap.size, 0, none⟩ = some (.int .i64 bad) ∧ U.cell? ⟨W2.heap.size, 1, none⟩ = some (.string st) ∧ U.cell? ⟨W2.heap.size, 2, none⟩ = some (.slice aI inp.length cI) := fun U hU => by
          have c := HX.out U hU
          have d := HY.out U hU
          have e := HW.out U hU
          exact ⟨c.k0, c.k1, c.k2, c.k3, c.k4, c.k5, c.k6, c.k7, d.k0, d.k1, d.k2, d.k3, d.k4, d.k5, d.k6, d.k7, e.at' 0 _ rfl, e.at' 1 _ rfl, e.at' 2 _ rfl⟩
        have bb := hB.out.trans (Below.refl _ _).drew
        have bg := hX.out.next (Below.refl _ _).drew hX.out.lt
        have hu7 : w7.heap.size ≤ w7.drew.heap.size := Nat.le_refl _
        have hS0 := hSK _ bb
        refine HeldTo.region (fun U : World => U.cell? ⟨w.heap.size, 0, none⟩ = some (.int .i64 x.max) ∧ U.cell? ⟨w.heap.size, 1, none⟩ = some (.slice a1 x.ins.length c1) ∧ U.cell? ⟨w.heap.size, 2, none⟩ = some (.slice a2 x.lats.length c2) ∧ U.cell? ⟨w.heap.size, 3, none⟩ = some (.slice a3 x.outs.length c3) ∧ U.cell? ⟨w.heap.size, 4, none⟩ = some (.slice a4 x.bads.length c4) ∧ U.cell? ⟨w.heap.size, 5, none⟩ = some (.slice a5 x.invs.length c5) ∧ U.cell? ⟨w.heap.size, 6, none⟩ = some (.slice a6 x.ands.length c6) ∧ U.cell? ⟨w.heap.size, 7, none⟩ = some (.slice a7 x.names.length c7) ∧ U.cell? ⟨W1.heap.size, 0, none⟩ = some (.int .i64 y.max) ∧ U.cell? ⟨W1.heap.size, 1, none⟩ = some (.slice b1 y.ins.length d1) ∧ U.cell? ⟨W1.heap.size, 2, none⟩ = some (.slice b2 y.lats.length d2) ∧ U.cell? ⟨W1.heap.size, 3, none⟩ = some (.slice b3 y.outs.length d3) ∧ U.cell? ⟨W1.heap.size, 4, none⟩ = some (.slice b4 y.bads.length d4) ∧ U.cell? ⟨W1.heap.size, 5, none⟩ = some (.slice b5 y.invs.length d5) ∧ U.cell? ⟨W1.heap.size, 6, none⟩ = some (.slice b6 y.ands.length d6) ∧ U.cell? ⟨W1.heap.size, 7, none⟩ = some (.slice b7 y.names.length d7) ∧ U.cell? ⟨W2.heap.size, 0, none⟩ = some (.int .i64 bad) ∧ U.cell? ⟨W2.heap.size, 1, none⟩ = some (.string st) ∧ U.cell? ⟨W2.heap.size, 2, none⟩ = some (.slice aI inp.length cI)) 12 (by kernel_rfl) ?_
        obtain ⟨u0, hu0⟩ : ∃ U, w7.drew = U := ⟨_, rfl⟩
        rw [hu0] at bb bg hu7 hS0 ⊢
        (refine HeldTo.plain (i := 0) (oi := _) (d := some 42) (v := ?_) rfl rfl (by kernel_rfl) (by kernel_rfl) (by kernel_rfl) (by kernel_rfl) (fun _ _ _ h => h) (Or.inl ⟨by rfl, ?_⟩) (fun _ => hS0) ?_; rotate_left; (focus (intro w hSw; clear hSw; go_simp; (try with_reducible rfl); done)); (try simp only [Act.put, List.setIfInBounds_toArray, List.set_cons_zero, List.set_cons_succ]))
        (refine HeldTo.take (i := 1) (oi := _) (d := some 43) (v := ?_) rfl rfl (by kernel_rfl) (by kernel_rfl) (by kernel_rfl) (by kernel_rfl) (by kernel_rfl) (by kernel_rfl) (fun _ _ _ h => h) (Or.inl ⟨by rfl, ?_⟩) hS0 ?_; rotate_left; (focus (intro w hSw; (try dsimp only at hSw); go_simp; (try with_reducible rfl); done)); (try simp only [Act.put, List.setIfInBounds_toArray, List.set_cons_zero, List.set_cons_succ]))
        (refine HeldTo.take (i := 2) (oi := _) (d := some 44) (v := ?_) rfl rfl (by kernel_rfl) (by kernel_rfl) (by kernel_rfl) (by kernel_rfl) (by kernel_rfl) (by kernel_rfl) (fun _ _ _ h => h) (Or.inl ⟨by rfl, ?_⟩) hS0 ?_; rotate_left; (focus (intro w hSw; (try dsimp only at hSw); go_simp; (try with_reducible rfl); done)); (try simp only [Act.put, List.setIfInBounds_toArray, List.set_cons_zero, List.set_cons_succ]))
        (refine HeldTo.take (i := 4) (oi := _) (d := some 46) (v := ?_) rfl rfl (by kernel_rfl) (by kernel_rfl) (by kernel_rfl) (by kernel_rfl) (by kernel_rfl) (by kernel_rfl) (fun _ _ _ h => h) (Or.inl ⟨by rfl, ?_⟩) hS0 ?_; rotate_left; (focus (intro w hSw; (try dsimp only at hSw); go_simp; (try with_reducible rfl); done)); (try simp only [Act.put, List.setIfInBounds_toArray, List.set_cons_zero, List.set_cons_succ]))
        (refine HeldTo.plain (i := 6) (oi := _) (d := some 48) (v := ?_) rfl rfl (by kernel_rfl) (by kernel_rfl) (by kernel_rfl) (by kernel_rfl) (fun _ _ _ h => h) (Or.inl ⟨by rfl, ?_⟩) (fun _ => hS0) ?_; rotate_left; (focus (intro w hSw; clear hSw; go_simp; (try with_reducible rfl); done)); (try simp only [Act.put, List.setIfInBounds_toArray, List.set_cons_zero, List.set_cons_succ]))
        (refine HeldTo.take (i := 7) (oi := _) (d := some 49) (v := ?_) rfl rfl (by kernel_rfl) (by kernel_rfl) (by kernel_rfl) (by kernel_rfl) (by kernel_rfl) (by kernel_rfl) (fun _ _ _ h => h) (Or.inl ⟨by rfl, ?_⟩) hS0 ?_; rotate_left; (focus (intro w hSw; (try dsimp only at hSw); go_simp; (try with_reducible rfl); done)); (try simp only [Act.put, List.setIfInBounds_toArray, List.set_cons_zero, List.set_cons_succ]))
        (refine HeldTo.plain (i := 8) (oi := _) (d := some 50) (v := ?_) rfl rfl (by kernel_rfl) (by kernel_rfl) (by kernel_rfl) (by kernel_rfl) (fun _ _ _ h => h) (Or.inl ⟨by rfl, ?_⟩) (fun _ => hS0) ?_; rotate_left; (focus (intro w hSw; clear hSw; go_simp; (try with_reducible rfl); done)); (try simp only [Act.put, List.setIfInBounds_toArray, List.set_cons_zero, List.set_cons_succ]))
        refine HeldTo.two (i := 3) (j := 11) (by kernel_rfl) ?_ ?_
        · skip
          have hll := latchLits_any u0 x ⟨a1, c1, a2, c2, a3, c3, a4, c4, a5, c5, a6, c6, a7, c7⟩ (HIX.out u0 bb) HLX.out
          simp only [cells] at hll
          refine HeldTo.opCall (i := 3) (oi := _) (d := some 45) (R := fun v w' => ∃ a c, v = .slice a x.lats.length c ∧ w'.ownsRow u0.heap.size 3 1 (.slice a x.lats.length c) x.lats.length (ints (x.lats.map (·.1))) ∧ Below u0.heap.size u0 w') rfl rfl (by rfl) (by go_simp; done) (hll.mono fun e w' h => by obtain ⟨a, c, he, ho, hb⟩ := h; exact ⟨_, he, a, c, rfl, ho, hb⟩) ?_
          rintro v u1 ⟨xa, xc, rfl, xo, su⟩
          have xo := own_mono xo hu7
          have hu7 := Nat.le_trans hu7 su.size
          have bb := bb.trans (su.mono bb.size)
          have bg := bg.next su bg.lt
          refine ⟨hSK _ bb, ?_⟩
          (try simp only [Act.put, List.setIfInBounds_toArray, List.set_cons_zero, List.set_cons_succ])
          have hS0 := hSK _ bb
          clear su hll
          refine HeldTo.two (i := 5) (j := 11) (by kernel_rfl) ?_ ?_
          · skip
            have hll := latchLits_any u1 y ⟨b1, d1, b2, d2, b3, d3, b4, d4, b5, d5, b6, d6, b7, d7⟩ (HIY.out u1 bb) HLY.out
            simp only [cells] at hll
            refine HeldTo.opCall (i := 5) (oi := _) (d := some 47) (R := fun v w' => ∃ a c, v = .slice a y.lats.length c ∧ w'.ownsRow u1.heap.size 3 1 (.slice a y.lats.length c) y.lats.length (ints (y.lats.map (·.1))) ∧ Below u1.heap.size u1 w') rfl rfl (by rfl) (by go_simp; done) (hll.mono fun e w' h => by obtain ⟨a, c, he, ho, hb⟩ := h; exact ⟨_, he, a, c, rfl, ho, hb⟩) ?_
            rintro v u2 ⟨ya, yc, rfl, yo, su⟩
            have yo := own_mono yo hu7
            have hu7 := Nat.le_trans hu7 su.size
            have bb := bb.trans (su.mono bb.size)
            have bg := bg.next su bg.lt
            have xo := own_next xo su
            refine ⟨hSK _ bb, ?_⟩
            (try simp only [Act.put, List.setIfInBounds_toArray, List.set_cons_zero, List.set_cons_succ])
            have hS0 := hSK _ bb
            clear su hll
            refine HeldTo.two (i := 9) (j := 11) (by kernel_rfl) ?_ ?_
            · skip
              have hsp := spread_any u2 xa xc (x.lats.map (·.1)) (by rw [List.length_map]; exact own_sl' xo) ya yc (y.lats.map (·.1)) (by rw [List.length_map]; exact own_sl' yo) st (by rw [List.length_map]; exact HSZ.out) g1 (firstL x) bg (by simp [firstL]) (fun b o e _ => by have := (xo.lt b (by rw [e]; rfl)).1; have := HG1.out; omega) (fun b o e _ => by have := (yo.lt b (by rw [e]; rfl)).1; have := HG1.out; omega) (by rw [List.length_map]; exact HLX.out)
              simp only [List.length_map] at hsp
              refine HeldTo.opCall (i := 9) (oi := _) (d := some 51) (R := fun v w' => ∃ R, v = .string ⟨R.toArray⟩ ∧ Among (x.lats.map (·.1)) (y.lats.map (·.1)) st.data.toList (firstL x) R x.lats.length ∧ OffB g1 u2 w') rfl rfl (by rfl) (by go_simp; done) (hsp.mono fun e w' h => by obtain ⟨R, he, h1, h2⟩ := h; exact ⟨_, he, R, rfl, h1, h2⟩) ?_
              rintro v u3 ⟨R9, rfl, hAm, ob⟩
              have bb0 := bb.size
              have bb := ob.base bb bb0 HG0.out
              have hu7 := Nat.le_trans hu7 ob.size
              refine ⟨hSK _ bb, ?_⟩
              (try simp only [Act.put, List.setIfInBounds_toArray, List.set_cons_zero, List.set_cons_succ])
              have hS0 := hSK _ bb
              clear ob hsp bb0 xo yo bg
              (refine HeldTo.take (i := 10) (oi := _) (d := some 52) (v := ?_) rfl rfl (by kernel_rfl) (by kernel_rfl) (by kernel_rfl) (by kernel_rfl) (by kernel_rfl) (by kernel_rfl) (fun _ _ _ h => h) (Or.inl ⟨by rfl, ?_⟩) hS0 ?_; rotate_left; (focus (intro w hSw; clear hSw; go_simp; (try with_reducible rfl); done)); (try simp only [Act.put, List.setIfInBounds_toArray, List.set_cons_zero, List.set_cons_succ]))
              refine HeldTo.one (i := 11) (by kernel_rfl) ?_
              obtain ⟨u4, hv⟩ : ∃ V, u3.alloc (.cells #[.int .i64 0, .string ⟨#[]⟩, .slice none 0 0] 30) = V := ⟨_, rfl⟩
              have su : Below u3.heap.size u3 u4 := by rw [← hv]; exact (Below.refl _ _).alloc (Nat.le_refl _) _
              have bn : BoxN u3.heap.size [.int .i64 0, .string ⟨#[]⟩, .slice none 0 0] u4 := by rw [← hv]; exact BoxN.new u3 _ _
              have hN9 : W4.heap.size ≤ u3.heap.size := bb.size
              have hNg : u3.heap.size ≠ g1 := by have := HG1.out; omega
              refine HeldTo.opVal (i := 11) (oi := _) (d := some 12) (v := .pointer (some ⟨u3.heap.size, 0, none⟩)) (w2 := u4) rfl rfl (by rfl) (by rw [← hv]; go_simp; done) (hSK _ (bb.trans (su.mono bb.size))) ?_
              (try simp only [Act.put, List.setIfInBounds_toArray, List.set_cons_zero, List.set_cons_succ])
              have hu7 := Nat.le_trans hu7 su.size
              have bb := bb.trans (su.mono bb.size)
              generalize hNN : u3.heap.size = N9 at bn hN9 hNg ⊢
              have hS0 := hSK _ bb
              clear su hNN hv
              have y0 := bn.at' 0 _ rfl
              have y1 := bn.at' 1 _ rfl
              have y2 := bn.at' 2 _ rfl
              have z := bn.fz
              refine HeldTo.store (i := 12) (oi := _) (d := none) (w2 := ((u4.setCell ⟨N9, 0, none⟩ (.int .i64 bad)).setCell ⟨N9, 1, none⟩ (.string ⟨R9.toArray⟩)).setCell ⟨N9, 2, none⟩ (.slice none 0 0)) rfl rfl (by kernel_rfl) (by kernel_rfl) (by rfl) (by go_simp; done) ?_
              (try simp only [Act.put, List.setIfInBounds_toArray, List.set_cons_zero, List.set_cons_succ])
              refine HeldTo.done (by kernel_rfl) ?_ _
              (try go_wp2_with fail)
              go_meet
              exact ⟨N9, R9, rfl, hN9, hAm, ((bn.set 0 (.int .i64 bad)).set 1 (.string ⟨R9.toArray⟩)).set 2 (.slice none 0 0), ((bb.setCell (p := ⟨N9, 0, none⟩) hN9 _).setCell (p := ⟨N9, 1, none⟩) hN9 _).setCell (p := ⟨N9, 2, none⟩) hN9 _⟩
            · skip
              obtain ⟨u5, hv⟩ : ∃ V, u2.alloc (.cells #[.int .i64 0, .string ⟨#[]⟩, .slice none 0 0] 30) = V := ⟨_, rfl⟩
              have su : Below u2.heap.size u2 u5 := by rw [← hv]; exact (Below.refl _ _).alloc (Nat.le_refl _) _
              have bn : BoxN u2.heap.size [.int .i64 0, .string ⟨#[]⟩, .slice none 0 0] u5 := by rw [← hv]; exact BoxN.new u2 _ _
              have hN9 : W4.heap.size ≤ u2.heap.size := bb.size
              have hNg : u2.heap.size ≠ g1 := by have := HG1.out; omega
              refine HeldTo.opVal (i := 11) (oi := _) (d := some 12) (v := .pointer (some ⟨u2.heap.size, 0, none⟩)) (w2 := u5) rfl rfl (by rfl) (by rw [← hv]; go_simp; done) (hSK _ (bb.trans (su.mono bb.size))) ?_
              (try simp only [Act.put, List.setIfInBounds_toArray, List.set_cons_zero, List.set_cons_succ])
              have hu7 := Nat.le_trans hu7 su.size
              have bb := bb.trans (su.mono bb.size)
              have bg := bg.next su bg.lt
              have xo := own_next xo su
              have yo := own_next yo su
              generalize hNN : u2.heap.size = N9 at bn hN9 hNg ⊢
              have hS0 := hSK _ bb
              clear su hNN hv
              refine HeldTo.one (i := 9) (by kernel_rfl) ?_
              have hsp := spread_any u5 xa xc (x.lats.map (·.1)) (by rw [List.length_map]; exact own_sl' xo) ya yc (y.lats.map (·.1)) (by rw [List.length_map]; exact own_sl' yo) st (by rw [List.length_map]; exact HSZ.out) g1 (firstL x) bg (by simp [firstL]) (fun b o e _ => by have := (xo.lt b (by rw [e]; rfl)).1; have := HG1.out; omega) (fun b o e _ => by have := (yo.lt b (by rw [e]; rfl)).1; have := HG1.out; omega) (by rw [List.length_map]; exact HLX.out)
              simp only [List.length_map] at hsp
              refine HeldTo.opCall (i := 9) (oi := _) (d := some 51) (R := fun v w' => ∃ R, v = .string ⟨R.toArray⟩ ∧ Among (x.lats.map (·.1)) (y.lats.map (·.1)) st.data.toList (firstL x) R x.lats.length ∧ OffB g1 u5 w') rfl rfl (by rfl) (by go_simp; done) (hsp.mono fun e w' h => by obtain ⟨R, he, h1, h2⟩ := h; exact ⟨_, he, R, rfl, h1, h2⟩) ?_
              rintro v u6 ⟨R9, rfl, hAm, ob⟩
              have bb0 := bb.size
              have bb := ob.base bb bb0 HG0.out
              have bn := ob.box bn hNg
              have hu7 := Nat.le_trans hu7 ob.size
              refine ⟨hSK _ bb, ?_⟩
              (try simp only [Act.put, List.setIfInBounds_toArray, List.set_cons_zero, List.set_cons_succ])
              have hS0 := hSK _ bb
              clear ob hsp bb0 xo yo bg
              (refine HeldTo.take (i := 10) (oi := _) (d := some 52) (v := ?_) rfl rfl (by kernel_rfl) (by kernel_rfl) (by kernel_rfl) (by kernel_rfl) (by kernel_rfl) (by kernel_rfl) (fun _ _ _ h => h) (Or.inl ⟨by rfl, ?_⟩) hS0 ?_; rotate_left; (focus (intro w hSw; clear hSw; go_simp; (try with_reducible rfl); done)); (try simp only [Act.put, List.setIfInBounds_toArray, List.set_cons_zero, List.set_cons_succ]))
              have y0 := bn.at' 0 _ rfl
              have y1 := bn.at' 1 _ rfl
              have y2 := bn.at' 2 _ rfl
              have z := bn.fz
              refine HeldTo.store (i := 12) (oi := _) (d := none) (w2 := ((u6.setCell ⟨N9, 0, none⟩ (.int .i64 bad)).setCell ⟨N9, 1, none⟩ (.string ⟨R9.toArray⟩)).setCell ⟨N9, 2, none⟩ (.slice none 0 0)) rfl rfl (by kernel_rfl) (by kernel_rfl) (by rfl) (by go_simp; done) ?_
              (try simp only [Act.put, List.setIfInBounds_toArray, List.set_cons_zero, List.set_cons_succ])
              refine HeldTo.done (by kernel_rfl) ?_ _
              (try go_wp2_with fail)
              go_meet
              exact ⟨N9, R9, rfl, hN9, hAm, ((bn.set 0 (.int .i64 bad)).set 1 (.string ⟨R9.toArray⟩)).set 2 (.slice none 0 0), ((bb.setCell (p := ⟨N9, 0, none⟩) hN9 _).setCell (p := ⟨N9, 1, none⟩) hN9 _).setCell (p := ⟨N9, 2, none⟩) hN9 _⟩
          · skip
            obtain ⟨u7, hv⟩ : ∃ V, u1.alloc (.cells #[.int .i64 0, .string ⟨#[]⟩, .slice none 0 0] 30) = V := ⟨_, rfl⟩
            have su : Below u1.heap.size u1 u7 := by rw [← hv]; exact (Below.refl _ _).alloc (Nat.le_refl _) _
            have bn : BoxN u1.heap.size [.int .i64 0, .string ⟨#[]⟩, .slice none 0 0] u7 := by rw [← hv]; exact BoxN.new u1 _ _
            have hN9 : W4.heap.size ≤ u1.heap.size := bb.size
            have hNg : u1.heap.size ≠ g1 := by have := HG1.out; omega
            refine HeldTo.opVal (i := 11) (oi := _) (d := some 12) (v := .pointer (some ⟨u1.heap.size, 0, none⟩)) (w2 := u7) rfl rfl (by rfl) (by rw [← hv]; go_simp; done) (hSK _ (bb.trans (su.mono bb.size))) ?_
            (try simp only [Act.put, List.setIfInBounds_toArray, List.set_cons_zero, List.set_cons_succ])
            have hu7 := Nat.le_trans hu7 su.size
            have bb := bb.trans (su.mono bb.size)
            have bg := bg.next su bg.lt
            have xo := own_next xo su
            generalize hNN : u1.heap.size = N9 at bn hN9 hNg ⊢
            have hS0 := hSK _ bb
            clear su hNN hv
            refine HeldTo.one (i := 5) (by kernel_rfl) ?_
            have hll := latchLits_any u7 y ⟨b1, d1, b2, d2, b3, d3, b4, d4, b5, d5, b6, d6, b7, d7⟩ (HIY.out u7 bb) HLY.out
            simp only [cells] at hll
            refine HeldTo.opCall (i := 5) (oi := _) (d := some 47) (R := fun v w' => ∃ a c, v = .slice a y.lats.length c ∧ w'.ownsRow u7.heap.size 3 1 (.slice a y.lats.length c) y.lats.length (ints (y.lats.map (·.1))) ∧ Below u7.heap.size u7 w') rfl rfl (by rfl) (by go_simp; done) (hll.mono fun e w' h => by obtain ⟨a, c, he, ho, hb⟩ := h; exact ⟨_, he, a, c, rfl, ho, hb⟩) ?_
            rintro v u8 ⟨ya, yc, rfl, yo, su⟩
            have yo := own_mono yo hu7
            have hu7 := Nat.le_trans hu7 su.size
            have bb := bb.trans (su.mono bb.size)
            have bg := bg.next su bg.lt
            have xo := own_next xo su
            have bn := bn.next su bn.lt
            refine ⟨hSK _ bb, ?_⟩
            (try simp only [Act.put, List.setIfInBounds_toArray, List.set_cons_zero, List.set_cons_succ])
            have hS0 := hSK _ bb
            clear su hll
            refine HeldTo.one (i := 9) (by kernel_rfl) ?_
            have hsp := spread_any u8 xa xc (x.lats.map (·.1)) (by rw [List.length_map]; exact own_sl' xo) ya yc (y.lats.map (·.1)) (by rw [List.length_map]; exact own_sl' yo) st (by rw [List.length_map]; exact HSZ.out) g1 (firstL x) bg (by simp [firstL]) (fun b o e _ => by have := (xo.lt b (by rw [e]; rfl)).1; have := HG1.out; omega) (fun b o e _ => by have := (yo.lt b (by rw [e]; rfl)).1; have := HG1.out; omega) (by rw [List.length_map]; exact HLX.out)
            simp only [List.length_map] at hsp
            refine HeldTo.opCall (i := 9) (oi := _) (d := some 51) (R := fun v w' => ∃ R, v = .string ⟨R.toArray⟩ ∧ Among (x.lats.map (·.1)) (y.lats.map (·.1)) st.data.toList (firstL x) R x.lats.length ∧ OffB g1 u8 w') rfl rfl (by rfl) (by go_simp; done) (hsp.mono fun e w' h => by obtain ⟨R, he, h1, h2⟩ := h; exact ⟨_, he, R, rfl, h1, h2⟩) ?_
            rintro v u9 ⟨R9, rfl, hAm, ob⟩
            have bb0 := bb.size
            have bb := ob.base bb bb0 HG0.out
            have bn := ob.box bn hNg
            have hu7 := Nat.le_trans hu7 ob.size
            refine ⟨hSK _ bb, ?_⟩
            (try simp only [Act.put, List.setIfInBounds_toArray, List.set_cons_zero, List.set_cons_succ])
            have hS0 := hSK _ bb
            clear ob hsp bb0 xo yo bg
            (refine HeldTo.take (i := 10) (oi := _) (d := some 52) (v := ?_) rfl rfl (by kernel_rfl) (by kernel_rfl) (by kernel_rfl) (by kernel_rfl) (by kernel_rfl) (by kernel_rfl) (fun _ _ _ h => h) (Or.inl ⟨by rfl, ?_⟩) hS0 ?_; rotate_left; (focus (intro w hSw; clear hSw; go_simp; (try with_reducible rfl); done)); (try simp only [Act.put, List.setIfInBounds_toArray, List.set_cons_zero, List.set_cons_succ]))
            have y0 := bn.at' 0 _ rfl
            have y1 := bn.at' 1 _ rfl
            have y2 := bn.at' 2 _ rfl
            have z := bn.fz
            refine HeldTo.store (i := 12) (oi := _) (d := none) (w2 := ((u9.setCell ⟨N9, 0, none⟩ (.int .i64 bad)).setCell ⟨N9, 1, none⟩ (.string ⟨R9.toArray⟩)).setCell ⟨N9, 2, none⟩ (.slice none 0 0)) rfl rfl (by kernel_rfl) (by kernel_rfl) (by rfl) (by go_simp; done) ?_
            (try simp only [Act.put, List.setIfInBounds_toArray, List.set_cons_zero, List.set_cons_succ])
            refine HeldTo.done (by kernel_rfl) ?_ _
            (try go_wp2_with fail)
            go_meet
            exact ⟨N9, R9, rfl, hN9, hAm, ((bn.set 0 (.int .i64 bad)).set 1 (.string ⟨R9.toArray⟩)).set 2 (.slice none 0 0), ((bb.setCell (p := ⟨N9, 0, none⟩) hN9 _).setCell (p := ⟨N9, 1, none⟩) hN9 _).setCell (p := ⟨N9, 2, none⟩) hN9 _⟩
        · skip
          obtain ⟨u10, hv⟩ : ∃ V, u0.alloc (.cells #[.int .i64 0, .string ⟨#[]⟩, .slice none 0 0] 30) = V := ⟨_, rfl⟩
          have su : Below u0.heap.size u0 u10 := by rw [← hv]; exact (Below.refl _ _).alloc (Nat.le_refl _) _
          have bn : BoxN u0.heap.size [.int .i64 0, .string ⟨#[]⟩, .slice none 0 0] u10 := by rw [← hv]; exact BoxN.new u0 _ _
          have hN9 : W4.heap.size ≤ u0.heap.size := bb.size
          have hNg : u0.heap.size ≠ g1 := by have := HG1.out; omega
          refine HeldTo.opVal (i := 11) (oi := _) (d := some 12) (v := .pointer (some ⟨u0.heap.size, 0, none⟩)) (w2 := u10) rfl rfl (by rfl) (by rw [← hv]; go_simp; done) (hSK _ (bb.trans (su.mono bb.size))) ?_
          (try simp only [Act.put, List.setIfInBounds_toArray, List.set_cons_zero, List.set_cons_succ])
          have hu7 := Nat.le_trans hu7 su.size
          have bb := bb.trans (su.mono bb.size)
          have bg := bg.next su bg.lt
          generalize hNN : u0.heap.size = N9 at bn hN9 hNg ⊢
          have hS0 := hSK _ bb
          clear su hNN hv
          refine HeldTo.one (i := 3) (by kernel_rfl) ?_
          have hll := latchLits_any u10 x ⟨a1, c1, a2, c2, a3, c3, a4, c4, a5, c5, a6, c6, a7, c7⟩ (HIX.out u10 bb) HLX.out
          simp only [cells] at hll
          refine HeldTo.opCall (i := 3) (oi := _) (d := some 45) (R := fun v w' => ∃ a c, v = .slice a x.lats.length c ∧ w'.ownsRow u10.heap.size 3 1 (.slice a x.lats.length c) x.lats.length (ints (x.lats.map (·.1))) ∧ Below u10.heap.size u10 w') rfl rfl (by rfl) (by go_simp; done) (hll.mono fun e w' h => by obtain ⟨a, c, he, ho, hb⟩ := h; exact ⟨_, he, a, c, rfl, ho, hb⟩) ?_
          rintro v u11 ⟨xa, xc, rfl, xo, su⟩
          have xo := own_mono xo hu7
          have hu7 := Nat.le_trans hu7 su.size
          have bb := bb.trans (su.mono bb.size)
          have bg := bg.next su bg.lt
          have bn := bn.next su bn.lt
          refine ⟨hSK _ bb, ?_⟩
          (try simp only [Act.put, List.setIfInBounds_toArray, List.set_cons_zero, List.set_cons_succ])
          have hS0 := hSK _ bb
          clear su hll
          refine HeldTo.one (i := 5) (by kernel_rfl) ?_
          have hll := latchLits_any u11 y ⟨b1, d1, b2, d2, b3, d3, b4, d4, b5, d5, b6, d6, b7, d7⟩ (HIY.out u11 bb) HLY.out
          simp only [cells] at hll
          refine HeldTo.opCall (i := 5) (oi := _) (d := some 47) (R := fun v w' => ∃ a c, v = .slice a y.lats.length c ∧ w'.ownsRow u11.heap.size 3 1 (.slice a y.lats.length c) y.lats.length (ints (y.lats.map (·.1))) ∧ Below u11.heap.size u11 w') rfl rfl (by rfl) (by go_simp; done) (hll.mono fun e w' h => by obtain ⟨a, c, he, ho, hb⟩ := h; exact ⟨_, he, a, c, rfl, ho, hb⟩) ?_
          rintro v u12 ⟨ya, yc, rfl, yo, su⟩
          have yo := own_mono yo hu7
          have hu7 := Nat.le_trans hu7 su.size
          have bb := bb.trans (su.mono bb.size)
          have bg := bg.next su bg.lt
          have xo := own_next xo su
          have bn := bn.next su bn.lt
          refine ⟨hSK _ bb, ?_⟩
          (try simp only [Act.put, List.setIfInBounds_toArray, List.set_cons_zero, List.set_cons_succ])
          have hS0 := hSK _ bb
          clear su hll
          refine HeldTo.one (i := 9) (by kernel_rfl) ?_
          have hsp := spread_any u12 xa xc (x.lats.map (·.1)) (by rw [List.length_map]; exact own_sl' xo) ya yc (y.lats.map (·.1)) (by rw [List.length_map]; exact own_sl' yo) st (by rw [List.length_map]; exact HSZ.out) g1 (firstL x) bg (by simp [firstL]) (fun b o e _ => by have := (xo.lt b (by rw [e]; rfl)).1; have := HG1.out; omega) (fun b o e _ => by have := (yo.lt b (by rw [e]; rfl)).1; have := HG1.out; omega) (by rw [List.length_map]; exact HLX.out)
          simp only [List.length_map] at hsp
          refine HeldTo.opCall (i := 9) (oi := _) (d := some 51) (R := fun v w' => ∃ R, v = .string ⟨R.toArray⟩ ∧ Among (x.lats.map (·.1)) (y.lats.map (·.1)) st.data.toList (firstL x) R x.lats.length ∧ OffB g1 u12 w') rfl rfl (by rfl) (by go_simp; done) (hsp.mono fun e w' h => by obtain ⟨R, he, h1, h2⟩ := h; exact ⟨_, he, R, rfl, h1, h2⟩) ?_
          rintro v u13 ⟨R9, rfl, hAm, ob⟩
          have bb0 := bb.size
          have bb := ob.base bb bb0 HG0.out
          have bn := ob.box bn hNg
          have hu7 := Nat.le_trans hu7 ob.size
          refine ⟨hSK _ bb, ?_⟩
          (try simp only [Act.put, List.setIfInBounds_toArray, List.set_cons_zero, List.set_cons_succ])
          have hS0 := hSK _ bb
          clear ob hsp bb0 xo yo bg
          (refine HeldTo.take (i := 10) (oi := _) (d := some 52) (v := ?_) rfl rfl (by kernel_rfl) (by kernel_rfl) (by kernel_rfl) (by kernel_rfl) (by kernel_rfl) (by kernel_rfl) (fun _ _ _ h => h) (Or.inl ⟨by rfl, ?_⟩) hS0 ?_; rotate_left; (focus (intro w hSw; clear hSw; go_simp; (try with_reducible rfl); done)); (try simp only [Act.put, List.setIfInBounds_toArray, List.set_cons_zero, List.set_cons_succ]))
          have y0 := bn.at' 0 _ rfl
          have y1 := bn.at' 1 _ rfl
          have y2 := bn.at' 2 _ rfl
          have z := bn.fz
          refine HeldTo.store (i := 12) (oi := _) (d := none) (w2 := ((u13.setCell ⟨N9, 0, none⟩ (.int .i64 bad)).setCell ⟨N9, 1, none⟩ (.string ⟨R9.toArray⟩)).setCell ⟨N9, 2, none⟩ (.slice none 0 0)) rfl rfl (by kernel_rfl) (by kernel_rfl) (by rfl) (by go_simp; done) ?_
          (try simp only [Act.put, List.setIfInBounds_toArray, List.set_cons_zero, List.set_cons_succ])
          refine HeldTo.done (by kernel_rfl) ?_ _
          (try go_wp2_with fail)
          go_meet
          exact ⟨N9, R9, rfl, hN9, hAm, ((bn.set 0 (.int .i64 bad)).set 1 (.string ⟨R9.toArray⟩)).set 2 (.slice none 0 0), ((bb.setCell (p := ⟨N9, 0, none⟩) hN9 _).setCell (p := ⟨N9, 1, none⟩) hN9 _).setCell (p := ⟨N9, 2, none⟩) hN9 _⟩
      case rest =>
        obtain ⟨N, R, rfl, hN, hAm, hbx, hbN⟩ := hcut
        generalize wc = w8 at *
        have HN1 : Hid (N < w8.heap.size) := hbx.out.lt
        have HNW : Hid (W4.heap.size ≤ N) := hN.out
        have HAM := Lib.hid hAm.out
        have e9 := HW.out w8 hbN.out
        have v2 := e9.at' 2 _ rfl
        have hnI : Hid (∀ (a : Option Addr) (xs : List Int) (n c : Nat), Sl W4 a n c (ints xs) → ∀ b o, a = some ⟨b, o, none⟩ → xs ≠ [] → b < W4.heap.size) := fun a xs n c h b o e hne => by
          cases xs with
          | nil => exact absurd rfl hne
          | cons v r =>
            obtain ⟨b2, o2, ha, hs, _⟩ := h.cell 0 (.int .i64 v) rfl
            rw [e] at ha
            injection ha with ha
            injection ha with ha _
            omega
        have HX8 := hbx
        have HB8 := hbN
        clear hN hAm hbx hbN e9
        go_wp2_with fail
        go_loopw [56] (fun i wr => ∃ (k : Nat) (aO : Option Addr) (cO : Nat) (outs : List ByteArray), k ≤ inp.length ∧ i = .int .i64 k ∧ Hid (outs.length = k) ∧ Hid (OutsI x y inp outs) ∧ Hid (BoxN N [.int .i64 bad, .string ⟨R.toArray⟩, .slice aO k cO] wr) ∧ Hid (wr.ownsRow w8.heap.size 9 1 (.slice aO k cO) k (outs.map Value.string)) ∧ Hid (Below W4.heap.size W4 wr) ∧ Hid (w8.heap.size ≤ wr.heap.size)) (fun i _ => inp.length - (Go.RowKit.intOf i).toNat)
        case atStart => exact ⟨0, none, 0, [], Nat.zero_le _, rfl, rfl, (fun i s o _ h => by simp at h), HX8.out, World.ownsRow_nil _ _ _ _, HB8.out, Nat.le_refl _⟩
        case round =>
          clear HX8 HB8 v2
          obtain ⟨k, aO, cO, outs, hk, rfl, hol, hOI, hX, hO, hB, hS⟩ := hrel
          by_cases hlt : k < inp.length
          · obtain ⟨b, o, ha, hbs, d0⟩ := (HII.out wr hB.out).cell k (.string inp[k]) (by rw [List.getElem?_map, List.getElem?_eq_getElem hlt]; rfl)
            subst ha
            have HSI : Hid (inp[k].size = y.ins.length) := HIS.out _ (List.getElem_mem hlt)
            have HSK : Hid (inp[k]? = some inp[k]) := List.getElem?_eq_getElem hlt
            have hltI : (k : Int) < (inp.length : Int) := by omega
            generalize inp[k] = s at *
            have hSK : ∀ U : World, Below W4.heap.size W4 U → BoxN N [.int .i64 bad, .string ⟨R.toArray⟩, .slice aO k cO] U → U.cell? ⟨w.heap.size, 1, none⟩ = some (.slice a1 x.ins.length c1) ∧ U.cell? ⟨W1.heap.size, 1, none⟩ = some (.slice b1 y.ins.length d1) ∧ U.cell? ⟨N, 2, none⟩ = some (.slice aO k cO) := fun U hU hn => ⟨(HX.out U hU).k1, (HY.out U hU).k1, hn.at' 2 _ rfl⟩
            have bb := hB.out.trans (Below.refl _ _).drew
            have bn := hX.out.next (Below.refl _ _).drew hX.out.lt
            have ro := own_next hO.out (Below.refl _ _).drew
            have hu8 : w8.heap.size ≤ wr.drew.heap.size := hS.out
            have hS0 := hSK _ bb bn
            go_upto_region 15 with fail
            refine HeldTo.region (fun U : World => U.cell? ⟨w.heap.size, 1, none⟩ = some (.slice a1 x.ins.length c1) ∧ U.cell? ⟨W1.heap.size, 1, none⟩ = some (.slice b1 y.ins.length d1) ∧ U.cell? ⟨N, 2, none⟩ = some (.slice aO k cO)) 15 (by kernel_rfl) ?_
            obtain ⟨u0, hu0⟩ : ∃ U, wr.drew = U := ⟨_, rfl⟩
            rw [hu0] at bb bn ro hu8 hS0 ⊢
            (refine HeldTo.plain (i := 0) (oi := _) (d := some 60) (v := ?_) rfl rfl (by kernel_rfl) (by kernel_rfl) (by kernel_rfl) (by kernel_rfl) (fun _ _ _ h => h) (Or.inl ⟨by rfl, ?_⟩) (fun _ => hS0) ?_; rotate_left; (focus (intro w hSw; clear hSw; go_simp; (try with_reducible rfl); done)); (try simp only [Act.put, List.setIfInBounds_toArray, List.set_cons_zero, List.set_cons_succ]))
            (refine HeldTo.take (i := 1) (oi := _) (d := some 61) (v := ?_) rfl rfl (by kernel_rfl) (by kernel_rfl) (by kernel_rfl) (by kernel_rfl) (by kernel_rfl) (by kernel_rfl) (fun _ _ _ h => h) (Or.inl ⟨by rfl, ?_⟩) hS0 ?_; rotate_left; (focus (intro w hSw; (try dsimp only at hSw); go_simp; (try with_reducible rfl); done)); (try simp only [Act.put, List.setIfInBounds_toArray, List.set_cons_zero, List.set_cons_succ]))
            (refine HeldTo.plain (i := 2) (oi := _) (d := some 62) (v := ?_) rfl rfl (by kernel_rfl) (by kernel_rfl) (by kernel_rfl) (by kernel_rfl) (fun _ _ _ h => h) (Or.inl ⟨by rfl, ?_⟩) (fun _ => hS0) ?_; rotate_left; (focus (intro w hSw; clear hSw; go_simp; (try with_reducible rfl); done)); (try simp only [Act.put, List.setIfInBounds_toArray, List.set_cons_zero, List.set_cons_succ]))
            (refine HeldTo.take (i := 3) (oi := _) (d := some 63) (v := ?_) rfl rfl (by kernel_rfl) (by kernel_rfl) (by kernel_rfl) (by kernel_rfl) (by kernel_rfl) (by kernel_rfl) (fun _ _ _ h => h) (Or.inl ⟨by rfl, ?_⟩) hS0 ?_; rotate_left; (focus (intro w hSw; (try dsimp only at hSw); go_simp; (try with_reducible rfl); done)); (try simp only [Act.put, List.setIfInBounds_toArray, List.set_cons_zero, List.set_cons_succ]))
            (refine HeldTo.plain (i := 4) (oi := _) (d := some 64) (v := ?_) rfl rfl (by kernel_rfl) (by kernel_rfl) (by kernel_rfl) (by kernel_rfl) (fun _ _ _ h => h) (Or.inl ⟨by rfl, ?_⟩) (fun _ => hS0) ?_; rotate_left; (focus (intro w hSw; clear hSw; go_simp; (try with_reducible rfl); done)); (try simp only [Act.put, List.setIfInBounds_toArray, List.set_cons_zero, List.set_cons_succ]))
            (refine HeldTo.take (i := 5) (oi := _) (d := some 65) (v := ?_) rfl rfl (by kernel_rfl) (by kernel_rfl) (by kernel_rfl) (by kernel_rfl) (by kernel_rfl) (by kernel_rfl) (fun _ _ _ h => h) (Or.inl ⟨by rfl, ?_⟩) hS0 ?_; rotate_left; (focus (intro w hSw; (try dsimp only at hSw); go_simp; (try with_reducible rfl); done)); (try simp only [Act.put, List.setIfInBounds_toArray, List.set_cons_zero, List.set_cons_succ]))
            (refine HeldTo.plain (i := 6) (oi := _) (d := some 66) (v := ?_) rfl rfl (by kernel_rfl) (by kernel_rfl) (by kernel_rfl) (by kernel_rfl) (fun _ _ _ h => h) (Or.inl ⟨by rfl, ?_⟩) (fun _ => hS0) ?_; rotate_left; (focus (intro w hSw; clear hSw; go_simp; (try with_reducible rfl); done)); (try simp only [Act.put, List.setIfInBounds_toArray, List.set_cons_zero, List.set_cons_succ]))
            (refine HeldTo.plain (i := 7) (oi := _) (d := some 67) (v := ?_) rfl rfl (by kernel_rfl) (by kernel_rfl) (by kernel_rfl) (by kernel_rfl) (fun _ _ _ h => h) (Or.inl ⟨by rfl, ?_⟩) (fun _ => hS0) ?_; rotate_left; (focus (intro w hSw; clear hSw; go_simp; (try with_reducible rfl); done)); (try simp only [Act.put, List.setIfInBounds_toArray, List.set_cons_zero, List.set_cons_succ]))
            (refine HeldTo.take (i := 8) (oi := _) (d := some 68) (v := ?_) rfl rfl (by kernel_rfl) (by kernel_rfl) (by kernel_rfl) (by kernel_rfl) (by kernel_rfl) (by kernel_rfl) (fun _ _ _ h => h) (Or.inl ⟨by rfl, ?_⟩) hS0 ?_; rotate_left; (focus (intro w hSw; (try dsimp only at hSw); go_simp; (try with_reducible rfl); done)); (try simp only [Act.put, List.setIfInBounds_toArray, List.set_cons_zero, List.set_cons_succ]))
            (refine HeldTo.plain (i := 9) (oi := _) (d := some 69) (v := ?_) rfl rfl (by kernel_rfl) (by kernel_rfl) (by kernel_rfl) (by kernel_rfl) (fun _ _ _ h => h) (Or.inl ⟨by rfl, ?_⟩) (fun _ => hS0) ?_; rotate_left; (focus (intro w hSw; clear hSw; go_simp; (try with_reducible rfl); done)); (try simp only [Act.put, List.setIfInBounds_toArray, List.set_cons_zero, List.set_cons_succ]))
            have hzz := zeros_any u0 x.ins.length HLI.out
            refine HeldTo.one (i := 10) (by kernel_rfl) ?_
            refine HeldTo.opCall (i := 10) (oi := _) (d := some 70) (R := fun v w' => ∃ g, v = .slice (some ⟨g, 0, none⟩) x.ins.length x.ins.length ∧ BoxN g (bytesL (List.replicate x.ins.length 48)) w' ∧ u0.heap.size ≤ g ∧ Below u0.heap.size u0 w') rfl rfl (by rfl) (by go_simp; done) (hzz.mono fun e w' h => by obtain ⟨g, he, h1, h2, h3⟩ := h; exact ⟨_, he, g, rfl, h1, h2, h3⟩) ?_
            rintro v u1 ⟨g2, rfl, hg2, hge2, su⟩
            have bb := bb.trans (su.mono bb.size)
            have bn := bn.next su bn.lt
            have hng : N ≠ g2 := by have := HN1.out; omega
            have hrg := own_not ro hge2
            have ro := own_next ro su
            have hu8 := Nat.le_trans hu8 su.size
            refine ⟨hSK _ bb bn, ?_⟩
            (try simp only [Act.put, List.setIfInBounds_toArray, List.set_cons_zero, List.set_cons_succ])
            have hg2W : W4.heap.size ≤ g2 := by have := HNW.out; have := HN1.out; omega
            have hsp := spread_any u1 a1 c1 x.ins (HIX.out u1 bb).ins b1 d1 y.ins (HIY.out u1 bb).ins s HSI.out g2 (List.replicate x.ins.length 48) hg2 (by simp) (fun b o e hne => by have := hnI.out _ _ _ _ (HIX.out W4 (Below.refl _ _)).ins b o e hne; omega) (fun b o e hne => by have := hnI.out _ _ _ _ (HIY.out W4 (Below.refl _ _)).ins b o e hne; omega) HLI.out
            refine HeldTo.one (i := 11) (by kernel_rfl) ?_
            refine HeldTo.opCall (i := 11) (oi := _) (d := some 71) (R := fun v w' => ∃ R, v = .string ⟨R.toArray⟩ ∧ Among x.ins y.ins s.data.toList (List.replicate x.ins.length 48) R x.ins.length ∧ OffB g2 u1 w') rfl rfl (by rfl) (by go_simp; done) (hsp.mono fun e w' h => by obtain ⟨R, he, h1, h2⟩ := h; exact ⟨_, he, R, rfl, h1, h2⟩) ?_
            rintro v u2 ⟨R2, rfl, hA2, ob⟩
            have bb0 := bb.size
            have bb := ob.base bb bb0 hg2W
            have bn := ob.box bn hng
            have ro := ob.own ro hrg
            have hu8 := Nat.le_trans hu8 ob.size
            refine ⟨hSK _ bb bn, ?_⟩
            (try simp only [Act.put, List.setIfInBounds_toArray, List.set_cons_zero, List.set_cons_succ])
            clear hzz hsp hg2 hge2 su ob bb0
            generalize hs2 : (⟨R2.toArray⟩ : ByteArray) = s2 at *
            obtain ⟨u3, hu3⟩ : ∃ V, u2.alloc (.cells #[.string s2] 9) = V := ⟨_, rfl⟩
            have su : Below u2.heap.size u2 u3 := by rw [← hu3]; exact (Below.refl _ _).alloc (Nat.le_refl _) _
            have so : SlT u3 1 (some ⟨u2.heap.size, 0, none⟩) 1 1 [[.string s2]] := by rw [← hu3]; exact App2.sl_one u2 [.string s2] 9 1 rfl
            refine HeldTo.one (i := 12) (by kernel_rfl) ?_
            refine HeldTo.opVal (i := 12) (oi := _) (d := some 72) (v := .slice (some ⟨u2.heap.size, 0, none⟩) 1 1) (w2 := u3) rfl rfl (by rfl) (by rw [← hu3]; go_simp; done) (hSK _ (bb.trans (su.mono bb.size)) (bn.next su bn.lt)) ?_
            (try simp only [Act.put, List.setIfInBounds_toArray, List.set_cons_zero, List.set_cons_succ])
            have bb := bb.trans (su.mono bb.size)
            have bn := bn.next su bn.lt
            have ro := own_next ro su
            have hu8 := Nat.le_trans hu8 su.size
            have ef : ((outs.map Value.string).map fun v => [v]).flatten = outs.map Value.string := by
              generalize outs.map Value.string = L
              induction L with
              | nil => rfl
              | cons v r ih => rw [List.map_cons, List.flatten_cons, ih]; rfl
            have ro' := ro
            rw [← ef] at ro'
            obtain ⟨A', C', u4, r1, ho4, hg4⟩ := App2.runV (P := Tryz.prog) (t := 28) 28 (by decide : 0 < 1) info_strS Tryz.underlying28 rfl u3 w8.heap.size hu8 (.slice aO k cO) k ((outs.map Value.string).map fun v => [v]) ro' (some ⟨u2.heap.size, 0, none⟩) 1 1 [[.string s2]] so (by simp) (by simp [Value.oneCell']) (by have := HIL.out; omega) (by have := HIL.out; omega)
            have hne4 : some N ≠ (Value.slice aO k cO).ownBlock := fun e => by have := (ro.lt N e.symm).1; have := HN1.out; omega
            have bn4 := box_grown bn hg4 hne4
            have bb4 := bb.grown hg4 bb.size (fun q hq => by have := (ro.lt q hq).1; have := HNW.out; have := HN1.out; omega)
            have hu84 := Nat.le_trans hu8 hg4.size
            refine HeldTo.one (i := 13) (by kernel_rfl) ?_
            refine HeldTo.opVal (i := 13) (oi := _) (d := some 73) (v := .slice A' (k + 1) C') (w2 := u4) rfl rfl (by rfl) (App2.exec_append rfl rfl rfl r1) (hSK _ bb4 bn4) ?_
            (try simp only [Act.put, List.setIfInBounds_toArray, List.set_cons_zero, List.set_cons_succ])
            have hS0 := hSK _ bb4 bn4
            (refine HeldTo.plain (i := 14) (oi := _) (d := some 74) (v := ?_) rfl rfl (by kernel_rfl) (by kernel_rfl) (by kernel_rfl) (by kernel_rfl) (fun _ _ _ h => h) (Or.inl ⟨by rfl, ?_⟩) (fun _ => hS0) ?_; rotate_left; (focus (intro w hSw; clear hSw; go_simp; (try with_reducible rfl); done)); (try simp only [Act.put, List.setIfInBounds_toArray, List.set_cons_zero, List.set_cons_succ]))
            have y2 := bn4.at' 2 _ rfl
            have z := bn4.fz 2
            refine HeldTo.store (i := 15) (oi := _) (d := none) (w2 := u4.setCell ⟨N, 2, none⟩ (.slice A' (k + 1) C')) rfl rfl (by kernel_rfl) (by kernel_rfl) (by rfl) (by go_simp; done) ?_
            (try simp only [Act.put, List.setIfInBounds_toArray, List.set_cons_zero, List.set_cons_succ])
            refine HeldTo.done (by kernel_rfl) ?_ _
            have HX9 : Hid (BoxN N [.int .i64 bad, .string ⟨R.toArray⟩, .slice A' (k + 1) C'] (u4.setCell ⟨N, 2, none⟩ (.slice A' (k + 1) C'))) := bn4.set 2 _
            have HO9 : Hid ((u4.setCell ⟨N, 2, none⟩ (.slice A' (k + 1) C')).ownsRow w8.heap.size 9 1 (.slice A' (k + 1) C') (k + 1) ((outs ++ [s2]).map Value.string)) := by
              have h := ((OffB.refl N u4).set 2 (.slice A' (k + 1) C')).own ho4 (own_not' ho4 HN1.out)
              have e : ((outs.map Value.string).map (fun v => [v]) ++ [[Value.string s2]]).flatten = (outs ++ [s2]).map Value.string := by rw [List.flatten_append, ef, List.map_append]; rfl
              rw [e] at h
              exact h
            have HB9 := Lib.hid (bb4.setCell (p := ⟨N, 2, none⟩) HNW.out (.slice A' (k + 1) C'))
            have HS9 : Hid (w8.heap.size ≤ (u4.setCell ⟨N, 2, none⟩ (.slice A' (k + 1) C')).heap.size) := by show _ ≤ _; simpa [World.setCell] using hu84
            have HL9 : Hid ((outs ++ [s2]).length = k + 1) := by show _ = _; rw [List.length_append, hol.out]; rfl
            have HOI9 : Hid (OutsI x y inp (outs ++ [s2])) := fun i s' o' h1 h2 => by
              by_cases hi : i < outs.length
              · rw [List.getElem?_append_left hi] at h2
                exact hOI.out i s' o' h1 h2
              · have hik : i = k := by
                  have h3 := (List.getElem?_eq_some_iff.1 h2).1
                  rw [List.length_append, List.length_singleton, hol.out] at h3
                  have h4 := hol.out
                  omega
                subst hik
                rw [List.getElem?_append_right (by have := hol.out; omega)] at h2
                have e0 : i - outs.length = 0 := by have := hol.out; omega
                rw [e0] at h2
                simp at h2
                rw [HSK.out] at h1
                injection h1 with h1
                subst h1
                exact ⟨R2, by rw [← h2, hs2], hA2⟩
            clear bb bn ro hS0 hSK bb4 bn4 hne4 hu84 hu8 y2 z so su ro' ho4 hg4 r1 hng hrg hg2W
            (try go_wp2_with fail)
            go_roundw
            case rel => exact ⟨k + 1, A', C', outs ++ [s2], by omega, by go_num, HL9.out, HOI9.out, HX9.out, HO9.out, HB9.out, HS9.out⟩
            case measure => simp [Go.RowKit.intOf]; omega
          · have hkn : k = inp.length := by omega
            have hx := hX.out
            have y0 := hx.at' 0 _ rfl
            have y1 := hx.at' 1 _ rfl
            have y2 := hx.at' 2 _ rfl
            have hz := HZ.out wr hB.out
            have q0 := hz.at' 0 _ rfl
            have q1 := hz.at' 1 _ rfl
            have q2 := hz.at' 2 _ rfl
            have z := hz.fz
            have HFI : Hid (Sl wr aO inp.length cO (outs.map Value.string)) := by rw [← hkn]; exact own_sl' hO.out
            rw [hkn] at y2
            clear hx hz
            go_wp2_with fail
            refine bodyPost_ret (v := .tuple #[.agg #[.int .i64 bad, .string ⟨R.toArray⟩, .slice aO inp.length cO], .int .i64 0]) (by simp [results, Tryz.results6, go_sem, q0, q1, q2]) rfl ?_
            have ob : OffB W3.heap.size wr _ := (((OffB.refl W3.heap.size wr).set 0 (.int .i64 bad)).set 1 (.string ⟨R.toArray⟩)).set 2 (.slice aO inp.length cO)
            refine ⟨R, aO, cO, outs, rfl, HAM.out, by rw [hol.out]; exact hkn, hOI.out, ?_, ob.base (HB4.out.trans (hB.out.mono HB4.out.size)) (Nat.le_trans HB4.out.size hB.out.size) (by have := HLT.out; omega)⟩
            have hnb := own_not' hO.out (N := W3.heap.size) (by have := HLT.out; have := HNW.out; have := HN1.out; omega)
            rw [hkn] at hnb
            have hO2 := hO.out
            rw [hkn] at hO2
            exact own_sl' (ob.own hO2 hnb)
end Spr
end Go.Proofs.YtninglnchengeaaGreatDoor

/-
  Plain: what a circuit does step by step, and in how many steps a Bad is reached; a reduced circuit reaches its Bad in as many.
-/
namespace Go.Proofs.YtninglnchengeaaGreatDoor
open Go.RowKit Base
set_option linter.unusedVariables false
set_option linter.unusedSimpArgs false
namespace BadP
open Circuit Coi StrashP

def setB (L : List Bool) (u : Int) (b : Bool) : List Bool := L.set u.toNat b
def valV (L : List Bool) (u : Int) : Bool := L.getD u.toNat false
def litV (L : List Bool) (l : Int) : Bool := valV L (var l) != neg l
def putAll (ps : List (Int × Bool)) (L : List Bool) : List Bool := ps.foldl (fun L p => setB L (var p.1) p.2) L
def stepA (L : List Bool) (t : Tri) : List Bool := if litV L t.2.1 && litV L t.2.2 then setB L (var t.1) true else L
def zero (x : Circ) : List Bool := List.replicate (x.max + 1).toNat false
def base (x : Circ) (s i : List Bool) : List Bool := putAll ((x.lats.zip s).map fun p => (p.1.1, p.2)) (putAll (x.ins.zip i) (zero x))
def vals (x : Circ) (s i : List Bool) : List Bool := x.ands.foldl stepA (base x s i)
def next (x : Circ) (s i : List Bool) : List Bool := x.lats.map fun t => litV (vals x s i) t.2.1
def okB (t : Tri) (b : Bool) : Bool := !((t.2.2 != t.1) && ((t.2.2 == 1) != b))
def initL (x : Circ) (s : List Bool) : Prop := s.length = x.lats.length ∧ ∀ p ∈ x.lats.zip s, okB p.1 p.2 = true
def allow (x : Circ) (A : List (List Int)) (V : List Bool) : Bool := x.invs.all (litV V) && A.all fun c => c.any (litV V)
/-- Reached in so many steps. -/
def R (x : Circ) (A : List (List Int)) : Nat → List Bool → Prop
  | 0, s => initL x s
  | n + 1, s => ∃ s0 i, R x A n s0 ∧ i.length = x.ins.length ∧ allow x A (vals x s0 i) = true ∧ s = next x s0 i
/-- A Bad at the state that is reached in so many steps. -/
def Hit (x : Circ) (A : List (List Int)) (b : Int) (n : Nat) : Prop := ∃ s i, R x A n s ∧ i.length = x.ins.length ∧ allow x A (vals x s i) = true ∧ litV (vals x s i) b = true

theorem setB_len (L : List Bool) (u : Int) (b : Bool) : (setB L u b).length = L.length := by unfold setB; simp
theorem stepA_len (L : List Bool) (t : Tri) : (stepA L t).length = L.length := by unfold stepA; split <;> simp [setB_len]
theorem putAll_len : ∀ (ps : List (Int × Bool)) (L : List Bool), (putAll ps L).length = L.length
  | [], L => rfl
  | p :: r, L => (putAll_len r _).trans (setB_len _ _ _)
theorem fold_len : ∀ (A : List Tri) (L : List Bool), (A.foldl stepA L).length = L.length
  | [], L => rfl
  | t :: r, L => (fold_len r _).trans (stepA_len _ _)
theorem base_len (x : Circ) (s i : List Bool) : (base x s i).length = (x.max + 1).toNat := by unfold base; rw [putAll_len, putAll_len]; simp [zero]
theorem vals_len (x : Circ) (s i : List Bool) : (vals x s i).length = (x.max + 1).toNat := by unfold vals; rw [fold_len, base_len]
theorem valV_set (L : List Bool) {u v : Int} (b : Bool) (h1 : 0 ≤ u) (h2 : u.toNat < L.length) (hv : 0 ≤ v) : valV (setB L u b) v = if v = u then b else valV L v := by
  unfold valV setB
  by_cases e : v = u
  · subst e
    simp [List.getD_eq_getElem?_getD, List.getElem?_set, h2]
  · rw [if_neg e, List.getD_eq_getElem?_getD, List.getD_eq_getElem?_getD, List.getElem?_set, if_neg (by omega)]
theorem var_nn (l : Int) : 0 ≤ var l := by unfold var; omega

/-- Two lists agree at all that counts. -/
def Ag (P : Int → Prop) (L L' : List Bool) : Prop := L.length = L'.length ∧ ∀ v, 0 ≤ v → P v → valV L v = valV L' v
theorem ag_set {P : Int → Prop} {L L' : List Bool} (h : Ag P L L') {u : Int} (h1 : 0 ≤ u) (h2 : u.toNat < L.length) (b : Bool) : Ag P (setB L u b) (setB L' u b) :=
  ⟨by rw [setB_len, setB_len]; exact h.1, fun v hv hp => by rw [valV_set L b h1 h2 hv, valV_set L' b h1 (h.1 ▸ h2) hv, h.2 v hv hp]⟩
theorem ag_skip {P : Int → Prop} {L L' : List Bool} (h : Ag P L L') {u : Int} (h1 : 0 ≤ u) (h2 : u.toNat < L.length) (hn : ¬ P u) (b : Bool) : Ag P (setB L u b) L' :=
  ⟨by rw [setB_len]; exact h.1, fun v hv hp => by rw [valV_set L b h1 h2 hv, if_neg (fun e : v = u => hn (e ▸ hp)), h.2 v hv hp]⟩
theorem ag_put {P : Int → Prop} (c : Int × Bool → Bool) : ∀ (ps : List (Int × Bool)) (L L' : List Bool), Ag P L L' → (∀ p ∈ ps, (var p.1).toNat < L.length) → (∀ p ∈ ps, c p = false → ¬ P (var p.1)) → Ag P (putAll ps L) (putAll (ps.filter c) L')
  | [], L, L', h, _, _ => h
  | p :: r, L, L', h, h1, h2 => by
    have hp := h1 p List.mem_cons_self
    have k1 : ∀ q ∈ r, (var q.1).toNat < (setB L (var p.1) p.2).length := fun q hq => by rw [setB_len]; exact h1 q (List.mem_cons_of_mem _ hq)
    have k2 : ∀ q ∈ r, c q = false → ¬ P (var q.1) := fun q hq => h2 q (List.mem_cons_of_mem _ hq)
    cases hc : c p with
    | true =>
      rw [List.filter_cons_of_pos hc]
      exact ag_put c r _ _ (ag_set h (var_nn _) hp _) k1 k2
    | false =>
      rw [List.filter_cons_of_neg (by rw [hc]; decide)]
      exact ag_put c r _ _ (ag_skip h (var_nn _) hp (h2 p List.mem_cons_self hc) _) k1 k2
theorem ag_lit {P : Int → Prop} {L L' : List Bool} (h : Ag P L L') {l : Int} (hl : P (var l)) : litV L l = litV L' l := by unfold litV; rw [h.2 _ (var_nn l) hl]
theorem ag_ands {P : Int → Prop} (c : Tri → Bool) : ∀ (A : List Tri) (L L' : List Bool), Ag P L L' → (∀ t ∈ A, (var t.1).toNat < L.length) → (∀ t ∈ A, c t = false → ¬ P (var t.1)) → (∀ t ∈ A, c t = true → P (var t.2.1) ∧ P (var t.2.2)) →
    Ag P (A.foldl stepA L) ((A.filter c).foldl stepA L')
  | [], L, L', h, _, _, _ => h
  | t :: r, L, L', h, h1, h2, h3 => by
    have hp := h1 t List.mem_cons_self
    have k1 : ∀ q ∈ r, (var q.1).toNat < (stepA L t).length := fun q hq => by rw [stepA_len]; exact h1 q (List.mem_cons_of_mem _ hq)
    have k2 : ∀ q ∈ r, c q = false → ¬ P (var q.1) := fun q hq => h2 q (List.mem_cons_of_mem _ hq)
    have k3 : ∀ q ∈ r, c q = true → P (var q.2.1) ∧ P (var q.2.2) := fun q hq => h3 q (List.mem_cons_of_mem _ hq)
    cases hc : c t with
    | true =>
      rw [List.filter_cons_of_pos hc]
      obtain ⟨g1, g2⟩ := h3 t List.mem_cons_self hc
      refine ag_ands c r _ _ ?_ k1 k2 k3
      unfold stepA
      rw [← ag_lit h g1, ← ag_lit h g2]
      split
      · exact ag_set h (var_nn _) hp _
      · exact h
    | false =>
      rw [List.filter_cons_of_neg (by rw [hc]; decide)]
      refine ag_ands c r _ _ ?_ k1 k2 k3
      unfold stepA
      split
      · exact ag_skip h (var_nn _) hp (h2 t List.mem_cons_self hc) _
      · exact h

/-- What is said of those that count. -/
def proj {α : Type} (c : α → Bool) (T : List α) (s : List Bool) : List Bool := ((T.zip s).filter fun p => c p.1).map (·.2)
theorem zip_proj {α : Type} (c : α → Bool) : ∀ (T : List α) (s : List Bool), T.length = s.length → (T.filter c).zip (proj c T s) = (T.zip s).filter (fun p => c p.1)
  | [], _, _ => by simp [proj]
  | t :: r, [], h => by simp at h
  | t :: r, b :: s, h => by
    have ih := zip_proj c r s (by simpa using h)
    unfold proj at ih ⊢
    cases hc : c t <;> simp [hc, ih]
theorem proj_len {α : Type} (c : α → Bool) : ∀ (T : List α) (s : List Bool), T.length = s.length → (proj c T s).length = (T.filter c).length
  | [], _, _ => by simp [proj]
  | t :: r, [], h => by simp at h
  | t :: r, b :: s, h => by
    have ih := proj_len c r s (by simpa using h)
    unfold proj at ih ⊢
    cases hc : c t <;> simp [hc] at ih ⊢ <;> exact ih
theorem proj_map {α : Type} (c : α → Bool) (f : α → Bool) : ∀ (T : List α), proj c T (T.map f) = (T.filter c).map f
  | [] => by simp [proj]
  | t :: r => by
    have ih := proj_map c f r
    unfold proj at ih ⊢
    cases hc : c t <;> simp [hc] at ih ⊢ <;> exact ih
def lift {α : Type} (c d : α → Bool) : List α → List Bool → List Bool
  | [], _ => []
  | t :: r, s => if c t then (s.headD false) :: lift c d r s.tail else d t :: lift c d r s
theorem lift_len {α : Type} (c d : α → Bool) : ∀ (T : List α) (s : List Bool), (lift c d T s).length = T.length
  | [], _ => rfl
  | t :: r, s => by
    unfold lift
    cases hc : c t <;> simp [lift_len c d r]
theorem proj_lift {α : Type} (c d : α → Bool) : ∀ (T : List α) (s : List Bool), s.length = (T.filter c).length → proj c T (lift c d T s) = s
  | [], s, h => by
    have : s = [] := List.eq_nil_of_length_eq_zero (by simpa using h)
    rw [this]; simp [proj]
  | t :: r, s, h => by
    unfold lift
    cases hc : c t with
    | true =>
      rw [List.filter_cons_of_pos hc] at h
      cases s with
      | nil => simp at h
      | cons b s =>
        have ih := proj_lift c d r s (by simpa using h)
        unfold proj at ih ⊢
        simp [hc, ih]
    | false =>
      rw [List.filter_cons_of_neg (by rw [hc]; decide)] at h
      have ih := proj_lift c d r s h
      unfold proj at ih ⊢
      simp [hc, ih]
theorem lift_zip {α : Type} (c d : α → Bool) : ∀ (T : List α) (s : List Bool), s.length = (T.filter c).length → ∀ p ∈ T.zip (lift c d T s), p ∈ (T.filter c).zip s ∨ p.2 = d p.1
  | [], s, h, p, hp => by simp at hp
  | t :: r, s, h, p, hp => by
    unfold lift at hp
    cases hc : c t with
    | true =>
      rw [List.filter_cons_of_pos hc] at h ⊢
      cases s with
      | nil => simp at h
      | cons b s =>
        simp only [hc, if_true, List.headD_cons, List.tail_cons, List.zip_cons_cons, List.mem_cons] at hp ⊢
        rcases hp with hp | hp
        · exact Or.inl (Or.inl hp)
        · rcases lift_zip c d r s (by simpa using h) p hp with h1 | h1
          · exact Or.inl (Or.inr h1)
          · exact Or.inr h1
    | false =>
      rw [List.filter_cons_of_neg (by rw [hc]; decide)] at h ⊢
      simp only [hc, Bool.false_eq_true, if_false, List.zip_cons_cons, List.mem_cons] at hp
      rcases hp with rfl | hp
      · exact Or.inr rfl
      · exact lift_zip c d r s h p hp

section
variable {x : Circ} {l : List Int} {bl : Int} {A : List (List Int)}

theorem own_at (h : CheckOk x) : ∀ m ∈ ownL x, var m ≠ 0 ∧ (var m).toNat < (x.max + 1).toNat := fun m hm => by
  obtain ⟨h1, h2, h3⟩ := (ownOk_iff.1 h.2.1.1).1 m hm
  have h0 := h.1.1
  unfold var at h3 ⊢
  omega
theorem ins_own {m : Int} (h : m ∈ x.ins) : m ∈ ownL x := by unfold ownL; exact List.mem_append_left _ (List.mem_append_left _ h)
theorem lat_own {t : Tri} (h : t ∈ x.lats) : t.1 ∈ ownL x := by unfold ownL; exact List.mem_append_left _ (List.mem_append_right _ (List.mem_map.2 ⟨t, h, rfl⟩))
theorem and_own {t : Tri} (h : t ∈ x.ands) : t.1 ∈ ownL x := by unfold ownL; exact List.mem_append_right _ (List.mem_map.2 ⟨t, h, rfl⟩)
theorem cnt_no (h : CheckOk x) {m : Int} (hm : m ∈ ownL x) (hc : cnt x l m = false) : ¬ NR x l (var m) := fun hn => by
  rw [cnt_iff.2 ⟨(own_at h m hm).1, hn⟩] at hc
  cases hc

noncomputable abbrev cL (x : Circ) (l : List Int) (t : Tri) : Bool := cnt x l t.1
/-- The values of a reduced circuit. -/
theorem vals_ag (h : CheckOk x) {s i : List Bool} (hs : s.length = x.lats.length) (hi : i.length = x.ins.length) :
    Ag (NR x l) (vals x s i) (vals (reduced x l bl) (proj (cL x l) x.lats s) (proj (cnt x l) x.ins i)) := by
  have e1 : (reduced x l bl).ins.zip (proj (cnt x l) x.ins i) = (x.ins.zip i).filter (fun p => cnt x l p.1) := zip_proj (cnt x l) x.ins i hi.symm
  have e2 : (reduced x l bl).lats.zip (proj (cL x l) x.lats s) = (x.lats.zip s).filter (fun p => cL x l p.1) := zip_proj (cL x l) x.lats s hs.symm
  have e3 : ((x.lats.zip s).filter (fun p => cL x l p.1)).map (fun p => (p.1.1, p.2)) = ((x.lats.zip s).map fun p => (p.1.1, p.2)).filter (fun p => cnt x l p.1) := by
    rw [List.filter_map]; rfl
  have hz : zero (reduced x l bl) = zero x := rfl
  unfold vals base
  rw [e1, e2, e3, hz]
  have i1 : ∀ p ∈ x.ins.zip i, p.1 ∈ ownL x := fun p hp => ins_own (List.of_mem_zip (a := p.1) (b := p.2) hp).1
  have i2 : ∀ p ∈ (x.lats.zip s).map (fun p => (p.1.1, p.2)), p.1 ∈ ownL x := fun p hp => by
    obtain ⟨q, hq, rfl⟩ := List.mem_map.1 hp
    exact lat_own (List.of_mem_zip (a := q.1) (b := q.2) hq).1
  have z : Ag (NR x l) (zero x) (zero x) := ⟨rfl, fun _ _ _ => rfl⟩
  have zl : (zero x).length = (x.max + 1).toNat := by simp [zero]
  have a1 := ag_put (fun p => cnt x l p.1) (x.ins.zip i) _ _ z (fun p hp => by rw [zl]; exact (own_at h _ (i1 p hp)).2) (fun p hp hc => cnt_no h (i1 p hp) hc)
  have a2 := ag_put (fun p => cnt x l p.1) _ _ _ a1 (fun p hp => by rw [putAll_len, zl]; exact (own_at h _ (i2 p hp)).2) (fun p hp hc => cnt_no h (i2 p hp) hc)
  refine ag_ands (fun t => cnt x l t.1) x.ands _ _ a2 (fun t ht => ?_) (fun t ht hc => cnt_no h (and_own ht) hc) (fun t ht hc => ?_)
  · rw [putAll_len, putAll_len, zl]; exact (own_at h _ (and_own ht)).2
  · obtain ⟨c0, c1⟩ := cnt_iff.1 hc
    have hg := gate_ord (ord_of h) ht
    exact ⟨.left c1 c0 hg, .right c1 c0 hg⟩

theorem allow_red (h : CheckOk x) (hA : ∀ m ∈ A.flatten, m ∈ l) (hv : ∀ m ∈ x.invs, m ∈ l) {s i : List Bool} (hs : s.length = x.lats.length) (hi : i.length = x.ins.length) :
    allow (reduced x l bl) A (vals (reduced x l bl) (proj (cL x l) x.lats s) (proj (cnt x l) x.ins i)) = allow x A (vals x s i) := by
  have ag := vals_ag (l := l) (bl := bl) h hs hi
  have hl : ∀ m ∈ l, litV (vals x s i) m = litV (vals (reduced x l bl) (proj (cL x l) x.lats s) (proj (cnt x l) x.ins i)) m := fun m hm => ag_lit ag (.lit hm)
  unfold allow
  generalize vals (reduced x l bl) (proj (cL x l) x.lats s) (proj (cnt x l) x.ins i) = V' at *
  generalize vals x s i = V at *
  have e1 : x.invs.all (litV V') = x.invs.all (litV V) := by
    rw [Bool.eq_iff_iff, List.all_eq_true, List.all_eq_true]
    exact ⟨fun g m hm => (hl m (hv m hm)).trans (g m hm), fun g m hm => (hl m (hv m hm)).symm.trans (g m hm)⟩
  have e2 : (A.all fun c => c.any (litV V')) = A.all fun c => c.any (litV V) := by
    have k : ∀ c ∈ A, c.any (litV V') = c.any (litV V) := fun c hc => by
      rw [Bool.eq_iff_iff, List.any_eq_true, List.any_eq_true]
      have hm : ∀ m ∈ c, m ∈ l := fun m hm => hA m (List.mem_flatten.2 ⟨c, hc, hm⟩)
      exact ⟨fun ⟨m, g1, g2⟩ => ⟨m, g1, (hl m (hm m g1)).trans g2⟩, fun ⟨m, g1, g2⟩ => ⟨m, g1, (hl m (hm m g1)).symm.trans g2⟩⟩
    rw [Bool.eq_iff_iff, List.all_eq_true, List.all_eq_true]
    exact ⟨fun g c hc => (k c hc).symm.trans (g c hc), fun g c hc => (k c hc).trans (g c hc)⟩
  show ((reduced x l bl).invs.all (litV V') && _) = _
  rw [e2]
  exact congrArg (· && _) e1
theorem next_red (h : CheckOk x) {s i : List Bool} (hs : s.length = x.lats.length) (hi : i.length = x.ins.length) :
    next (reduced x l bl) (proj (cL x l) x.lats s) (proj (cnt x l) x.ins i) = proj (cL x l) x.lats (next x s i) := by
  have ag := vals_ag (l := l) (bl := bl) h hs hi
  unfold next
  rw [proj_map]
  refine List.map_congr_left fun t ht => ?_
  obtain ⟨h1, h2⟩ := List.mem_filter.1 ht
  obtain ⟨c0, c1⟩ := cnt_iff.1 h2
  exact (ag_lit ag (.next c1 c0 h1)).symm
theorem next_len (x : Circ) (s i : List Bool) : (next x s i).length = x.lats.length := by simp [next]
theorem R_len : ∀ {n : Nat} {s : List Bool}, R x A n s → s.length = x.lats.length
  | 0, _, h => h.1
  | n + 1, _, ⟨_, _, _, _, _, rfl⟩ => next_len _ _ _
theorem R_proj (h : CheckOk x) (hA : ∀ m ∈ A.flatten, m ∈ l) (hv : ∀ m ∈ x.invs, m ∈ l) : ∀ {n : Nat} {s : List Bool}, R x A n s → R (reduced x l bl) A n (proj (cL x l) x.lats s)
  | 0, s, hr => ⟨proj_len _ _ _ hr.1.symm, fun p hp => by
      have e : (reduced x l bl).lats.zip (proj (cL x l) x.lats s) = (x.lats.zip s).filter (fun p => cL x l p.1) := zip_proj (cL x l) x.lats s hr.1.symm
      rw [e] at hp
      exact hr.2 p (List.mem_filter.1 hp).1⟩
  | n + 1, s, ⟨s0, i, h0, hi, ha, he⟩ => by
    have hs := R_len h0
    refine ⟨_, proj (cnt x l) x.ins i, R_proj h hA hv h0, proj_len _ _ _ hi.symm, ?_, ?_⟩
    · rw [allow_red h hA hv hs hi]; exact ha
    · rw [he, next_red h hs hi]
theorem okB_d (t : Tri) : okB t (t.2.2 == 1) = true := by unfold okB; simp
theorem R_lift (h : CheckOk x) (hA : ∀ m ∈ A.flatten, m ∈ l) (hv : ∀ m ∈ x.invs, m ∈ l) : ∀ {n : Nat} {s' : List Bool}, R (reduced x l bl) A n s' → ∃ s, R x A n s ∧ proj (cL x l) x.lats s = s'
  | 0, s', hr => by
    have hl : s'.length = (x.lats.filter (cL x l)).length := hr.1
    refine ⟨lift (cL x l) (fun t => t.2.2 == 1) x.lats s', ⟨lift_len _ _ _ _, fun p hp => ?_⟩, proj_lift _ _ _ _ hl⟩
    rcases lift_zip _ _ _ _ hl p hp with h1 | h1
    · exact hr.2 p h1
    · rw [h1]; exact okB_d _
  | n + 1, s', ⟨s0', i', h0, hi, ha, he⟩ => by
    obtain ⟨s0, hr, hp⟩ := R_lift h hA hv h0
    have hs := R_len hr
    have hl : i'.length = (x.ins.filter (cnt x l)).length := hi
    have hq := proj_lift (cnt x l) (fun _ => false) x.ins i' hl
    have hi2 := lift_len (cnt x l) (fun _ => false) x.ins i'
    refine ⟨next x s0 (lift (cnt x l) (fun _ => false) x.ins i'), ⟨s0, _, hr, hi2, ?_, rfl⟩, ?_⟩
    · rw [← allow_red (bl := bl) h hA hv hs hi2, hp, hq]; exact ha
    · rw [← next_red (bl := bl) h hs hi2, hp, hq]; exact he.symm
theorem hit_red (h : CheckOk x) (hA : ∀ m ∈ A.flatten, m ∈ l) (hv : ∀ m ∈ x.invs, m ∈ l) (hb : bl ∈ l) (n : Nat) : Hit x A bl n ↔ Hit (reduced x l bl) A bl n := by
  constructor
  · rintro ⟨s, i, hr, hi, ha, hh⟩
    have hs := R_len hr
    refine ⟨_, proj (cnt x l) x.ins i, R_proj h hA hv hr, proj_len _ _ _ hi.symm, ?_, ?_⟩
    · rw [allow_red h hA hv hs hi]; exact ha
    · rw [← ag_lit (vals_ag (l := l) (bl := bl) h hs hi) (.lit hb)]; exact hh
  · rintro ⟨s', i', hr', hi, ha, hh⟩
    obtain ⟨s, hr, hp⟩ := R_lift h hA hv hr'
    have hs := R_len hr
    have hl : i'.length = (x.ins.filter (cnt x l)).length := hi
    have hq := proj_lift (cnt x l) (fun _ => false) x.ins i' hl
    have hi2 := lift_len (cnt x l) (fun _ => false) x.ins i'
    refine ⟨s, _, hr, hi2, ?_, ?_⟩
    · rw [← allow_red (bl := bl) h hA hv hs hi2, hp, hq]; exact ha
    · rw [ag_lit (vals_ag (l := l) (bl := bl) h hs hi2) (.lit hb), hp, hq]; exact hh
end
end BadP
end Go.Proofs.YtninglnchengeaaGreatDoor

/-
  Plain: all states, numbered; what a search level by level knows; the least number of steps to a Bad.
-/
namespace Go.Proofs.YtninglnchengeaaGreatDoor
open Go.RowKit Base
set_option linter.unusedVariables false
set_option linter.unusedSimpArgs false
namespace BadP
open Circuit

def twoL (l : List Bool) : List (List Bool) := [l ++ [false], l ++ [true]]
def allL : Nat → List (List Bool)
  | 0 => [[]]
  | n + 1 => (allL n).flatMap twoL
def bitN (b : Bool) : Nat := if b then 1 else 0
def idx (l : List Bool) : Nat := l.foldl (fun n b => 2 * n + bitN b) 0
theorem idx_snoc (l : List Bool) (b : Bool) : idx (l ++ [b]) = 2 * idx l + bitN b := by unfold idx; rw [List.foldl_append]; rfl
theorem flat_len : ∀ L : List (List Bool), (L.flatMap twoL).length = 2 * L.length
  | [] => rfl
  | l :: r => by rw [List.flatMap_cons, List.length_append, flat_len r]; simp [twoL]; omega
theorem allL_len : ∀ n, (allL n).length = 2 ^ n
  | 0 => rfl
  | n + 1 => by rw [allL, flat_len, allL_len n, Nat.pow_succ]; omega
theorem flat_at : ∀ (L : List (List Bool)) (j : Nat) (b : Bool), (L.flatMap twoL)[2 * j + bitN b]? = (L[j]?).map (· ++ [b])
  | [], j, b => by simp
  | l :: r, 0, b => by cases b <;> simp [twoL, bitN]
  | l :: r, j + 1, b => by
    have e : 2 * (j + 1) + bitN b = (2 * j + bitN b) + 2 := by omega
    rw [List.flatMap_cons, e]
    show ((l ++ [false]) :: (l ++ [true]) :: r.flatMap twoL)[(2 * j + bitN b) + 2]? = _
    rw [List.getElem?_cons_succ, List.getElem?_cons_succ, flat_at r j b, List.getElem?_cons_succ]
theorem at_idx : ∀ (n : Nat) (s : List Bool), s.length = n → (allL n)[idx s]? = some s
  | 0, s, h => by rw [List.eq_nil_of_length_eq_zero h]; rfl
  | n + 1, s, h => by
    have hne : s ≠ [] := fun e => by rw [e] at h; simp at h
    have hs := List.dropLast_concat_getLast hne
    rw [← hs, idx_snoc, allL, flat_at, at_idx n _ (by rw [List.length_dropLast]; omega)]
    rfl
theorem at_len : ∀ (n j : Nat) (s : List Bool), (allL n)[j]? = some s → s.length = n
  | 0, j, s, h => by
    cases j with
    | zero => simp [allL] at h; rw [h]; rfl
    | succ j => simp [allL] at h
  | n + 1, j, s, h => by
    have e : j = 2 * (j / 2) + bitN (decide (j % 2 = 1)) := by unfold bitN; by_cases hq : j % 2 = 1 <;> simp [hq] <;> omega
    rw [allL, e, flat_at] at h
    cases hq : (allL n)[j / 2]? with
    | none => rw [hq] at h; cases h
    | some t =>
      rw [hq] at h
      simp at h
      rw [← h, List.length_append, at_len n _ t hq]; rfl
theorem idx_lt {n : Nat} {s : List Bool} (h : s.length = n) : idx s < 2 ^ n := by
  have := (List.getElem?_eq_some_iff.1 (at_idx n s h)).1
  rwa [allL_len] at this
theorem idx_at {n j : Nat} {s : List Bool} (h : (allL n)[j]? = some s) : idx s = j := by
  have hn := at_len n j s h
  induction n generalizing j s with
  | zero =>
    cases j with
    | zero => simp [allL] at h; rw [h]; rfl
    | succ j => simp [allL] at h
  | succ n ih =>
    have e : j = 2 * (j / 2) + bitN (decide (j % 2 = 1)) := by unfold bitN; by_cases hq : j % 2 = 1 <;> simp [hq] <;> omega
    rw [allL, e, flat_at] at h
    cases hq : (allL n)[j / 2]? with
    | none => rw [hq] at h; cases h
    | some t =>
      rw [hq] at h
      simp only [Option.map_some, Option.some.injEq] at h
      rw [← h, idx_snoc, ih hq (at_len n _ t hq), ← e]

section
variable {x : Circ} {A : List (List Int)}

/-- What can be reached can be reached in fewer steps than there are states. -/
theorem R_least {m : Nat} {s : List Bool} (h : R x A m s) : ∃ k, k ≤ m ∧ R x A k s ∧ ∀ k', k' < k → ¬ R x A k' s := by
  induction m using Nat.strongRecOn with
  | _ m ih =>
    by_cases hq : ∃ k', k' < m ∧ R x A k' s
    · obtain ⟨k', h1, h2⟩ := hq
      obtain ⟨k, g1, g2, g3⟩ := ih k' h1 h2
      exact ⟨k, by omega, g2, g3⟩
    · exact ⟨m, Nat.le_refl _, h, fun k' h1 h2 => hq ⟨k', h1, h2⟩⟩
theorem R_down {k : Nat} (h : ∃ t, R x A (k + 1) t ∧ ∀ k', k' < k + 1 → ¬ R x A k' t) : ∃ t, R x A k t ∧ ∀ k', k' < k → ¬ R x A k' t := by
  obtain ⟨t, ⟨t0, i, h0, hi, ha, he⟩, hm⟩ := h
  exact ⟨t0, h0, fun k' hk hr => hm (k' + 1) (by omega) ⟨t0, i, hr, hi, ha, he⟩⟩
theorem R_all {k : Nat} : ∀ d, (∃ t, R x A (k + d) t ∧ ∀ k', k' < k + d → ¬ R x A k' t) → ∃ t, R x A k t ∧ ∀ k', k' < k → ¬ R x A k' t
  | 0, h => h
  | d + 1, h => R_all d (R_down h)
theorem R_short {m : Nat} {s : List Bool} (h : R x A m s) : ∃ k, k ≤ m ∧ k < 2 ^ x.lats.length ∧ R x A k s := by
  obtain ⟨k, hk, hr, hm⟩ := R_least h
  refine ⟨k, hk, ?_, hr⟩
  have hq : ∀ j : Nat, ∃ t : List Bool, j ≤ k → R x A j t ∧ ∀ k', k' < j → ¬ R x A k' t := fun j => by
    by_cases hj : j ≤ k
    · obtain ⟨t, ht⟩ := R_all (x := x) (A := A) (k := j) (k - j) ⟨s, by have e : j + (k - j) = k := by omega
                                                                        rw [e]; exact ⟨hr, hm⟩⟩
      exact ⟨t, fun _ => ht⟩
    · exact ⟨[], fun h => absurd h hj⟩
  have hnd : ((List.range (k + 1)).map fun j => (idx (Classical.choose (hq j)) : Int)).Nodup := by
    have hinj : ∀ a ∈ List.range (k + 1), ∀ b ∈ List.range (k + 1), (idx (Classical.choose (hq a)) : Int) = (idx (Classical.choose (hq b)) : Int) → a = b := fun a ha b hb e => by
      rw [List.mem_range] at ha hb
      obtain ⟨a1, a2⟩ := Classical.choose_spec (hq a) (by omega)
      obtain ⟨b1, b2⟩ := Classical.choose_spec (hq b) (by omega)
      have e' : idx (Classical.choose (hq a)) = idx (Classical.choose (hq b)) := by omega
      have e2 : Classical.choose (hq a) = Classical.choose (hq b) := by
        have h1 := at_idx _ _ (R_len a1)
        have h2 := at_idx _ _ (R_len b1)
        rw [e'] at h1
        exact Option.some.inj (h1.symm.trans h2)
      rcases Nat.lt_trichotomy a b with h | h | h
      · exact absurd (e2 ▸ a1) (b2 a h)
      · exact h
      · exact absurd (e2 ▸ b1) (a2 b h)
    have hr : (List.range (k + 1)).Nodup := List.nodup_range
    generalize List.range (k + 1) = L at hinj hr
    clear hm hk
    induction L with
    | nil => exact List.nodup_nil
    | cons y r ih =>
      rw [List.nodup_cons] at hr
      rw [List.map_cons, List.nodup_cons]
      refine ⟨fun hmem => ?_, ih (fun a ha b hb => hinj a (List.mem_cons_of_mem _ ha) b (List.mem_cons_of_mem _ hb)) hr.2⟩
      obtain ⟨z, hz, he⟩ := List.mem_map.1 hmem
      have := hinj z (List.mem_cons_of_mem _ hz) y List.mem_cons_self he
      exact hr.1 (this ▸ hz)
  have := nodup_len hnd (C := (List.range (2 ^ x.lats.length)).map fun (j : Nat) => (j : Int)) (fun v hv => by
    obtain ⟨j, hj, rfl⟩ := List.mem_map.1 hv
    rw [List.mem_range] at hj
    obtain ⟨a1, _⟩ := Classical.choose_spec (hq j) (by omega)
    exact List.mem_map.2 ⟨_, List.mem_range.2 (idx_lt (R_len a1)), rfl⟩)
  simp at this
  omega

/-- A level is done. -/
structure Lv (x : Circ) (A : List (List Int)) (n : Nat) (out : List Int) : Prop where
  len : out.length = 2 ^ x.lats.length
  hi : ∀ (j : Nat) (v : Int), out[j]? = some v → v ≤ n
  sound : ∀ (j : Nat) (v : Int), out[j]? = some v → 0 ≤ v → ∃ s, (allL x.lats.length)[j]? = some s ∧ R x A v.toNat s
  comp : ∀ (m : Nat) (s : List Bool), m ≤ n → R x A m s → ∃ v, out[idx s]? = some v ∧ 0 ≤ v ∧ v ≤ m
/-- In the middle of a level. -/
structure Mid (x : Circ) (A : List (List Int)) (n i k : Nat) (out : List Int) : Prop where
  len : out.length = 2 ^ x.lats.length
  hi : ∀ (j : Nat) (v : Int), out[j]? = some v → v ≤ n + 1
  sound : ∀ (j : Nat) (v : Int), out[j]? = some v → 0 ≤ v → ∃ s, (allL x.lats.length)[j]? = some s ∧ R x A v.toNat s
  comp : ∀ (m : Nat) (s : List Bool), m ≤ n → R x A m s → ∃ v, out[idx s]? = some v ∧ 0 ≤ v ∧ v ≤ m
  mid : ∀ (i' k' : Nat), (i' < i ∨ (i' = i ∧ k' < k)) → ∀ s inp, (allL x.lats.length)[i']? = some s → (allL x.ins.length)[k']? = some inp → out[i']? = some (n : Int) → allow x A (vals x s inp) = true →
    ∃ v, out[idx (next x s inp)]? = some v ∧ 0 ≤ v ∧ v ≤ n + 1
theorem mid_start {n : Nat} {out : List Int} (h : Lv x A n out) : Mid x A n 0 0 out :=
  ⟨h.len, fun j v hv => by have := h.hi j v hv; omega, h.sound, h.comp, fun i' k' hik => by omega⟩
theorem mid_more {n i k : Nat} {out : List Int} (h : Mid x A n i k out) (hk : ∀ s inp, (allL x.lats.length)[i]? = some s → (allL x.ins.length)[k]? = some inp → out[i]? = some (n : Int) → allow x A (vals x s inp) = true → ∃ v, out[idx (next x s inp)]? = some v ∧ 0 ≤ v ∧ v ≤ n + 1) :
    Mid x A n i (k + 1) out :=
  ⟨h.len, h.hi, h.sound, h.comp, fun i' k' hik s inp hs hi => by
    by_cases e : i' = i ∧ k' = k
    · obtain ⟨rfl, rfl⟩ := e; exact hk s inp hs hi
    · exact h.mid i' k' (by omega) s inp hs hi⟩
theorem mid_no {n i k : Nat} {out : List Int} (h : Mid x A n i k out) {s inp : List Bool} (hs : (allL x.lats.length)[i]? = some s) (hi : (allL x.ins.length)[k]? = some inp) (ha : allow x A (vals x s inp) = false) : Mid x A n i (k + 1) out :=
  mid_more h fun s' inp' hs' hi' _ ha' => by
    rw [hs] at hs'; rw [hi] at hi'
    cases hs'; cases hi'
    rw [ha] at ha'; cases ha'
theorem mid_old {n i k : Nat} {out : List Int} (h : Mid x A n i k out) {s inp : List Bool} (hs : (allL x.lats.length)[i]? = some s) (hi : (allL x.ins.length)[k]? = some inp) {v : Int} (hv : out[idx (next x s inp)]? = some v) (h0 : 0 ≤ v) : Mid x A n i (k + 1) out :=
  mid_more h fun s' inp' hs' hi' _ ha' => by
    rw [hs] at hs'; rw [hi] at hi'
    cases hs'; cases hi'
    exact ⟨v, hv, h0, h.hi _ _ hv⟩
theorem mid_new {n i k : Nat} {out : List Int} (h : Mid x A n i k out) {s inp : List Bool} (hs : (allL x.lats.length)[i]? = some s) (hi : (allL x.ins.length)[k]? = some inp) (hn : out[i]? = some (n : Int)) (ha : allow x A (vals x s inp) = true)
    {v : Int} (hv : out[idx (next x s inp)]? = some v) (h0 : v < 0) : Mid x A n i (k + 1) (out.set (idx (next x s inp)) (n + 1)) := by
  obtain ⟨t, ht⟩ : ∃ t, next x s inp = t := ⟨_, rfl⟩
  have htl : t.length = x.lats.length := by rw [← ht]; exact next_len _ _ _
  have hlt : idx t < out.length := by rw [h.len]; exact idx_lt htl
  rw [ht] at hv ⊢
  have hin : inp.length = x.ins.length := at_len _ _ _ hi
  obtain ⟨s2, hs2, hr⟩ := h.sound i n hn (by omega)
  rw [hs] at hs2
  cases hs2
  have hr2 : R x A (n + 1) t := ⟨s, inp, by simpa using hr, hin, ha, ht.symm⟩
  have get : ∀ j, (out.set (idx t) ((n : Int) + 1))[j]? = if idx t = j then some ((n : Int) + 1) else out[j]? := fun j => by
    rw [List.getElem?_set]
    by_cases e : idx t = j
    · rw [if_pos e, if_pos e, if_pos (by omega)]
    · rw [if_neg e, if_neg e]
  have keep : ∀ (j : Nat) (u : Int), out[j]? = some u → 0 ≤ u → (out.set (idx t) ((n : Int) + 1))[j]? = some u := fun j u hu hu0 => by
    rw [get, if_neg (fun e => by rw [← e, hv] at hu; cases hu; omega), hu]
  refine ⟨by rw [List.length_set]; exact h.len, fun j u hu => ?_, fun j u hu hu0 => ?_, fun m s' hm hr' => ?_, fun i' k' hik s' inp' hs' hi' hn' ha' => ?_⟩
  · rw [get] at hu
    by_cases e : idx t = j
    · rw [if_pos e] at hu; cases hu; omega
    · rw [if_neg e] at hu; exact h.hi _ _ hu
  · rw [get] at hu
    by_cases e : idx t = j
    · rw [if_pos e] at hu
      cases hu
      refine ⟨t, by rw [← e]; exact at_idx _ _ htl, ?_⟩
      have e2 : ((n : Int) + 1).toNat = n + 1 := by omega
      rw [e2]; exact hr2
    · rw [if_neg e] at hu; exact h.sound _ _ hu hu0
  · obtain ⟨u, g1, g2, g3⟩ := h.comp m s' hm hr'
    exact ⟨u, keep _ _ g1 g2, g2, g3⟩
  · have hn2 : out[i']? = some (n : Int) := by
      rw [get] at hn'
      by_cases e : idx t = i'
      · rw [if_pos e] at hn'; injection hn' with hn'; omega
      · rw [if_neg e] at hn'; exact hn'
    by_cases e : i' = i ∧ k' = k
    · obtain ⟨rfl, rfl⟩ := e
      rw [hs] at hs'; rw [hi] at hi'
      cases hs'; cases hi'
      rw [ht]
      exact ⟨_, by rw [get, if_pos rfl], by omega, Int.le_refl _⟩
    · obtain ⟨u, g1, g2, g3⟩ := h.mid i' k' (by omega) s' inp' hs' hi' hn2 ha'
      exact ⟨u, keep _ _ g1 g2, g2, g3⟩
theorem mid_row {n i k : Nat} {out : List Int} (h : Mid x A n i k out) (hk : 2 ^ x.ins.length ≤ k ∨ out[i]? ≠ some (n : Int)) : Mid x A n (i + 1) 0 out :=
  ⟨h.len, h.hi, h.sound, h.comp, fun i' k' hik s inp hs hi hn => by
    by_cases e : i' = i
    · subst e
      rcases hk with hk | hk
      · have h1 := (List.getElem?_eq_some_iff.1 hi).1
        rw [allL_len] at h1
        exact h.mid i' k' (by omega) s inp hs hi hn
      · exact absurd hn hk
    · exact h.mid i' k' (by omega) s inp hs hi hn⟩
theorem mid_end {n i : Nat} {out : List Int} (h : Mid x A n i 0 out) (hi : 2 ^ x.lats.length ≤ i) : Lv x A (n + 1) out :=
  ⟨h.len, fun j v hv => by have := h.hi j v hv; omega, h.sound, fun m s hm hr => by
    by_cases hmn : m ≤ n
    · exact h.comp m s hmn hr
    · obtain rfl : m = n + 1 := by omega
      obtain ⟨s0, inp, h0, hin, ha, rfl⟩ := hr
      obtain ⟨v, g1, g2, g3⟩ := h.comp n s0 (Nat.le_refl _) h0
      by_cases hv : v = n
      · subst hv
        have hl := idx_lt (R_len h0)
        obtain ⟨u, k1, k2, k3⟩ := h.mid (idx s0) (idx inp) (Or.inl (by omega)) s0 inp (at_idx _ _ (R_len h0)) (at_idx _ _ hin) g1 ha
        exact ⟨u, k1, k2, by omega⟩
      · obtain ⟨s1, k1, k2⟩ := h.sound _ _ g1 g2
        rw [at_idx _ _ (R_len h0)] at k1
        cases k1
        have hr2 : R x A (v.toNat + 1) (next x s0 inp) := ⟨s0, inp, k2, hin, ha, rfl⟩
        obtain ⟨u, q1, q2, q3⟩ := h.comp (v.toNat + 1) _ (by omega) hr2
        exact ⟨u, q1, q2, by omega⟩⟩
/-- All is known. -/
structure SOut (x : Circ) (A : List (List Int)) (out : List Int) : Prop where
  len : out.length = 2 ^ x.lats.length
  sound : ∀ (j : Nat) (v : Int), out[j]? = some v → 0 ≤ v → ∃ s, (allL x.lats.length)[j]? = some s ∧ R x A v.toNat s
  comp : ∀ (m : Nat) (s : List Bool), R x A m s → ∃ v, out[idx s]? = some v ∧ 0 ≤ v ∧ v ≤ m
theorem lv_end {n : Nat} {out : List Int} (h : Lv x A n out) (hn : 2 ^ x.lats.length ≤ n) : SOut x A out :=
  ⟨h.len, h.sound, fun m s hr => by
    obtain ⟨k, h1, h2, h3⟩ := R_short hr
    obtain ⟨v, g1, g2, g3⟩ := h.comp k s (by omega) h3
    exact ⟨v, g1, g2, by omega⟩⟩
theorem lv_first {out : List Int} (hl : out.length = 2 ^ x.lats.length) (h : ∀ (j : Nat) s, (allL x.lats.length)[j]? = some s → out[j]? = some (if tt (initL x s) = true then 0 else -1)) : Lv x A 0 out := by
  have key : ∀ (j : Nat) (v : Int), out[j]? = some v → ∃ s, (allL x.lats.length)[j]? = some s ∧ v = if tt (initL x s) = true then 0 else -1 := fun j v hv => by
    have h1 := (List.getElem?_eq_some_iff.1 hv).1
    obtain ⟨s, hs⟩ : ∃ s, (allL x.lats.length)[j]? = some s := ⟨_, List.getElem?_eq_getElem (by rw [allL_len, ← hl]; exact h1)⟩
    refine ⟨s, hs, ?_⟩
    rw [h j s hs] at hv
    injection hv with hv
    exact hv.symm
  refine ⟨hl, fun j v hv => ?_, fun j v hv h0 => ?_, fun m s hm hr => ?_⟩
  · obtain ⟨s, _, rfl⟩ := key j v hv
    split <;> omega
  · obtain ⟨s, hs, rfl⟩ := key j v hv
    by_cases hq : initL x s
    · rw [tt_pos hq]; exact ⟨s, hs, hq⟩
    · rw [tt_neg hq] at h0; simp at h0
  · obtain rfl : m = 0 := by omega
    have hr' : initL x s := hr
    exact ⟨0, by rw [h _ s (at_idx _ _ hr'.1), tt_pos hr']; rfl, by omega, by omega⟩

/-- What a search for the least number of steps knows. -/
structure BI (x : Circ) (A : List (List Int)) (b : Int) (out : List Int) (i k : Nat) (best : Int) : Prop where
  what : best = -1 ∨ ∃ n : Nat, best = n ∧ Hit x A b n
  mid : ∀ (i' k' : Nat), (i' < i ∨ (i' = i ∧ k' < k)) → ∀ s inp v, (allL x.lats.length)[i']? = some s → (allL x.ins.length)[k']? = some inp → out[i']? = some v → 0 ≤ v → allow x A (vals x s inp) = true → litV (vals x s inp) b = true →
    0 ≤ best ∧ best ≤ v
def IsBad (x : Circ) (A : List (List Int)) (b : Int) (r : Int) : Prop := (r = -1 ∧ ∀ n, ¬ Hit x A b n) ∨ ∃ n : Nat, r = n ∧ Hit x A b n ∧ ∀ m, Hit x A b m → n ≤ m
theorem bi_start (b : Int) (out : List Int) : BI x A b out 0 0 (-1) := ⟨Or.inl rfl, fun i' k' hik => by omega⟩
theorem bi_stay {b : Int} {out : List Int} {i k : Nat} {best : Int} (h : BI x A b out i k best) (hk : ∀ s inp v, (allL x.lats.length)[i]? = some s → (allL x.ins.length)[k]? = some inp → out[i]? = some v → 0 ≤ v → allow x A (vals x s inp) = true → litV (vals x s inp) b = true → 0 ≤ best ∧ best ≤ v) :
    BI x A b out i (k + 1) best :=
  ⟨h.what, fun i' k' hik s inp v hs hi => by
    by_cases e : i' = i ∧ k' = k
    · obtain ⟨rfl, rfl⟩ := e; exact hk s inp v hs hi
    · exact h.mid i' k' (by omega) s inp v hs hi⟩
theorem bi_new {b : Int} {out : List Int} {i k : Nat} {best : Int} (h : BI x A b out i k best) (hS : SOut x A out) {s inp : List Bool} {v : Int} (hs : (allL x.lats.length)[i]? = some s) (hi : (allL x.ins.length)[k]? = some inp) (hv : out[i]? = some v) (h0 : 0 ≤ v)
    (ha : allow x A (vals x s inp) = true) (hb : litV (vals x s inp) b = true) (hlt : best < 0 ∨ v < best) : BI x A b out i (k + 1) v := by
  obtain ⟨s2, hs2, hr⟩ := hS.sound i v hv h0
  rw [hs] at hs2
  cases hs2
  refine ⟨Or.inr ⟨v.toNat, by omega, s, inp, hr, at_len _ _ _ hi, ha, hb⟩, fun i' k' hik s' inp' v' hs' hi' hv' h0' ha' hb' => ?_⟩
  by_cases e : i' = i ∧ k' = k
  · obtain ⟨rfl, rfl⟩ := e
    rw [hv] at hv'
    cases hv'
    omega
  · have := h.mid i' k' (by omega) s' inp' v' hs' hi' hv' h0' ha' hb'
    omega
theorem bi_row {b : Int} {out : List Int} {i k : Nat} {best : Int} (h : BI x A b out i k best) (hk : 2 ^ x.ins.length ≤ k ∨ ∀ v, out[i]? = some v → v < 0) : BI x A b out (i + 1) 0 best :=
  ⟨h.what, fun i' k' hik s inp v hs hi hv h0 => by
    by_cases e : i' = i
    · subst e
      rcases hk with hk | hk
      · have h1 := (List.getElem?_eq_some_iff.1 hi).1
        rw [allL_len] at h1
        exact h.mid i' k' (by omega) s inp v hs hi hv h0
      · have := hk v hv; omega
    · exact h.mid i' k' (by omega) s inp v hs hi hv h0⟩
theorem bi_end {b : Int} {out : List Int} {i : Nat} {best : Int} (h : BI x A b out i 0 best) (hS : SOut x A out) (hi : 2 ^ x.lats.length ≤ i) : IsBad x A b best := by
  have key : ∀ m, Hit x A b m → 0 ≤ best ∧ best ≤ m := fun m hm => by
    obtain ⟨s, inp, hr, hin, ha, hb⟩ := hm
    obtain ⟨v, g1, g2, g3⟩ := hS.comp m s hr
    have hl := idx_lt (R_len hr)
    have := h.mid (idx s) (idx inp) (Or.inl (by omega)) s inp v (at_idx _ _ (R_len hr)) (at_idx _ _ hin) g1 g2 ha hb
    omega
  rcases h.what with h1 | ⟨n, h1, h2⟩
  · exact Or.inl ⟨h1, fun n hn => by have := key n hn; omega⟩
  · exact Or.inr ⟨n, h1, h2, fun m hm => by have := key m hm; omega⟩
theorem isBad_same {x y : Circ} {A : List (List Int)} {b b' r r' : Int} (h : IsBad x A b r) (h' : IsBad y A b' r') (hh : ∀ n, Hit x A b n ↔ Hit y A b' n) : r = r' := by
  rcases h with ⟨h1, h2⟩ | ⟨n, h1, h2, h3⟩ <;> rcases h' with ⟨g1, g2⟩ | ⟨m, g1, g2, g3⟩
  · rw [h1, g1]
  · exact absurd ((hh m).2 g2) (h2 m)
  · exact absurd ((hh n).1 h2) (g2 n)
  · have := h3 m ((hh m).2 g2)
    have := g3 n ((hh n).1 h2)
    omega
end
end BadP
end Go.Proofs.YtninglnchengeaaGreatDoor

/-
  interlockref01.Var of a literal that is none below 0.
-/
namespace Go.Proofs.YtninglnchengeaaGreatDoor
open Go.RowKit Base
set_option linter.unusedVariables false
set_option linter.unusedSimpArgs false
namespace RefV
open Circuit

theorem refVar_any (a : Int) (h0 : 0 ≤ a) (h1 : a ≤ 9223372036854775807) (w : World) : Calls Tryz.prog 65 #[.int .i64 a] w fun e w' => e = .returned (.int .i64 (var a)) ∧ w' = w := by
  have hn : ¬ a < 0 := by omega
  have HV : Hid (var a = a / 2) := by show _ = _; unfold var; omega
  have HD : Hid (Int.tdiv a 2 = a / 2) := Int.tdiv_eq_ediv_of_nonneg h0
  go_enter Tryz.func65, Tryz.ntmps65
  go_wp2
  all_goals
    go_ret
    exact ⟨ret_int (by have := HV.out; have := HD.out; first | omega | (rw [HV.out, HD.out]) | (rw [HV.out])), rfl⟩
end RefV
end Go.Proofs.YtninglnchengeaaGreatDoor

/-
  interlockref07.Initial: is a state a first one?
-/
namespace Go.Proofs.YtninglnchengeaaGreatDoor
open Go.RowKit Base
set_option linter.unusedVariables false
set_option linter.unusedSimpArgs false
namespace Initial
open Circuit (cbox_new)

/-- May a latch begin so? -/
def okLat (t : Tri) (b : UInt8) : Bool := !((t.2.2 != t.1) && ((t.2.2 == 1) != ((b.toNat : Int) == 49)))
def initialB (lats : List Tri) (s : ByteArray) : Bool := RefBits.bits s.data.toList lats.length && (List.zipWith okLat lats s.data.toList).all id

theorem all_to {lats : List Tri} {l : List UInt8} (h : ∀ j (h1 : j < lats.length) (h2 : j < l.length), okLat lats[j] l[j] = true) : (List.zipWith okLat lats l).all id = true := by
  rw [List.all_eq_true]
  intro b hb
  obtain ⟨j, hj, rfl⟩ := List.mem_iff_getElem.1 hb
  rw [List.length_zipWith] at hj
  rw [List.getElem_zipWith]
  exact h j (by omega) (by omega)
theorem all_not {lats : List Tri} {l : List UInt8} {j : Nat} (h1 : j < lats.length) (h2 : j < l.length) (h : okLat lats[j] l[j] = false) : (List.zipWith okLat lats l).all id = false := by
  rw [Bool.eq_false_iff]
  intro ha
  rw [List.all_eq_true] at ha
  have := ha (okLat lats[j] l[j]) (List.mem_iff_getElem.2 ⟨j, by rw [List.length_zipWith]; omega, by rw [List.getElem_zipWith]⟩)
  rw [h] at this
  cases this

set_option maxRecDepth 8000 in
set_option maxHeartbeats 4000000 in
theorem initial_any (w : World) (x : Circ) (p : At) (hin : InCirc w x p) (s : ByteArray) (hs : s.size ≤ 9223372036854775807) :
    Calls Tryz.prog 36 #[.agg (cells x p), .string s] w fun e w' => e = .returned (.bool (initialB x.lats s)) ∧ Below w.heap.size w w' := by
  obtain ⟨W1, hW1⟩ : ∃ U, w.alloc (.cells (cells x p) 27) = U := ⟨_, rfl⟩
  obtain ⟨hb1, hx1⟩ := cbox_new w x p W1 hW1
  have HB1 := Lib.hid hb1
  have HX1 := Lib.hid hx1
  have HL := Lib.hid (hin.next hb1).lats
  have hcap := hin.lats.cap
  have hbig := hin.lats.big
  have HBI := Lib.hid (RefBits.bits_any W1 s hs (x.lats.length : Int))
  have HV : Hid (initialB x.lats s = (RefBits.bits s.data.toList (x.lats.length : Int) && (List.zipWith okLat x.lats s.data.toList).all id)) := rfl
  have hlen : RefBits.bits s.data.toList (x.lats.length : Int) = true → s.size = x.lats.length := by
    intro h
    unfold RefBits.bits at h
    rw [Bool.and_eq_true, decide_eq_true_eq] at h
    have e : s.data.toList.length = s.size := by rw [Array.length_toList]; rfl
    have := h.2
    omega
  have k2 := hx1.k2
  generalize hin2 : initialB x.lats s = V at *
  generalize hbt : RefBits.bits s.data.toList (x.lats.length : Int) = B at *
  clear hin hb1 hx1 hin2 hbt hs
  unfold cells at *
  go_enter Tryz.func36, Tryz.ntmps36
  go_wp2_with fail
  with_reducible refine HBI.out.mono ?_
  rintro e w2 ⟨rfl, rfl⟩
  cases B
  · have HVF : Hid (V = false) := by show _ = _; rw [HV.out]; rfl
    go_wp2_with fail
    go_ret
    exact ⟨by rw [HVF.out]; rfl, HB1.out⟩
  · have hsz := hlen rfl
    have HVT : Hid (V = (List.zipWith okLat x.lats s.data.toList).all id) := by show _ = _; rw [HV.out]; rfl
    generalize hn : x.lats.length = n at *
    have HN := Lib.hid hn
    have HSZ := Lib.hid hsz
    clear hlen hn
    have hsn : (s.size : Int) = (n : Int) := by rw [hsz]
    go_wp2_with fail
    go_loopw [5] (fun i wr => ∃ k : Nat, k ≤ n ∧ i = .int .i64 k ∧ Hid (∀ j (h1 : j < x.lats.length) (h2 : j < s.data.toList.length), j < k → okLat x.lats[j] s.data.toList[j] = true) ∧ Hid (Below W1.heap.size W1 wr)) (fun i _ => n - (intOf i).toNat)
    case atStart => exact ⟨0, Nat.zero_le _, rfl, (by intro j h1 h2 h3; omega), Below.refl _ _⟩
    case round =>
      obtain ⟨k, hk, rfl, hI, hB⟩ := hrel
      have q2 := (HX1.out.next hB.out (Nat.le_refl _)).k2
      rw [HN.out] at q2
      by_cases hlt : k < n
      · obtain ⟨bl, ol, hx, hae, hbs, d0, d1, d2⟩ := (HL.out.next hB.out).tri hlt
        rw [hae] at q2
        have hks : k < s.size := by omega
        have hkl : k < s.data.toList.length := by rw [Array.length_toList]; exact hks
        have HAL := Lib.hid (fun (h : okLat x.lats[k] s.data.toList[k] = false) => all_not hx hkl h)
        have HMO : Hid (okLat x.lats[k] s.data.toList[k] = true → ∀ j (h1 : j < x.lats.length) (h2 : j < s.data.toList.length), j < k + 1 → okLat x.lats[j] s.data.toList[j] = true) := by
          intro h j h1 h2 h3
          by_cases he : j = k
          · subst he; exact h
          · exact hI.out j h1 h2 (by omega)
        have HOK : Hid (okLat x.lats[k] s.data.toList[k] = !((x.lats[k].2.2 != x.lats[k].1) && ((x.lats[k].2.2 == 1) != (((s[k]).toNat : Int) == 49)))) := rfl
        generalize okLat x.lats[k] s.data.toList[k] = ok at *
        generalize x.lats[k] = t at *
        generalize hb1 : (t.2.2 != t.1) = b1 at *
        generalize hb2 : (t.2.2 == 1) = b2 at *
        generalize hb3 : (((s[k]).toNat : Int) == 49) = b3 at *
        clear hae
        cases b1 <;> cases b2 <;> cases b3
        all_goals go_wp2_with fail
        all_goals first
          | (go_roundw
             case rel => exact ⟨k + 1, by omega, by go_num, HMO.out (by rw [HOK.out]; rfl), hB⟩
             case measure => simp [intOf]; omega)
          | (go_ret
             have HVV : V = false := by rw [HVT.out]; exact HAL.out (by rw [HOK.out]; rfl)
             exact ⟨by rw [HVV]; rfl, HB1.out.trans (hB.out.mono HB1.out.size)⟩)
      · have HVV : Hid (V = true) := by
          show _ = _
          rw [HVT.out]
          exact all_to fun j h1 h2 => hI.out j h1 h2 (by have := HN.out; omega)
        have hks : ¬ k < s.size := by omega
        go_wp2_with fail
        go_ret
        exact ⟨by rw [HVV.out]; rfl, HB1.out.trans (hB.out.mono HB1.out.size)⟩
end Initial
end Go.Proofs.YtninglnchengeaaGreatDoor

/-
  Bits as texts: interlockref07's True, set, bit, Holds.
-/
namespace Go.Proofs.YtninglnchengeaaGreatDoor
open Go.RowKit Base
set_option linter.unusedVariables false
set_option linter.unusedSimpArgs false
namespace BadP
open Circuit

def byteB (b : Bool) : UInt8 := if b then 49 else 48
def bs (L : List Bool) : ByteArray := ⟨(L.map byteB).toArray⟩
theorem bs_list (L : List Bool) : (bs L).data.toList = L.map byteB := rfl
theorem bs_size (L : List Bool) : (bs L).size = L.length := by
  have e : (bs L).data.toList.length = (bs L).size := by rw [Array.length_toList]; rfl
  rw [← e, bs_list, List.length_map]
theorem ext_list {a b : ByteArray} (h : a.data.toList = b.data.toList) : a = b := by
  cases a; cases b
  congr 1
  exact Array.toList_inj.1 h
theorem app_list (a b : ByteArray) : (a ++ b).data.toList = a.data.toList ++ b.data.toList := by rw [ByteArray.data_append, Array.toList_append]
theorem bs_app (L M : List Bool) : bs (L ++ M) = bs L ++ bs M := ext_list (by rw [app_list, bs_list, bs_list, bs_list, List.map_append])
theorem bs_at (L : List Bool) {v : Nat} (h : v < (bs L).size) : (bs L)[v] = byteB (L.getD v false) := by
  have h2 : v < L.length := by rw [← bs_size]; exact h
  have e : (bs L)[v] = (bs L).data.toList[v]'(by rw [Array.length_toList]; exact h) := rfl
  rw [e]
  have : (bs L).data.toList[v]? = some (byteB (L.getD v false)) := by rw [bs_list, List.getElem?_map, List.getElem?_eq_getElem h2, List.getD_eq_getElem?_getD, List.getElem?_eq_getElem h2]; rfl
  exact (List.getElem?_eq_some_iff.1 this).2
theorem byte_one (b : Bool) : (((byteB b).toNat : Int) == 49) = b := by cases b <;> rfl
theorem bs_set (L : List Bool) {u : Nat} (hu : u < L.length) (b : Bool) : (bs L).extract 0 u ++ ⟨#[byteB b]⟩ ++ (bs L).extract (u + 1) (bs L).size = bs (L.set u b) := by
  refine ext_list ?_
  rw [app_list, app_list, bs_list, ByteArray.data_extract, ByteArray.data_extract, Array.toList_extract, Array.toList_extract, bs_list, bs_size]
  simp only [List.extract_eq_take_drop, Nat.sub_zero, List.drop_zero]
  rw [List.map_set, List.set_eq_take_append_cons_drop, if_pos (by rw [List.length_map]; exact hu)]
  simp only [List.append_assoc]
  congr 1
  rw [List.take_of_length_le (l := (List.map byteB L).drop (u + 1)) (by rw [List.length_drop, List.length_map]; omega)]
  rfl

theorem refNeg_any (a : Int) (h0 : 0 ≤ a) (h1 : a ≤ 9223372036854775807) (w : World) : Calls Tryz.prog 66 #[.int .i64 a] w fun e w' => e = .returned (.bool (neg a)) ∧ w' = w := by
  have HV : Hid (neg a = (a % 2 == 1)) := by show _ = _; unfold neg; rw [if_neg (by omega)]
  go_enter Tryz.func66, Tryz.ntmps66
  go_wp2
  all_goals
    go_ret
    exact ⟨ret_bool (by rw [HV.out]; first | done | (have hz : a = 0 := (by omega); subst hz; decide)), rfl⟩

theorem refTrue_any (w : World) (L : List Bool) (l : Int) (h0 : 0 ≤ l) (h1 : l ≤ 9223372036854775807) (hL : L.length ≤ 9223372036854775807) :
    Calls Tryz.prog 39 #[.string (bs L), .int .i64 l] w fun e w' => e = .returned (.bool (litV L l)) ∧ w' = w := by
  have HVA := RefV.refVar_any l h0 h1 w
  have HN := Lib.hid (refNeg_any l h0 h1 w)
  obtain ⟨v, hv⟩ : ∃ v : Nat, var l = (v : Int) := ⟨(var l).toNat, by have := var_nn l; omega⟩
  rw [hv] at HVA
  have HV := Lib.hid HVA
  have HLV : Hid (litV L l = (L.getD v false != neg l)) := by show _ = _; unfold litV valV; rw [hv]; rfl
  have HSZ : Hid ((bs L).size = L.length) := bs_size L
  have HBY : Hid (∀ h : v < (bs L).size, ((((bs L)[v]'h).toNat : Int) == 49) = L.getD v false) := fun h => by rw [bs_at L h, byte_one]
  have HNO : Hid (¬ v < (bs L).size → L.getD v false = false) := fun h => by
    rw [bs_size] at h
    rw [List.getD_eq_getElem?_getD, List.getElem?_eq_none (by omega)]; rfl
  have hsz : (bs L).size ≤ 9223372036854775807 := by rw [bs_size]; exact hL
  generalize bs L = s at *
  generalize neg l = ng at *
  generalize L.getD v false = q at *
  generalize litV L l = r at *
  clear HVA hv h0 h1 hL HSZ
  go_enter Tryz.func39, Tryz.ntmps39
  go_wp2_with fail
  with_reducible refine HV.out.mono ?_
  rintro e w1 ⟨rfl, rfl⟩
  by_cases hlt : v < s.size
  · have hb := HBY.out hlt
    have hd : decide ((v : Int) < (s.size : Int)) = true := decide_eq_true (by omega)
    generalize hq : (((s[v]).toNat : Int) == 49) = q2 at *
    go_wp2_with fail
    with_reducible refine HN.out.mono ?_
    rintro e w2 ⟨rfl, rfl⟩
    go_wp2_with fail
    go_ret
    exact ⟨ret_bool (by rw [HLV.out, ← hb]; cases q2 <;> cases ng <;> rfl), rfl⟩
  · have hb := HNO.out hlt
    have hd : decide ((v : Int) < (s.size : Int)) = false := decide_eq_false (by omega)
    go_wp2_with fail
    with_reducible refine HN.out.mono ?_
    rintro e w2 ⟨rfl, rfl⟩
    go_wp2_with fail
    go_ret
    exact ⟨ret_bool (by rw [HLV.out, hb]; cases ng <;> rfl), rfl⟩

theorem bit_any (w : World) (b : Bool) : Calls Tryz.prog 67 #[.bool b] w fun e w' => e = .returned (.string (bs [b])) ∧ w' = w := by
  cases b
  all_goals
    go_enter Tryz.func67, Tryz.ntmps67
    go_wp2
    go_ret
    exact ⟨rfl, rfl⟩

set_option maxHeartbeats 2000000 in
theorem set_any (w : World) (s : ByteArray) (u : Nat) (c : UInt8) (hu : u < s.size) (hs : s.size ≤ 1000000) :
    Calls Tryz.prog 63 #[.string s, .int .i64 u, .int .u8 (c.toNat : Int)] w fun e w' => e = .returned (.string (s.extract 0 u ++ ⟨#[c]⟩ ++ s.extract (u + 1) s.size)) ∧ Below w.heap.size w w' := by
  have hu1 : (u : Int) + 1 ≤ (s.size : Int) := by omega
  have hu2 : (u : Int) ≤ (s.size : Int) := by omega
  have hwr : IntKind.i64.wrap ((u : Int) + 1) = (u : Int) + 1 := IntWalk.i64_in _ (by omega)
  have hu0' : (0 : Int) ≤ (u : Int) + 1 := by omega
  have hu00 : (0 : Int) ≤ (u : Int) := by omega
  have hl1 : ¬ 9223372036854775807 < u + 1 := by omega
  have hl2 : ¬ 9223372036854775807 < u + 1 + (s.size - (u + 1)) := by omega
  have e1 : ((u : Int) + 1).toNat = u + 1 := by omega
  have e2 : ((u : Int)).toNat = u := by omega
  have z1 : (s.extract 0 u).size = u := by rw [ByteArray.size_extract]; omega
  have z2 : (s.extract (u + 1) s.size).size = s.size - (u + 1) := by rw [ByteArray.size_extract]; omega
  go_enter Tryz.func63, Tryz.ntmps63
  go_wp2_with fail
  refine HeldAll.region (fun U : World => True) (by kernel_rfl) ?_
  obtain ⟨u0, hu0⟩ : ∃ U, w.drew = U := ⟨_, rfl⟩
  rw [hu0]
  have b0 : Below w.heap.size w u0 := by rw [← hu0]; exact (Below.refl _ _).drew
  (refine HeldAll.take (i := 0) (oi := _) (d := some 7) (v := ?_) rfl rfl (by kernel_rfl) (by kernel_rfl) (by kernel_rfl) (fun _ _ _ h => h) (Or.inl ⟨by rfl, ?_⟩) trivial ?_; rotate_left; (focus (intro w hSw; clear hSw; go_simp; (try with_reducible rfl); done)); (try simp only [Act.put, List.setIfInBounds_toArray, List.set_cons_zero, List.set_cons_succ]))
  (refine HeldAll.take (i := 1) (oi := _) (d := some 8) (v := ?_) rfl rfl (by kernel_rfl) (by kernel_rfl) (by kernel_rfl) (fun _ _ _ h => h) (Or.inl ⟨by rfl, ?_⟩) trivial ?_; rotate_left; (focus (intro w hSw; clear hSw; go_simp; (try with_reducible rfl); done)); (try simp only [Act.put, List.setIfInBounds_toArray, List.set_cons_zero, List.set_cons_succ]))
  (refine HeldAll.take (i := 2) (oi := _) (d := some 9) (v := ?_) rfl rfl (by kernel_rfl) (by kernel_rfl) (by kernel_rfl) (fun _ _ _ h => h) (Or.inl ⟨by rfl, ?_⟩) trivial ?_; rotate_left; (focus (intro w hSw; clear hSw; go_simp; (try with_reducible rfl); done)); (try simp only [Act.put, List.setIfInBounds_toArray, List.set_cons_zero, List.set_cons_succ]))
  (refine HeldAll.take (i := 3) (oi := _) (d := some 10) (v := ?_) rfl rfl (by kernel_rfl) (by kernel_rfl) (by kernel_rfl) (fun _ _ _ h => h) (Or.inl ⟨by rfl, ?_⟩) trivial ?_; rotate_left; (focus (intro w hSw; clear hSw; go_simp; (try with_reducible rfl); done)); (try simp only [Act.put, List.setIfInBounds_toArray, List.set_cons_zero, List.set_cons_succ]))
  (refine HeldAll.take (i := 7) (oi := _) (d := some 14) (v := ?_) rfl rfl (by kernel_rfl) (by kernel_rfl) (by kernel_rfl) (fun _ _ _ h => h) (Or.inl ⟨by rfl, ?_⟩) trivial ?_; rotate_left; (focus (intro w hSw; clear hSw; go_simp; (try with_reducible rfl); done)); (try simp only [Act.put, List.setIfInBounds_toArray, List.set_cons_zero, List.set_cons_succ]))
  (refine HeldAll.take (i := 8) (oi := _) (d := some 15) (v := ?_) rfl rfl (by kernel_rfl) (by kernel_rfl) (by kernel_rfl) (fun _ _ _ h => h) (Or.inl ⟨by rfl, ?_⟩) trivial ?_; rotate_left; (focus (intro w hSw; clear hSw; go_simp; (try with_reducible rfl); done)); (try simp only [Act.put, List.setIfInBounds_toArray, List.set_cons_zero, List.set_cons_succ]))
  (refine HeldAll.take (i := 9) (oi := _) (d := some 16) (v := ?_) rfl rfl (by kernel_rfl) (by kernel_rfl) (by kernel_rfl) (fun _ _ _ h => h) (Or.inl ⟨by rfl, ?_⟩) trivial ?_; rotate_left; (focus (intro w hSw; clear hSw; go_simp; (try with_reducible rfl); done)); (try simp only [Act.put, List.setIfInBounds_toArray, List.set_cons_zero, List.set_cons_succ]))
  (refine HeldAll.take (i := 10) (oi := _) (d := some 17) (v := ?_) rfl rfl (by kernel_rfl) (by kernel_rfl) (by kernel_rfl) (fun _ _ _ h => h) (Or.inl ⟨by rfl, ?_⟩) trivial ?_; rotate_left; (focus (intro w hSw; clear hSw; go_simp; (try with_reducible rfl); done)); (try simp only [Act.put, List.setIfInBounds_toArray, List.set_cons_zero, List.set_cons_succ]))
  obtain ⟨u1, hu1⟩ : ∃ V, u0.alloc (.cells #[.int .u8 (c.toNat : Int)] 5) = V := ⟨_, rfl⟩
  have b1 : Below w.heap.size w u1 := by rw [← hu1]; exact b0.alloc b0.size _
  have hcv : (convert 49 9 (.slice (some ⟨u0.heap.size, 0, none⟩) 1 1)).run Tryz.prog u1 = .ok (.string ⟨#[c]⟩) u1 := by
    have h := run_convert_bytes_back (P := Tryz.prog) u1 49 9 5 ⟨u0.heap.size, 0, none⟩ 1 [c] Tryz.underlying49 Tryz.underlying5 Tryz.underlying9 (fun j hj => by
      have hj0 : j = 0 := by simp at hj; exact hj
      subst hj0
      rw [← hu1, Addr.add_lit]
      simp [go_sem])
    exact h
  refine HeldAll.one (i := 4) (by kernel_rfl) ?_
  refine HeldAll.opVal (i := 4) (oi := _) (d := some 11) (v := .slice (some ⟨u0.heap.size, 0, none⟩) 1 1) (w2 := u1) rfl rfl (by rfl) (by rw [← hu1]; go_simp; done) trivial ?_
  (try simp only [Act.put, List.setIfInBounds_toArray, List.set_cons_zero, List.set_cons_succ])
  refine HeldAll.one (i := 5) (by kernel_rfl) ?_
  refine HeldAll.opVal (i := 5) (oi := _) (d := some 12) (v := .string ⟨#[c]⟩) (w2 := u1) rfl rfl (by rfl) (by simp only [execOp, Act.eval]; go_simp; done) trivial ?_
  (try simp only [Act.put, List.setIfInBounds_toArray, List.set_cons_zero, List.set_cons_succ])
  (refine HeldAll.take (i := 6) (oi := _) (d := some 13) (v := ?_) rfl rfl (by kernel_rfl) (by kernel_rfl) (by kernel_rfl) (fun _ _ _ h => h) (Or.inl ⟨by rfl, ?_⟩) trivial ?_; rotate_left; (focus (intro w hSw; clear hSw; go_simp; (try with_reducible rfl); done)); (try simp only [Act.put, List.setIfInBounds_toArray, List.set_cons_zero, List.set_cons_succ]))
  (refine HeldAll.take (i := 11) (oi := _) (d := some 18) (v := ?_) rfl rfl (by kernel_rfl) (by kernel_rfl) (by kernel_rfl) (fun _ _ _ h => h) (Or.inl ⟨by rfl, ?_⟩) trivial ?_; rotate_left; (focus (intro w hSw; clear hSw; go_simp; (try with_reducible rfl); done)); (try simp only [Act.put, List.setIfInBounds_toArray, List.set_cons_zero, List.set_cons_succ]))
  (refine HeldAll.take (i := 12) (oi := _) (d := some 6) (v := ?_) rfl rfl (by kernel_rfl) (by kernel_rfl) (by kernel_rfl) (fun _ _ _ h => h) (Or.inl ⟨by rfl, ?_⟩) trivial ?_; rotate_left; (focus (intro w hSw; clear hSw; go_simp; (try with_reducible rfl); done)); (try simp only [Act.put, List.setIfInBounds_toArray, List.set_cons_zero, List.set_cons_succ]))
  refine HeldAll.done (by kernel_rfl) ?_ _
  (try go_wp2_with fail)
  go_ret
  exact ⟨rfl, b1⟩
theorem set_bs (w : World) (L : List Bool) (u : Int) (b : Bool) (h0 : 0 ≤ u) (hu : u.toNat < L.length) (hs : L.length ≤ 1000000) (c : Int) (hc : c = ((byteB b).toNat : Int)) :
    Calls Tryz.prog 63 #[.string (bs L), .int .i64 u, .int .u8 c] w fun e w' => e = .returned (.string (bs (setB L u b))) ∧ Below w.heap.size w w' := by
  subst hc
  have h := set_any w (bs L) u.toNat (byteB b) (by rw [bs_size]; exact hu) (by rw [bs_size]; exact hs)
  rw [bs_set L hu b] at h
  have e : ((u.toNat : Nat) : Int) = u := by omega
  rw [e] at h
  exact h

set_option maxHeartbeats 2000000 in
theorem holds_any (w : World) (L : List Bool) (hL : L.length ≤ 9223372036854775807) (a : Option Addr) (n c : Nat) (cl : List Int) (hsl : Sl w a n c (ints cl)) (h64 : ∀ y ∈ cl, 0 ≤ y ∧ y ≤ 9223372036854775807) :
    Calls Tryz.prog 64 #[.string (bs L), .slice a n c] w fun e w' => e = .returned (.bool (cl.any (litV L))) ∧ w' = w := by
  have HT : Hid (∀ (k : Nat) (h : k < cl.length), Calls Tryz.prog 39 #[.string (bs L), .int .i64 cl[k]] w fun e w' => e = .returned (.bool (litV L cl[k])) ∧ w' = w) := fun k h =>
    refTrue_any w L cl[k] (h64 _ (List.getElem_mem h)).1 (h64 _ (List.getElem_mem h)).2 hL
  have HLN : Hid (cl.length = n) := by have := hsl.len; rwa [ints_len] at this
  have hcap := hsl.cap
  have hbig := hsl.big
  have HS := Lib.hid hsl
  clear hsl h64 hL
  generalize bs L = s at *
  go_enter Tryz.func64, Tryz.ntmps64
  go_wp2_with fail
  go_loopw [5] (fun i wr => ∃ k : Nat, k ≤ n ∧ i = .int .i64 k ∧ Hid ((cl.take k).any (litV L) = false) ∧ wr = w) (fun i _ => n - (intOf i).toNat)
  case atStart => exact ⟨0, Nat.zero_le _, rfl, rfl, rfl⟩
  case round =>
    obtain ⟨k, hk, rfl, hF, rfl⟩ := hrel
    by_cases hlt : k < n
    · obtain ⟨b, o, hx, rfl, hbs, d0⟩ := HS.out.int hlt
      have HTK := Lib.hid (HT.out k hx)
      have HYE : Hid (litV L cl[k] = true → cl.any (litV L) = true) := fun h => List.any_eq_true.2 ⟨_, List.getElem_mem hx, h⟩
      have HNO : Hid (litV L cl[k] = false → (cl.take (k + 1)).any (litV L) = false) := fun h => by rw [List.take_succ_eq_append_getElem hx, List.any_append, hF.out]; simp [h]
      generalize cl[k] = y at *
      generalize litV L y = q at *
      go_wp2_with fail
      with_reducible refine HTK.out.mono ?_
      rintro e wx ⟨rfl, rfl⟩
      cases q
      · go_wp2_with fail
        go_roundw
        case rel => exact ⟨k + 1, by omega, by go_num, HNO.out (by first | rfl | trivial), (by first | rfl | trivial)⟩
        case measure => simp [intOf]; omega
      · go_wp2_with fail
        go_ret
        exact ⟨by rw [HYE.out (by first | rfl | trivial)]; rfl, rfl⟩
    · have HE : Hid (cl.any (litV L) = false) := by
        show _ = _
        have h := hF.out
        rwa [List.take_of_length_le (by have := HLN.out; omega)] at h
      go_wp2_with fail
      go_ret
      exact ⟨by rw [HE.out]; rfl, rfl⟩
end BadP
end Go.Proofs.YtninglnchengeaaGreatDoor

/-
  Plain: what a path of a circuit is told to be.
-/
namespace Go.Proofs.YtninglnchengeaaGreatDoor
open Go.RowKit Base
set_option linter.unusedVariables false
set_option linter.unusedSimpArgs false
namespace Spr
open Circuit StrashP Coi BadP

/-- What is told of a path, from a state on. -/
def loopP (x : Circ) (A : List (List Int)) (b : Int) : List Bool → List (List Bool) → Int
  | _, [] => 0
  | s, i :: r => if (allow x A (vals x s i) && (!r.isEmpty || litV (vals x s i) b)) = true then loopP x A b (next x s i) r else 51
def pathE (x : Circ) (A : List (List Int)) (b : Int) (s : List Bool) (inp : List (List Bool)) : Int := if inp = [] then 8 else loopP x A b s inp

end Spr
end Go.Proofs.YtninglnchengeaaGreatDoor

/-
  A path of a circuit and of what is left of it: plain.
-/
namespace Go.Proofs.YtninglnchengeaaGreatDoor
open Go.RowKit Base
set_option linter.unusedVariables false
set_option linter.unusedSimpArgs false
namespace Spr
open Circuit StrashP Coi BadP

theorem loop_red {x : Circ} {l : List Int} {bl : Int} {A : List (List Int)} (h : CheckOk x) (hA : ∀ m ∈ A.flatten, m ∈ l) (hv : ∀ m ∈ x.invs, m ∈ l) (hb : bl ∈ l) :
    ∀ (inp : List (List Bool)) (s : List Bool), s.length = x.lats.length → (∀ i ∈ inp, i.length = x.ins.length) →
      loopP (reduced x l bl) A bl (proj (cL x l) x.lats s) (inp.map (proj (cnt x l) x.ins)) = loopP x A bl s inp
  | [], s, _, _ => rfl
  | i :: r, s, hs, hi => by
    have h1 := hi i List.mem_cons_self
    have ih := loop_red h hA hv hb r (next x s i) (next_len _ _ _) (fun j hj => hi j (List.mem_cons_of_mem _ hj))
    have e1 := allow_red (l := l) (bl := bl) h hA hv hs h1
    have e2 := next_red (l := l) (bl := bl) h hs h1
    have e3 : litV (vals x s i) bl = litV (vals (reduced x l bl) (proj (cL x l) x.lats s) (proj (cnt x l) x.ins i)) bl := ag_lit (vals_ag h hs h1) (.lit hb)
    show (if (allow (reduced x l bl) A (vals (reduced x l bl) (proj (cL x l) x.lats s) (proj (cnt x l) x.ins i)) && (!(r.map (proj (cnt x l) x.ins)).isEmpty || litV (vals (reduced x l bl) (proj (cL x l) x.lats s) (proj (cnt x l) x.ins i)) bl)) = true then
      loopP (reduced x l bl) A bl (next (reduced x l bl) (proj (cL x l) x.lats s) (proj (cnt x l) x.ins i)) (r.map (proj (cnt x l) x.ins)) else 51) = _
    rw [e1, ← e3, e2, ih, List.isEmpty_map]
    rfl
theorem path_red {x : Circ} {l : List Int} {bl : Int} {A : List (List Int)} (h : CheckOk x) (hA : ∀ m ∈ A.flatten, m ∈ l) (hv : ∀ m ∈ x.invs, m ∈ l) (hb : bl ∈ l) (inp : List (List Bool)) (s : List Bool) (hs : s.length = x.lats.length) (hi : ∀ i ∈ inp, i.length = x.ins.length) :
    pathE (reduced x l bl) A bl (proj (cL x l) x.lats s) (inp.map (proj (cnt x l) x.ins)) = pathE x A bl s inp := by
  unfold pathE
  rw [loop_red h hA hv hb inp s hs hi]
  cases inp <;> rfl

theorem nodup_at {α : Type} {key : α → Int} {T : List α} (h : (T.map key).Nodup) {t u : α} (ht : t ∈ T) (hu : u ∈ T) (e : key t = key u) : t = u := by
  obtain ⟨i, hi, rfl⟩ := List.mem_iff_getElem.1 ht
  obtain ⟨j, hj, rfl⟩ := List.mem_iff_getElem.1 hu
  have h1 : i < (T.map key).length := by rw [List.length_map]; exact hi
  have : i = j := (List.getElem?_inj h1 h).1 (by rw [List.getElem?_map, List.getElem?_map, List.getElem?_eq_getElem hi, List.getElem?_eq_getElem hj]; simp [e])
  subst this
  rfl
theorem nodup_filter {α : Type} {key : α → Int} {T : List α} (c : α → Bool) (h : (T.map key).Nodup) : ((T.filter c).map key).Nodup :=
  h.sublist ((List.filter_sublist (p := c)).map key)
theorem proj_among {α : Type} (key : α → Int) (c : α → Bool) (T : List α) (hnd : (T.map key).Nodup) (S s' : List Bool) (hS : S.length = T.length) (hs' : s'.length = (T.filter c).length)
    (h : ∀ i (hi : i < T.length), c T[i] = true → ∃ j : Nat, ((T.filter c).map key)[j]? = some (key T[i]) ∧ S[i]? = s'[j]?) : proj c T S = s' := by
  have hl := proj_len c T S hS.symm
  have hz := zip_proj c T S hS.symm
  refine List.ext_getElem (by rw [hl, hs']) fun k h1 h2 => ?_
  have h3 : k < (T.filter c).length := by omega
  have hm : ((T.filter c)[k], (proj c T S)[k]) ∈ (T.zip S).filter (fun p => c p.1) := by
    rw [← hz]
    refine List.mem_iff_getElem.2 ⟨k, by rw [List.length_zip]; omega, by rw [List.getElem_zip]⟩
  obtain ⟨hm1, hm2⟩ := List.mem_filter.1 hm
  obtain ⟨i, hi, he⟩ := List.mem_iff_getElem.1 hm1
  rw [List.length_zip] at hi
  have hiT : i < T.length := by omega
  rw [List.getElem_zip] at he
  injection he with he1 he2
  have hc : c T[i] = true := by rw [he1]; exact hm2
  obtain ⟨j, hj1, hj2⟩ := h i hiT hc
  have hk : k < ((T.filter c).map key).length := by rw [List.length_map]; exact h3
  have hjk : k = j := (List.getElem?_inj hk (nodup_filter c hnd)).1 (by
    rw [hj1, List.getElem?_map, List.getElem?_eq_getElem h3, ← he1]; rfl)
  subst hjk
  rw [List.getElem?_eq_getElem (by omega), List.getElem?_eq_getElem h2] at hj2
  injection hj2 with hj2
  rw [← he2, hj2]
theorem byte_eq (b : Bool) : (byteB b == 49) = b := by cases b <;> rfl
theorem among_bits {α : Type} (key : α → Int) (c d : α → Bool) (T : List α) (hnd : (T.map key).Nodup) (s' : List Bool) (hs' : s'.length = (T.filter c).length) (R : List UInt8)
    (hA : Among (T.map key) ((T.filter c).map key) (s'.map byteB) (T.map fun t => byteB (d t)) R T.length) :
    ∃ S : List Bool, R = S.map byteB ∧ S.length = T.length ∧ proj c T S = s' ∧ ∀ p ∈ T.zip S, p ∈ (T.filter c).zip s' ∨ p.2 = d p.1 := by
  have hl : R.length = T.length := by rw [hA.len, List.length_map]
  have key1 : ∀ i (hi : i < T.length), (c T[i] = true ∧ ∃ (j : Nat) (b : Bool), ((T.filter c).map key)[j]? = some (key T[i]) ∧ R[i]? = some (byteB b) ∧ s'[j]? = some b) ∨ (c T[i] = false ∧ R[i]? = some (byteB (d T[i]))) := by
    intro i hi
    rcases hA.at' i (key T[i]) hi (by rw [List.getElem?_map, List.getElem?_eq_getElem hi]; rfl) with ⟨j, h1, h2⟩ | ⟨h1, h2⟩
    · refine Or.inl ⟨?_, ?_⟩
      · obtain ⟨t, ht, he⟩ := List.mem_map.1 (List.mem_of_getElem? h1)
        obtain ⟨ht1, ht2⟩ := List.mem_filter.1 ht
        rw [nodup_at hnd (List.getElem_mem hi) ht1 he.symm]
        exact ht2
      · have hj : j < ((T.filter c).map key).length := (List.getElem?_eq_some_iff.1 h1).1
        rw [List.length_map] at hj
        refine ⟨j, s'[j]'(by omega), h1, ?_, List.getElem?_eq_getElem (by omega)⟩
        rw [h2, List.getElem?_map, List.getElem?_eq_getElem (by omega)]
        rfl
    · refine Or.inr ⟨?_, ?_⟩
      · cases hc : c T[i] with
        | false => rfl
        | true => exact absurd (List.mem_map.2 ⟨T[i], List.mem_filter.2 ⟨List.getElem_mem hi, hc⟩, rfl⟩) h1
      · rw [h2, List.getElem?_map, List.getElem?_eq_getElem hi]; rfl
  have hS : (R.map fun u => u == 49).length = T.length := by rw [List.length_map, hl]
  have hp : proj c T (R.map fun u => u == 49) = s' := proj_among key c T hnd _ s' hS hs' fun i hi hc => by
    rcases key1 i hi with ⟨_, j, b, h1, h2, h3⟩ | ⟨h1, _⟩
    · exact ⟨j, h1, by rw [List.getElem?_map, h2, h3]; simp [byte_eq]⟩
    · rw [hc] at h1; cases h1
  refine ⟨R.map fun u => u == 49, ?_, hS, hp, ?_⟩
  · refine List.ext_getElem? fun i => ?_
    rw [List.getElem?_map, List.getElem?_map]
    by_cases hi : i < T.length
    · rcases key1 i hi with ⟨_, j, b, _, h2, _⟩ | ⟨_, h2⟩
      · rw [h2]; simp [byte_eq]
      · rw [h2]; simp [byte_eq]
    · rw [List.getElem?_eq_none (by omega)]; rfl
  · intro p hpz
    obtain ⟨i, hi, he⟩ := List.mem_iff_getElem.1 hpz
    rw [List.length_zip] at hi
    have hiT : i < T.length := by omega
    rw [List.getElem_zip] at he
    rcases key1 i hiT with ⟨hc, _⟩ | ⟨_, h2⟩
    · left
      rw [← hp, zip_proj c T _ hS.symm]
      refine List.mem_filter.2 ⟨hpz, ?_⟩
      rw [← he]
      exact hc
    · right
      rw [← he]
      show (R.map fun u => u == 49)[i] = d T[i]
      have hiR : i < R.length := by omega
      rw [List.getElem?_eq_getElem hiR] at h2
      injection h2 with h2
      rw [List.getElem_map, h2, byte_eq]

theorem own_nodup {x : Circ} (h : CheckOk x) : x.ins.Nodup ∧ (x.lats.map (·.1)).Nodup := by
  have h1 := (ownOk_iff.1 h.2.1.1).2
  have h2 : (ownL x).Nodup := (List.pairwise_map.1 h1).imp fun hn e => hn (by rw [e])
  unfold ownL at h2
  have h3 := (List.nodup_append.1 h2).1
  exact ⟨(List.nodup_append.1 h3).1, (List.nodup_append.1 h3).2.1⟩
theorem firstB_eq (t : Tri) : firstB t = byteB (t.2.2 == 1) := by
  unfold firstB byteB
  by_cases h : t.2.2 = 1 <;> simp [h]
/-- The state of a witness that is spread. -/
theorem state_spread {x : Circ} {l : List Int} {bl : Int} (h : CheckOk x) (s' : List Bool) (hi : initL (reduced x l bl) s') (R : List UInt8)
    (hA : Among (x.lats.map (·.1)) ((reduced x l bl).lats.map (·.1)) (s'.map byteB) (firstL x) R x.lats.length) :
    ∃ S : List Bool, R = S.map byteB ∧ initL x S ∧ proj (cL x l) x.lats S = s' := by
  have e : firstL x = x.lats.map fun t => byteB (t.2.2 == 1) := List.map_congr_left fun t _ => firstB_eq t
  rw [e] at hA
  obtain ⟨S, h1, h2, h3, h4⟩ := among_bits (·.1) (cL x l) (fun t => t.2.2 == 1) x.lats (own_nodup h).2 s' hi.1 R hA
  refine ⟨S, h1, ⟨h2, fun p hp => ?_⟩, h3⟩
  rcases h4 p hp with g | g
  · exact hi.2 p g
  · rw [g]; exact okB_d _
theorem input_spread {x : Circ} {l : List Int} {bl : Int} (h : CheckOk x) (i' : List Bool) (hi : i'.length = (reduced x l bl).ins.length) (R : List UInt8)
    (hA : Among x.ins (reduced x l bl).ins (i'.map byteB) (List.replicate x.ins.length 48) R x.ins.length) :
    ∃ i : List Bool, R = i.map byteB ∧ i.length = x.ins.length ∧ proj (cnt x l) x.ins i = i' := by
  have e : List.replicate x.ins.length (48 : UInt8) = x.ins.map fun _ => byteB false := by rw [List.map_const']; rfl
  rw [e] at hA
  have e2 : x.ins.map (fun t => t) = x.ins := List.map_id' _
  obtain ⟨S, h1, h2, h3, _⟩ := among_bits (fun t : Int => t) (cnt x l) (fun _ => false) x.ins (by rw [e2]; exact (own_nodup h).1) i' hi R (by rw [e2]; have := List.map_id' ((x.ins).filter (cnt x l)); rw [this]; exact hA)
  exact ⟨S, h1, h2, h3⟩
end Spr
end Go.Proofs.YtninglnchengeaaGreatDoor

/-
  A circuit's literals, where it may be.
-/
namespace Go.Proofs.YtninglnchengeaaGreatDoor
open Go.RowKit Base
set_option linter.unusedVariables false
set_option linter.unusedSimpArgs false
namespace Coi
open Circuit

theorem lat_in {x : Circ} (hok : CheckOk x) {t : Tri} (ht : t ∈ x.lats) : 0 ≤ t.1 ∧ t.1 ≤ 9223372036854775807 := by
  have h1 := ((StrashP.ownOk_iff.1 hok.2.1.1).1 t.1 (by unfold ownL; exact List.mem_append_left _ (List.mem_append_right _ (List.mem_map.2 ⟨t, ht, rfl⟩))))
  have h2 := hok.1.2.1
  have h3 := h1.2.2
  have h4 := h1.1
  unfold var at h3
  omega
theorem lits_in {x : Circ} (hok : CheckOk x) (hw : WfC x) : (∀ y ∈ x.bads, 0 ≤ y ∧ y ≤ 9223372036854775807) ∧ (∀ y ∈ x.invs, 0 ≤ y ∧ y ≤ 9223372036854775807) ∧ (∀ t ∈ x.lats, 0 ≤ t.2.1 ∧ t.2.1 ≤ 9223372036854775807) := by
  obtain ⟨_, _, _, _, _, hl, _, _, _, _, hb, hi⟩ := (check_iff x).1 hok
  exact ⟨fun y hy => ⟨(hb.1 y hy).1, (hw.bads y hy).2⟩, fun y hy => ⟨(hi.1 y hy).1, (hw.invs y hy).2⟩, fun t ht => ⟨(hl t ht).2.1, (hw.lats t ht).2.1.2⟩⟩

end Coi
end Go.Proofs.YtninglnchengeaaGreatDoor

/-
  interlockref07's Allowed, Values, Next.
-/
namespace Go.Proofs.YtninglnchengeaaGreatDoor
open Go.RowKit Base
set_option linter.unusedVariables false
set_option linter.unusedSimpArgs false
namespace BadP
open Circuit Coi

set_option maxHeartbeats 4000000 in
theorem allowed_any (w : World) (x : Circ) (p : At) (hin : InCirc w x p) (L : List Bool) (hL : L.length ≤ 9223372036854775807) (hv64 : ∀ y ∈ x.invs, 0 ≤ y ∧ y ≤ 9223372036854775807) (aA : Option Addr) (n cA : Nat) (vs : List Value) (A : List (List Int)) (hA : Sl2 w aA n cA vs A) (hA64 : ∀ y ∈ A.flatten, 0 ≤ y ∧ y ≤ 9223372036854775807) :
    Calls Tryz.prog 38 #[.agg (cells x p), .slice aA n cA, .string (bs L)] w fun e w' => e = .returned (.bool (allow x A L)) ∧ Below w.heap.size w w' := by
  obtain ⟨W1, hW1⟩ : ∃ U, w.alloc (.cells (cells x p) 27) = U := ⟨_, rfl⟩
  obtain ⟨hb1, hx1⟩ := cbox_new w x p W1 hW1
  have HB1 := Lib.hid hb1
  have HV := Lib.hid (hin.next hb1).invs
  have HA := Lib.hid (hA.next hb1)
  have HT : Hid (∀ y, y ∈ x.invs → Calls Tryz.prog 39 #[.string (bs L), .int .i64 y] W1 fun e w' => e = .returned (.bool (litV L y)) ∧ w' = W1) := fun y h => refTrue_any W1 L y (hv64 y h).1 (hv64 y h).2 hL
  have HH : Hid (∀ (k : Nat) (h : k < A.length) (a : Option Addr) (m c : Nat), Sl W1 a m c (ints A[k]) → Calls Tryz.prog 64 #[.string (bs L), .slice a m c] W1 fun e w' => e = .returned (.bool (A[k].any (litV L))) ∧ w' = W1) := fun k h a m c hs =>
    holds_any W1 L hL a m c A[k] hs (fun y hy => hA64 y (List.mem_flatten.2 ⟨A[k], List.getElem_mem h, hy⟩))
  have HX := Lib.hid hx1
  have hcv := hin.invs.cap
  have hgv := hin.invs.big
  have hca := hA.sl.cap
  have hga := hA.sl.big
  have HAL := Lib.hid hA.len
  obtain ⟨a1, c1, a2, c2, a3, c3, a4, c4, a5, c5, a6, c6, a7, c7⟩ := p
  simp only [cells] at *
  have HOK : Hid (allow x A L = (x.invs.all (litV L) && A.all fun c => c.any (litV L))) := rfl
  generalize bs L = s at *
  clear hin hA hA64 hv64 hL hb1 hx1
  go_enter Tryz.func38, Tryz.ntmps38
  go_wp2_with fail
  go_loopw [7] (fun i wr => ∃ k : Nat, k ≤ x.invs.length ∧ i = .int .i64 k ∧ Hid ((x.invs.take k).all (litV L) = true) ∧ wr = W1) (fun i _ => x.invs.length - (intOf i).toNat)
  case atStart => exact ⟨0, Nat.zero_le _, rfl, rfl, rfl⟩
  case round =>
    obtain ⟨k, hk, rfl, hF, rfl⟩ := hrel
    have m5 := HX.out.k5
    try simp only at m5 hcv hgv
    by_cases hlt : k < x.invs.length
    · obtain ⟨b, o, hx, hae, hbs, d0⟩ := HV.out.int hlt
      try simp only at hae
      subst hae
      have HTK := Lib.hid (HT.out _ (List.getElem_mem hx))
      have HNO : Hid (litV L x.invs[k] = false → allow x A L = false) := fun h => by
        show (_ && _) = false
        rw [Bool.and_eq_false_iff]
        left
        rw [List.all_eq_false]
        exact ⟨_, List.getElem_mem hx, by rw [h]; decide⟩
      have HYE : Hid (litV L x.invs[k] = true → (x.invs.take (k + 1)).all (litV L) = true) := fun h => by rw [List.take_succ_eq_append_getElem hx, List.all_append, hF.out]; simp [h]
      generalize x.invs[k] = y at *
      generalize litV L y = q at *
      cases q
      · have HN2 : Hid (allow x A L = false) := HNO.out rfl
        clear HNO HYE
        go_wp2_with fail
        with_reducible refine HTK.out.mono ?_
        rintro e wx ⟨rfl, rfl⟩
        go_wp2_with fail
        go_ret
        exact ⟨by rw [HN2.out]; rfl, HB1.out⟩
      · have HY2 : Hid ((x.invs.take (k + 1)).all (litV L) = true) := HYE.out rfl
        clear HNO HYE
        go_wp2_with fail
        with_reducible refine HTK.out.mono ?_
        rintro e wx ⟨rfl, rfl⟩
        go_wp2_with fail
        go_roundw
        case rel => exact ⟨k + 1, by omega, by go_num, HY2.out, by first | rfl | trivial⟩
        case measure => simp [intOf]; omega
    · have HVA : Hid (x.invs.all (litV L) = true) := by
        show _ = _
        have h := hF.out
        rwa [List.take_of_length_le (by omega)] at h
      go_wp2_with fail
      go_loopw [8] (fun i wq => ∃ k : Nat, k ≤ n ∧ i = .int .i64 k ∧ Hid ((A.take k).all (fun c => c.any (litV L)) = true) ∧ wq = wr) (fun i _ => n - (intOf i).toNat)
      case atStart => exact ⟨0, Nat.zero_le _, rfl, rfl, rfl⟩
      case round =>
        obtain ⟨j, hj, rfl, hG, rfl⟩ := hrel
        by_cases hjt : j < n
        · obtain ⟨b', o', a2', c2', hx2, rfl, hbs2, e0, hs0, hv⟩ := HA.out.at hjt
          have HTK := Lib.hid (HH.out j hx2 _ _ _ hs0)
          have HNO : Hid (A[j].any (litV L) = false → allow x A L = false) := fun h => by
            show (_ && _) = false
            rw [Bool.and_eq_false_iff]
            right
            rw [List.all_eq_false]
            exact ⟨_, List.getElem_mem hx2, by rw [h]; decide⟩
          have HYE : Hid (A[j].any (litV L) = true → (A.take (j + 1)).all (fun c => c.any (litV L)) = true) := fun h => by rw [List.take_succ_eq_append_getElem hx2, List.all_append, hG.out]; simp [h]
          clear hv
          generalize A[j].any (litV L) = q at *
          generalize A[j] = l at *
          cases q
          · have HN2 : Hid (allow x A L = false) := HNO.out rfl
            clear HNO HYE
            go_wp2_with fail
            with_reducible refine HTK.out.mono ?_
            rintro e wx ⟨rfl, rfl⟩
            go_wp2_with fail
            go_ret
            exact ⟨by rw [HN2.out]; rfl, HB1.out⟩
          · have HY2 : Hid ((A.take (j + 1)).all (fun c => c.any (litV L)) = true) := HYE.out rfl
            clear HNO HYE
            go_wp2_with fail
            with_reducible refine HTK.out.mono ?_
            rintro e wx ⟨rfl, rfl⟩
            go_wp2_with fail
            go_roundw
            case rel => exact ⟨j + 1, by omega, by go_num, HY2.out, by first | rfl | trivial⟩
            case measure => simp [intOf]; omega
        · have HE : Hid (allow x A L = true) := by
            show (_ && _) = true
            rw [HVA.out]
            have h := hG.out
            rw [List.take_of_length_le (by have := HAL.out; omega)] at h
            rw [h]; rfl
          go_wp2_with fail
          go_ret
          exact ⟨by rw [HE.out]; rfl, HB1.out⟩
end BadP
end Go.Proofs.YtninglnchengeaaGreatDoor
