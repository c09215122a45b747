/-
  preproc.rest, preproc.weaker: a clause without a literal; the first literal of a clause that another one takes away.
-/
import Derived.Test.YthhkngpbaflfiaaDelI
import Derived.Test.YthhkngpbaflfiaaCloneI
import Derived.Test.YthhkngpbaflfiaaCont
import Derived.Test.YthhkngpbaflfiaaSub
import Derived.Test.YthhkngpbaflfiaaPreP
import Derived.Test.YthhkngpbaflfiaaFormulaCheck
import Derived.Test.YthhkngpbaflfiaaMix
import Derived.Deep.RegionLaw
import Derived.BigQuiet
import Derived.Deep.QuietTactic
import Derived.Deep.RegionHeld3
namespace Go.Proofs.Ythhkngpbaflfiaa
open Go.RowKit Base
set_option linter.unusedVariables false
set_option linter.unusedSimpArgs false
namespace Pre

def wo (l : List Int) (x : Int) : List Int := l.filter fun y => !decide (y = x)

theorem eg_rest : SlfI.Enters 74 := enters_of Try.func74 (by kernel_rfl) rfl

set_option maxHeartbeats 400000 in
theorem rest1_any (x y : Int) (B : Nat) (w : World) (hc : w.cell? ⟨B, 0, none⟩ = some (.int .i64 x)) :
    Calls Try.prog 74 #[.int .i64 y, .pointer (some ⟨B, 0, none⟩)] w fun e w' => e = .returned (.bool (decide (y = x))) ∧ w = w' := by
  have HD : Hid (decide (y = x) = (y == x)) := by show _ = _; rw [Bool.eq_iff_iff]; simp
  go_enter Try.func74, Try.ntmps74
  go_wp2
  go_ret
  exact ⟨ret_bool HD.out.symm, rfl⟩

set_option maxHeartbeats 1000000 in
theorem rest_any (w : World) (a : Option Addr) (n c : Nat) (l : List Int) (hsl : Sl w a n c (ints l)) (hn : n * 8 ≤ 140737488355328) (x : Int) :
    Calls Try.prog 54 #[.slice a n c, .int .i64 x] w fun e w' => ∃ a' n' c', e = .returned (.slice a' n' c') ∧ w'.ownsRow w.heap.size 3 1 (.slice a' n' c') n' (ints (wo l x)) ∧ Below w.heap.size w w' := by
  have hal : Below w.heap.size w (w.alloc (.cells #[.int .i64 x] 3)) := (Below.refl _ _).alloc (Nat.le_refl _) _
  have hcell : (w.alloc (.cells #[.int .i64 x] 3)).cell? ⟨w.heap.size, 0, none⟩ = some (.int .i64 x) := by simp
  have hsz : (w.alloc (.cells #[.int .i64 x] 3)).heap.size = w.heap.size + 1 := by simp
  have HC := Lib.hid (CloneI.clone (w.alloc (.cells #[.int .i64 x] 3)) a n c (ints l) (hsl.next hal) (by intro u hu; obtain ⟨x, _, rfl⟩ := List.mem_map.1 hu; rfl) hn)
  have HAL := Lib.hid hal
  have HCELL := Lib.hid hcell
  have HSZ := Lib.hid hsz
  clear hal hcell hsl hn hsz
  go_enter Try.func54, Try.ntmps54
  go_wp2_with fail
  refine HC.out.mono ?_
  rintro e w1 ⟨a1, c1, rfl, hown1, hb1⟩
  have D := DelI.del_own w1 _ a1 n c1 l hown1 hb1.size 74 #[.pointer (some ⟨w.heap.size, 0, none⟩)] (fun y => decide (y = x)) eg_rest (fun W hW y => by
    refine rest1_any x y w.heap.size W ?_
    have hlt : w.heap.size < w1.heap.size := by have := hb1.size; rw [HSZ.out] at this; omega
    rw [hW.cell hlt (by
      intro he
      have := (hown1.lt w.heap.size he.symm).1
      rw [HSZ.out] at this
      omega) 0, hb1.cell (p := ⟨w.heap.size, 0, none⟩) (by show w.heap.size < _; rw [HSZ.out]; omega)]
    exact HCELL.out)
  have HD := Lib.hid D
  have HB1 := Lib.hid hb1
  clear D hown1 hb1
  go_wp2_with fail
  refine HD.out.mono ?_
  rintro e w2 ⟨n2, rfl, hown2, hb2⟩
  have HO := Lib.hid (own_mono hown2 (B' := w.heap.size) (by rw [HSZ.out]; omega))
  have HB := Lib.hid (HAL.out.trans ((HB1.out.trans hb2).mono (by rw [HSZ.out]; omega)))
  clear hown2 hb2
  go_wp2_with fail
  go_ret
  exact ⟨a1, n2, c1, rfl, HO.out, HB.out⟩

theorem find_more {α : Type} {l : List α} {p : α → Bool} {j : Nat} (hj : j < l.length) (h : (l.take j).find? p = none) : (l.take (j + 1)).find? p = if p l[j] = true then some l[j] else none := by
  rw [List.take_succ_eq_append_getElem hj, List.find?_append, h]
  cases hp : p l[j] <;> simp [hp]

theorem find_hit {α : Type} {l : List α} {p : α → Bool} {j : Nat} (hj : j < l.length) (h : (l.take j).find? p = none) (hp : p l[j] = true) : l.find? p = some l[j] := by
  have h1 := find_more hj h
  rw [if_pos hp] at h1
  conv => lhs; rw [← List.take_append_drop (j + 1) l]
  rw [List.find?_append, h1]
  rfl

theorem takes_more (L : List (List Int)) (i : Nat) (x : Int) (k : Nat) : (List.range (k + 1)).any (takes L i x) = ((List.range k).any (takes L i x) || takes L i x k) := by
  rw [List.range_succ, List.any_append]; simp

theorem taken_hit {L : List (List Int)} {i : Nat} {x : Int} {k : Nat} (hk : k < L.length) (h : takes L i x k = true) : taken L i x = true :=
  List.any_eq_true.2 ⟨k, List.mem_range.2 hk, h⟩

set_option maxRecDepth 4000 in
set_option maxHeartbeats 8000000 in
theorem weaker_any (w : World) (a : Option Addr) (n c : Nat) (vs : List Value) (L : List (List Int)) (hsl : Sl2 w a n c vs L) (hlen : ∀ l ∈ L, l.length * 8 ≤ 140737488355328) (i : Nat) (hi : i < n) :
    Calls Try.prog 52 #[.slice a n c, .int .i64 i] w fun e w' => e = .returned (.int .i64 (weaker L i)) ∧ Below w.heap.size w w' := by
  have hcap := hsl.sl.cap
  have hbig := hsl.sl.big
  obtain ⟨g, o, a0, c0, hx, rfl, hgs, hc0, hs0, hv0⟩ := hsl.at hi
  have HS := Lib.hid hsl
  have HS0 := Lib.hid hs0
  have HLEN := Lib.hid hlen
  have HIL := Lib.hid hx
  have HGI : Hid (L.getD i [] = L[i]) := by show _ = _; rw [List.getD_eq_getElem?_getD, List.getElem?_eq_getElem hx]; rfl
  have HLL := Lib.hid hsl.len
  have hl0 := hs0.cap
  have hl0b := hs0.big
  generalize hxs : L[i] = xs at *
  generalize hnl : xs.length = nl at *
  have HNL := Lib.hid hnl
  clear hsl hs0 hlen hv0 hxs hnl hx
  go_enter Try.func52, Try.ntmps52
  go_wp2_with fail
  go_loopw [14] (fun q wr => ∃ j : Nat, j ≤ nl ∧ q = .int .i64 j ∧ Hid ((xs.take j).find? (taken L i) = none) ∧ Hid (Below w.heap.size w wr)) (fun q _ => nl - (intOf q).toNat)
  case atStart => exact ⟨0, Nat.zero_le _, rfl, rfl, Below.refl _ _⟩
  case round =>
    obtain ⟨j, hj, rfl, hF, hbr⟩ := hrel
    by_cases hlt : j < nl
    · obtain ⟨g1, o1, hxj, rfl, hgs1, hcx⟩ := HS0.out.int hlt
      have k0 := (hbr.out.cell (p := ⟨g1, o1 + j, none⟩) hgs1).trans hcx
      have HXJ := Lib.hid hxj
      have HHIT := Lib.hid (fun h => find_hit hxj hF.out h)
      have HMORE := Lib.hid (find_more hxj hF.out)
      clear hcx
      generalize xs[j] = x at *
      go_wp2_with fail
      generalize wr = wq at *
      go_loopw [20] (fun q wr => ∃ k : Nat, k ≤ n ∧ q = .int .i64 k ∧ Hid ((List.range k).any (takes L i x) = false) ∧ Hid (Below wq.heap.size wq wr)) (fun q _ => n - (intOf q).toNat)
      case atStart => exact ⟨0, Nat.zero_le _, rfl, rfl, Below.refl _ _⟩
      case round =>
        obtain ⟨k, hk, rfl, hK, hbq⟩ := hrel
        have hbw : Below w.heap.size w wr := hbr.out.trans (hbq.out.mono hbr.out.size)
        have hci := (hbw.cell (p := ⟨g, o + i, none⟩) hgs).trans hc0
        by_cases hkl : k < n
        · obtain ⟨g2, o2, a3, c3, hkx, e2, hgs2, hck, hs3, _⟩ := HS.out.at hkl
          simp only [Option.some.injEq, Addr.mk.injEq] at e2
          obtain ⟨rfl, rfl, _⟩ := e2
          have hck' := (hbw.cell (p := ⟨g, o + k, none⟩) hgs).trans hck
          have HTK : Hid (takes L i x k = (decide (k ≠ i) && (decide (wrap64 (-x) ∈ L[k]) && Clause.subs (wo L[k] (wrap64 (-x))) xs))) := by
            show _ = _
            unfold takes wo
            rw [HGI.out, List.getD_eq_getElem?_getD, List.getElem?_eq_getElem hkx]
            rfl
          have HTM := Lib.hid (takes_more L i x k)
          have C := fun V (hV : Below wr.heap.size wr V) => Cont.contains_any V a3 _ c3 L[k] ((hs3.next hbw).next hV) (wrap64 (-x))
          have R := fun V (hV : Below wr.heap.size wr V) => rest_any V a3 _ c3 L[k] ((hs3.next hbw).next hV) (HLEN.out _ (List.getElem_mem hkx)) (wrap64 (-x))
          have S := fun V (hV : Below wr.heap.size wr V) a4 n4 c4 ys (h : Sl V a4 n4 c4 (ints ys)) => Clause.subsumes_any V a4 n4 c4 ys h (some ⟨g1, o1, none⟩) nl c0 xs ((HS0.out.next hbw).next hV)
          have HC := Lib.hid C
          have HR := Lib.hid R
          have HSS := Lib.hid S
          have HHT : Hid (takes L i x k = true → taken L i x = true) := fun h => taken_hit hkx h
          clear C R S hck hs3
          generalize L[k] = ys at *
          generalize ys.length = yl at *
          generalize hneg : wrap64 (-x) = z at *
          have hneg2 : IntKind.i64.wrap (-x) = z := by rw [← hneg]; first | rfl | (unfold wrap64; simp [IntKind.wrap, IntKind.bits, IntKind.signed]; omega)
          by_cases hki : k = i
          · have v0 : ((k : Int) != (i : Int)) = false := by rw [hki]; simp
            have HKN : Hid ((List.range (k + 1)).any (takes L i x) = false) := by
              show _ = _
              rw [HTM.out, hK.out, HTK.out, decide_eq_false (by simp [hki])]; rfl
            have HB := Lib.hid hbq.out
            clear hK hbq hbw hki
            go_wp2_with fail
            go_quiet (fail)
            go_wp2_with fail
            go_roundw
            case rel => exact ⟨k + 1, by omega, by go_num, HKN, below_drewN HB.out _⟩
            case measure => simp [intOf]; omega
          · have v0 : ((k : Int) != (i : Int)) = true := by rw [bne, beq_eq_false_iff_ne.2 (by omega)]; rfl
            have hdk : decide (k ≠ i) = true := decide_eq_true hki
            rw [hdk, Bool.true_and] at HTK
            clear hki hdk
            have hrr : Below wr.heap.size wr wr.drew := (Below.refl _ _).drew
            cases hin : decide (z ∈ ys)
            · rw [hin] at HTK HC
              have HKN : Hid ((List.range (k + 1)).any (takes L i x) = false) := by
                show _ = _
                rw [HTM.out, hK.out, HTK.out]; rfl
              have HB := Lib.hid hbq.out
              clear hK hbq hbw hin hrr
              go_wp2_with fail
              go_quiet (first | (go_at_call 73; exact Calls.quiet_of_same ((HC.out _ (by first | exact Below.refl _ _ | exact below_drewN (Below.refl _ _) _)).mono fun e w' h => ⟨h.1, h.2.symm⟩)))
              go_wp2_with fail
              go_roundw
              case rel => exact ⟨k + 1, by omega, by go_num, HKN, below_drewN HB.out _⟩
              case measure => simp [intOf]; omega
            · rw [hin, Bool.true_and] at HTK
              rw [hin] at HC
              have hgw : g < wr.heap.size := Nat.lt_of_lt_of_le hgs hbw.size
              have hkeep : ∀ (U U' : World), (Below wr.heap.size wr U ∧ U.cell? ⟨g, o + i, none⟩ = some (.slice (some ⟨g1, o1, none⟩) nl c0)) → Below U.heap.size U U' → (Below wr.heap.size wr U' ∧ U'.cell? ⟨g, o + i, none⟩ = some (.slice (some ⟨g1, o1, none⟩) nl c0)) := fun U U' hU hb =>
                ⟨hU.1.trans (hb.mono hU.1.size), (hb.cell (p := ⟨g, o + i, none⟩) (Nat.lt_of_lt_of_le hgw hU.1.size)).trans hU.2⟩
              have HC3 := Lib.hid (fun (U : World) (hU : Below wr.heap.size wr U ∧ U.cell? ⟨g, o + i, none⟩ = some (.slice (some ⟨g1, o1, none⟩) nl c0)) => (HC.out U hU.1).mono (fun e w' h => (⟨h.1, h.2 ▸ hU⟩ : e = .returned (.bool true) ∧ (Below wr.heap.size wr w' ∧ w'.cell? ⟨g, o + i, none⟩ = some (.slice (some ⟨g1, o1, none⟩) nl c0)))))
              have HR3 := Lib.hid (fun (U : World) (hU : Below wr.heap.size wr U ∧ U.cell? ⟨g, o + i, none⟩ = some (.slice (some ⟨g1, o1, none⟩) nl c0)) => (HR.out U hU.1).mono (fun e w' h => (by
                obtain ⟨a4, n4, c4, he, ho, hb⟩ := h
                exact ⟨a4, n4, c4, he, Base.own_ints ho, hkeep _ _ hU hb⟩ : ∃ a4 n4 c4, e = .returned (.slice a4 n4 c4) ∧ Sl w' a4 n4 c4 (ints (wo ys z)) ∧ (Below wr.heap.size wr w' ∧ w'.cell? ⟨g, o + i, none⟩ = some (.slice (some ⟨g1, o1, none⟩) nl c0)))))
              have HS3 := Lib.hid (fun (U : World) (hU : Below wr.heap.size wr U ∧ U.cell? ⟨g, o + i, none⟩ = some (.slice (some ⟨g1, o1, none⟩) nl c0)) (a4 : Option Addr) (n4 c4 : Nat) (h4 : Sl U a4 n4 c4 (ints (wo ys z))) => (HSS.out U hU.1 a4 n4 c4 _ h4).mono (fun e w' h => (⟨h.1, hkeep _ _ hU h.2⟩ : e = .returned (.bool (Clause.subs (wo ys z) xs)) ∧ (Below wr.heap.size wr w' ∧ w'.cell? ⟨g, o + i, none⟩ = some (.slice (some ⟨g1, o1, none⟩) nl c0)))))
              clear hkeep HR HSS
              cases hsb : Clause.subs (wo ys z) xs
              · rw [hsb] at HTK
                rw [hsb] at HS3
                have HKN : Hid ((List.range (k + 1)).any (takes L i x) = false) := by
                  show _ = _
                  rw [HTM.out, hK.out, HTK.out]; rfl
                have HB := Lib.hid hbq.out
                clear hK hbq hbw hin hrr hsb
                go_wp2_with fail
                go_region_held3 (fun w' => Below wr.heap.size wr w' ∧ w'.cell? ⟨g, o + i, none⟩ = some (.slice (some ⟨g1, o1, none⟩) nl c0)) (first | assumption | exact ⟨(Below.refl _ _).drew, hci⟩)
                  (first | (go_at_call 73; refine (HC3.out _ (by assumption)).mono ?_; rintro e w' ⟨rfl, hS'⟩) | (go_at_call 54; refine (HR3.out _ (by assumption)).mono ?_; rintro e w' ⟨a4, n4, c4, rfl, ho4, hS'⟩) | (go_at_call 48; refine (HS3.out _ (by assumption) _ _ _ (by assumption)).mono ?_; rintro e w' ⟨rfl, hS'⟩))
                all_goals
                  have HB5 := Lib.hid (HB.out.trans ((And.left hS').mono HB.out.size))
                  go_wp2_with fail
                  go_roundw
                  case rel => exact ⟨k + 1, by omega, by go_num, HKN, HB5.out⟩
                  case measure => simp [intOf]; omega
              · rw [hsb] at HTK
                rw [hsb] at HS3
                have HT := Lib.hid (HHT.out HTK.out)
                have HW : Hid (weaker L i = x) := by
                  show _ = _
                  unfold weaker
                  rw [HGI.out, HHIT.out HT.out]; rfl
                have HB := Lib.hid hbw
                clear hK hbq hbw hin hrr hsb
                go_wp2_with fail
                go_region_held3 (fun w' => Below wr.heap.size wr w' ∧ w'.cell? ⟨g, o + i, none⟩ = some (.slice (some ⟨g1, o1, none⟩) nl c0)) (first | assumption | exact ⟨(Below.refl _ _).drew, hci⟩)
                  (first | (go_at_call 73; refine (HC3.out _ (by assumption)).mono ?_; rintro e w' ⟨rfl, hS'⟩) | (go_at_call 54; refine (HR3.out _ (by assumption)).mono ?_; rintro e w' ⟨a4, n4, c4, rfl, ho4, hS'⟩) | (go_at_call 48; refine (HS3.out _ (by assumption) _ _ _ (by assumption)).mono ?_; rintro e w' ⟨rfl, hS'⟩))
                all_goals
                  have HB5 := Lib.hid (HB.out.trans ((And.left hS').mono HB.out.size))
                  go_wp2_with fail
                  go_ret
                  exact ⟨ret_int HW.out.symm, HB5.out⟩
        · have HN : Hid (taken L i x = false) := by
            show _ = _
            unfold taken
            rw [HLL.out, ← show k = n by omega]
            exact hK.out
          have HB := Lib.hid hbw
          clear hK hbq hbw
          go_wp2_with fail
          go_roundw
          case rel => exact ⟨j + 1, by omega, by go_num, by show _ = _; rw [HMORE.out, HN.out]; rfl, HB.out⟩
          case measure => simp [intOf]; omega
    · have HW : Hid (weaker L i = 0) := by
        show _ = _
        have h := hF.out
        rw [List.take_of_length_le (by rw [HNL.out]; omega)] at h
        unfold weaker
        rw [HGI.out, h]; rfl
      go_wp2_with fail
      go_ret
      exact ⟨ret_int HW.out.symm, hbr.out⟩

end Pre
end Go.Proofs.Ythhkngpbaflfiaa
