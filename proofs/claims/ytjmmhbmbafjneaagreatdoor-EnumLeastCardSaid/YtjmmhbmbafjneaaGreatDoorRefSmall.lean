/-
  interlockref03.known, all, count, rank; interlockref01.Has.
-/
import Derived.Test.YtjmmhbmbafjneaaGreatDoorRefKind
import Derived.Test.YtjmmhbmbafjneaaGreatDoorCheckC
import Derived.Test.YtjmmhbmbafjneaaGreatDoorWfC
import Derived.Test.YtjmmhbmbafjneaaGreatDoorRank
import Derived.StillTailTactics
namespace Go.Proofs.YtjmmhbmbafjneaaGreatDoor
open Go.RowKit Base
set_option linter.unusedVariables false
set_option linter.unusedSimpArgs false
namespace Circuit

/-- Is a literal of something, the page's way? -/
def KnR (x : Circ) (l : Int) : Prop := 0 ≤ l ∧ (kindOf x (l / 2)).toList.isEmpty = false

set_option maxRecDepth 8000 in
set_option maxHeartbeats 4000000 in
theorem refKnown_any (w : World) (x : Circ) (p : At) (hin : InCirc w x p) (hw : WfC x) (l : Int) (hl : I64 l) :
    Calls Tryz.prog 30 #[.agg (cells x p), .int .i64 l] w fun e w' => e = .returned (.bool (tt (KnR x l))) ∧ Below w.heap.size w w' := by
  obtain ⟨W1, hW1⟩ : ∃ W1, w.alloc (.cells (cells x p) 27) = W1 := ⟨_, rfl⟩
  obtain ⟨hb1, hcb⟩ := cbox_new w x p W1 hW1
  have HK := refKind_any W1 x p (hin.next hb1) hw.ins hw.lats hw.ands (l / 2)
  have HB1 := Lib.hid hb1
  obtain ⟨a1, c1, a2, c2, a3, c3, a4, c4, a5, c5, a6, c6, a7, c7⟩ := p
  have k0 : W1.cell? ⟨w.heap.size, 0, none⟩ = some (.int .i64 x.max) := hcb.k0
  have k1 : W1.cell? ⟨w.heap.size, 1, none⟩ = some (.slice a1 x.ins.length c1) := hcb.k1
  have k2 : W1.cell? ⟨w.heap.size, 2, none⟩ = some (.slice a2 x.lats.length c2) := hcb.k2
  have k3 : W1.cell? ⟨w.heap.size, 3, none⟩ = some (.slice a3 x.outs.length c3) := hcb.k3
  have k4 : W1.cell? ⟨w.heap.size, 4, none⟩ = some (.slice a4 x.bads.length c4) := hcb.k4
  have k5 : W1.cell? ⟨w.heap.size, 5, none⟩ = some (.slice a5 x.invs.length c5) := hcb.k5
  have k6 : W1.cell? ⟨w.heap.size, 6, none⟩ = some (.slice a6 x.ands.length c6) := hcb.k6
  have k7 : W1.cell? ⟨w.heap.size, 7, none⟩ = some (.slice a7 x.names.length c7) := hcb.k7
  simp only [cells] at hW1 HK ⊢
  obtain ⟨hl0, hl1⟩ := hl
  clear hb1 hcb hin hw
  by_cases h0 : 0 ≤ l
  · have hd0 : decide (0 ≤ l) = true := decide_eq_true h0
    have HR : Hid (tt (KnR x l) = !(kindOf x (l / 2)).toList.isEmpty) := tt_bool (by
      unfold KnR
      rw [Bool.not_eq_true']
      exact ⟨fun h => ⟨h0, h⟩, fun h => h.2⟩)
    have htd : l.tdiv 2 = l / 2 := Int.tdiv_eq_ediv_of_nonneg h0
    have HKH := Lib.hid HK
    clear HK h0
    generalize kindOf x (l / 2) = q at *
    cases hq : q.toList.isEmpty
    · have hq2 : (q.toList == []) = false := by
        cases h : q.toList with
        | nil => rw [h] at hq; simp at hq
        | cons a b => rfl
      rw [hq] at HR
      have HQ := Lib.hid hq
      clear hq
      go_enter Tryz.func30, Tryz.ntmps30
      go_wp2_with fail
      with_reducible refine HKH.out.mono ?_
      rintro e w3 ⟨rfl, hb3⟩
      have HB3 := Lib.hid (HB1.out.trans (hb3.mono HB1.out.size))
      clear hb3
      go_wp2_with fail
      go_ret
      exact ⟨ret_bool (by rw [HR.out]; rfl), HB3.out⟩
    · have hq2 : (q.toList == []) = true := by rw [List.isEmpty_iff.1 hq]; rfl
      rw [hq] at HR
      have HQ := Lib.hid hq
      clear hq
      go_enter Tryz.func30, Tryz.ntmps30
      go_wp2_with fail
      with_reducible refine HKH.out.mono ?_
      rintro e w3 ⟨rfl, hb3⟩
      have HB3 := Lib.hid (HB1.out.trans (hb3.mono HB1.out.size))
      clear hb3
      go_wp2_with fail
      go_ret
      exact ⟨ret_bool (by rw [HR.out]; rfl), HB3.out⟩
  · have hd0 : decide (0 ≤ l) = false := decide_eq_false h0
    have h0' : l < 0 := by omega
    have HR : Hid (tt (KnR x l) = false) := tt_neg (fun h => h0 h.1)
    clear h0 HK
    go_enter Tryz.func30, Tryz.ntmps30
    go_wp2_with fail
    go_ret
    exact ⟨ret_bool HR.out.symm, HB1.out⟩

/-- Are all of a list something, the page's way, and are there not too many? -/
def AllR (x : Circ) (l : List Int) : Prop := (∀ y ∈ l, KnR x y) ∧ l.length ≤ 64

set_option maxRecDepth 8000 in
set_option maxHeartbeats 4000000 in
theorem refAll_any (w : World) (x : Circ) (p : At) (hin : InCirc w x p) (hw : WfC x) (a : Option Addr) (c : Nat) (l : List Int) (hsl : Sl w a l.length c (ints l)) (hl : ∀ y ∈ l, I64 y) :
    Calls Tryz.prog 32 #[.agg (cells x p), .slice a l.length c] w fun e w' => e = .returned (.bool (tt (AllR x l))) ∧ Below w.heap.size w w' := by
  obtain ⟨W1, hW1⟩ : ∃ W1, w.alloc (.cells (cells x p) 27) = W1 := ⟨_, rfl⟩
  obtain ⟨hb1, hcb⟩ := cbox_new w x p W1 hW1
  have HK := fun (U : World) (hU : Below W1.heap.size W1 U) (y : Int) (hy : I64 y) => refKnown_any U x p ((hin.next hb1).next hU) hw y hy
  have KB := Lib.hid (fun (U : World) (hU : Below W1.heap.size W1 U) => hcb.next hU (Nat.le_refl _))
  have HB1 := Lib.hid hb1
  have HSL := Lib.hid (hsl.next hb1)
  have hcap := hsl.cap
  have hbig := hsl.big
  have HLW := Lib.hid hl
  obtain ⟨a1, c1, a2, c2, a3, c3, a4, c4, a5, c5, a6, c6, a7, c7⟩ := p
  simp only [cells] at hW1 HK ⊢
  have HKH := Lib.hid HK
  clear HK hin hw hb1 hcb hsl hl
  go_enter Tryz.func32, Tryz.ntmps32
  go_wp2_with fail
  clear hW1
  go_loopw [5] (fun s wr => ∃ k : Nat, k ≤ l.length ∧ s = .int .i64 k ∧ Hid (∀ j (h : j < l.length), j < k → KnR x l[j]) ∧ Hid (Below W1.heap.size W1 wr)) (fun s _ => l.length - (intOf s).toNat)
  case atStart => exact ⟨0, Nat.zero_le _, rfl, (fun j _ h => by omega), Below.refl _ _⟩
  case round =>
    obtain ⟨k, hk, rfl, hI, hB⟩ := hrel
    by_cases hlt : k < l.length
    · obtain ⟨b, o, hx, rfl, hbs, hc0⟩ := HSL.out.int hlt
      have d0 := (hB.out.cell (p := ⟨b, o + k, none⟩) hbs).trans hc0
      have CB := KB.out wr hB.out
      have m0 : wr.cell? ⟨w.heap.size, 0, none⟩ = some (.int .i64 x.max) := CB.k0
      have m1 : wr.cell? ⟨w.heap.size, 1, none⟩ = some (.slice a1 x.ins.length c1) := CB.k1
      have m2 : wr.cell? ⟨w.heap.size, 2, none⟩ = some (.slice a2 x.lats.length c2) := CB.k2
      have m3 : wr.cell? ⟨w.heap.size, 3, none⟩ = some (.slice a3 x.outs.length c3) := CB.k3
      have m4 : wr.cell? ⟨w.heap.size, 4, none⟩ = some (.slice a4 x.bads.length c4) := CB.k4
      have m5 : wr.cell? ⟨w.heap.size, 5, none⟩ = some (.slice a5 x.invs.length c5) := CB.k5
      have m6 : wr.cell? ⟨w.heap.size, 6, none⟩ = some (.slice a6 x.ands.length c6) := CB.k6
      have m7 : wr.cell? ⟨w.heap.size, 7, none⟩ = some (.slice a7 x.names.length c7) := CB.k7
      have HK := Lib.hid (HKH.out wr.drew (hB.out.trans (Below.refl _ _).drew) l[k] (HLW.out _ (List.getElem_mem hx)))
      have HM : Hid (KnR x l[k] → ∀ j (h : j < l.length), j < k + 1 → KnR x l[j]) := fun hq j hj hjk => by
        by_cases he : j = k
        · subst he; exact hq
        · exact hI.out j hj (by omega)
      have HN : Hid (AllR x l → KnR x l[k]) := fun h => h.1 _ (List.getElem_mem hx)
      have HB2 : Hid (Below W1.heap.size W1 wr.drew) := hB.out.trans (Below.refl _ _).drew
      clear hc0 CB hI hB hbs
      generalize l[k] = y at *
      by_cases hkn : KnR x y
      · rw [tt_pos hkn] at HK
        have HR := Lib.hid (HM.out hkn)
        clear hkn HM HN
        go_upto_region 4 with fail
        refine wp_region_still_tail 5 (by kernel_rfl) (by kernel_rfl) ?_
        simp only [List.take_succ_cons, List.take_zero, List.drop_succ_cons, List.drop_zero]
        repeat still_step
        refine wpStill_nil ?_
        clear m0 m1 m2 m3 m4 m5 m6 m7 d0
        go_wp2_with fail
        with_reducible refine HK.out.mono ?_
        rintro e w3 ⟨rfl, hb3⟩
        have HB3 := Lib.hid (HB2.out.trans (hb3.mono HB2.out.size))
        clear hb3
        go_wp2_with fail
        go_roundw
        case rel => exact ⟨k + 1, by omega, by go_num, HR.out, HB3.out⟩
        case measure => simp [intOf]; omega
      · rw [tt_neg hkn] at HK
        have HR : Hid (tt (AllR x l) = false) := tt_neg (fun h => hkn (HN.out h))
        clear hkn HM HN
        go_upto_region 4 with fail
        refine wp_region_still_tail 5 (by kernel_rfl) (by kernel_rfl) ?_
        simp only [List.take_succ_cons, List.take_zero, List.drop_succ_cons, List.drop_zero]
        repeat still_step
        refine wpStill_nil ?_
        clear m0 m1 m2 m3 m4 m5 m6 m7 d0
        go_wp2_with fail
        with_reducible refine HK.out.mono ?_
        rintro e w3 ⟨rfl, hb3⟩
        have HB3 := Lib.hid (HB1.out.trans ((HB2.out.trans (hb3.mono HB2.out.size)).mono HB1.out.size))
        clear hb3
        go_wp2_with fail
        go_ret
        exact ⟨ret_bool HR.out.symm, HB3.out⟩
    · have hke : k = l.length := by omega
      have HR : Hid (tt (AllR x l) = decide ((l.length : Int) ≤ 64)) := tt_bool (by
        rw [decide_eq_true_iff]
        constructor
        · intro h
          refine ⟨fun y hy => ?_, by omega⟩
          obtain ⟨j, hj, rfl⟩ := List.mem_iff_getElem.1 hy
          exact hI.out j hj (by omega)
        · intro h
          have := h.2
          omega)
      have HB3 := Lib.hid (HB1.out.trans (hB.out.mono HB1.out.size))
      clear hke hI hB
      go_wp2_with fail
      all_goals
        go_ret
        exact ⟨ret_bool (by rw [HR.out]), HB3.out⟩

/-- How many of a kind there are; of no kind -1. -/
def countR (x : Circ) (k : ByteArray) : Int :=
  if (k.toList == [105]) = true then (x.ins.length : Int) else if (k.toList == [108]) = true then x.lats.length else if (k.toList == [111]) = true then x.outs.length else if (k.toList == [98]) = true then x.bads.length else if (k.toList == [99]) = true then x.invs.length else -1

set_option maxRecDepth 4000 in
set_option maxHeartbeats 4000000 in
theorem refCount_any (w : World) (x : Circ) (p : At) (k : ByteArray) :
    Calls Tryz.prog 54 #[.agg (cells x p), .string k] w fun e w' => e = .returned (.int .i64 (countR x k)) ∧ Below w.heap.size w w' := by
  have hco : countR x k = if (k.toList == [105]) = true then (x.ins.length : Int) else if (k.toList == [108]) = true then x.lats.length else if (k.toList == [111]) = true then x.outs.length else if (k.toList == [98]) = true then x.bads.length else if (k.toList == [99]) = true then x.invs.length else -1 := rfl
  have HCO := Lib.hid hco
  obtain ⟨W1, hW1⟩ : ∃ W1, w.alloc (.cells (cells x p) 27) = W1 := ⟨_, rfl⟩
  obtain ⟨hb1, hcb⟩ := cbox_new w x p W1 hW1
  have HB := Lib.hid hb1
  obtain ⟨a1, c1, a2, c2, a3, c3, a4, c4, a5, c5, a6, c6, a7, c7⟩ := p
  have k1 : W1.cell? ⟨w.heap.size, 1, none⟩ = some (.slice a1 x.ins.length c1) := hcb.k1
  have k2 : W1.cell? ⟨w.heap.size, 2, none⟩ = some (.slice a2 x.lats.length c2) := hcb.k2
  have k3 : W1.cell? ⟨w.heap.size, 3, none⟩ = some (.slice a3 x.outs.length c3) := hcb.k3
  have k4 : W1.cell? ⟨w.heap.size, 4, none⟩ = some (.slice a4 x.bads.length c4) := hcb.k4
  have k5 : W1.cell? ⟨w.heap.size, 5, none⟩ = some (.slice a5 x.invs.length c5) := hcb.k5
  simp only [cells] at hW1 ⊢
  clear hco hb1 hcb
  generalize countR x k = R at *
  go_enter Tryz.func54, Tryz.ntmps54
  go_wp2_with fail
  all_goals
    go_ret
    refine ⟨ret_int ?_, HB.out⟩
    rw [HCO.out]
    simp_all

set_option maxHeartbeats 1000000 in
theorem has_any (w : World) (a : Option Addr) (n c : Nat) (xs : List Int) (hsl : Sl w a n c (ints xs)) (y : Int) :
    Calls Tryz.prog 31 #[.slice a n c, .int .i64 y] w fun e w' => e = .returned (.bool (tt (y ∈ xs))) ∧ w = w' := by
  have HL : Hid (xs.length = n) := by have := hsl.len; rwa [ints_len] at this
  have hcap := hsl.cap
  have hbig := hsl.big
  have HSL := Lib.hid hsl
  clear hsl
  go_enter Tryz.func31, Tryz.ntmps31
  go_wp2
  go_loop [5] (fun i => ∃ k : Nat, k ≤ n ∧ i = .int .i64 k ∧ Hid (∀ j (h : j < xs.length), j < k → xs[j] ≠ y)) (fun i => n - (intOf i).toNat)
  case atStart => exact ⟨0, Nat.zero_le _, rfl, fun j _ h => by omega⟩
  case round =>
    obtain ⟨k, hk, rfl, hI⟩ := hrel
    by_cases hlt : k < n
    · obtain ⟨b, o, hx, rfl, hbs, hc⟩ := HSL.out.int hlt
      have HMEM : Hid (xs[k] = y → y ∈ xs) := fun h => by rw [← h]; exact List.getElem_mem hx
      have HMO : Hid (xs[k] ≠ y → ∀ j (h : j < xs.length), j < k + 1 → xs[j] ≠ y) := fun hq j hj hjk => by
        by_cases he : j = k
        · subst he; exact hq
        · exact hI.out j hj (by omega)
      generalize xs[k] = p at *
      by_cases hq : p = y
      · have v0 : (p == y) = true := by simp [hq]
        have HF : Hid (tt (y ∈ xs) = true) := tt_pos (HMEM.out hq)
        clear hq HMEM HMO
        go_wp2
        go_ret
        exact ⟨ret_bool HF.out.symm, rfl⟩
      · have v0 : (p == y) = false := by simp [hq]
        have HF := Lib.hid (HMO.out hq)
        clear hq HMEM HMO
        go_wp2
        go_round
        case rel => exact ⟨k + 1, by omega, by go_num, HF.out⟩
        case measure => simp [intOf]; omega
    · have HF : Hid (tt (y ∈ xs) = false) := tt_neg (fun h => by
        obtain ⟨j, hj, he⟩ := List.mem_iff_getElem.1 h
        exact hI.out j hj (by have := HL.out; omega) he)
      go_wp2
      go_ret
      exact ⟨ret_bool HF.out.symm, rfl⟩

end Circuit
end Go.Proofs.YtjmmhbmbafjneaaGreatDoor
