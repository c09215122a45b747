/-
  Several texts in one (written by merge2.py): XUnrollC XEnumK XEnumT XBadN XStep XAllS XBadS XBadW
-/
import Derived.Test.YtjmmhbmbafjneaaGreatDoorEnumTM4
import Derived.Test.YtjmmhbmbafjneaaGreatDoorEnumTM3
import Derived.Test.YtjmmhbmbafjneaaGreatDoorCheckC
import Derived.Test.YtjmmhbmbafjneaaGreatDoorWfC
import Derived.Test.YtjmmhbmbafjneaaGreatDoorEnumTM1
import Derived.Test.YtjmmhbmbafjneaaGreatDoorEnumTM2
import Derived.Test.YtjmmhbmbafjneaaGreatDoorLaws
import Derived.Deep.RegionHeld3
import Derived.Deep.RegionLaw
import Derived.Deep.AppendLies
import Derived.Laws.AppendOwnNone
/-
  unroll.Check of a question without lemmas (written by unrollc.py).
-/
namespace Go.Proofs.YtjmmhbmbafjneaaGreatDoor
open Go.RowKit Base
set_option linter.unusedVariables false
set_option linter.unusedSimpArgs false
namespace Unroll
open Circuit LitsC

section
variable {P : Program} {ops : Array Oper} {Q : Exit → Act → World → Prop} {md : Region.Mode} {S : World → Prop}
theorem opOff {i : Nat} {oi : Oper} {d : Option Tmp} {fuel : Nat} {listed : Array Bool} {a : Act} {w : World} (hi : ops[i]? = some oi) (hd : oi.dst = d)
    (hw : Region.wanted oi (yielded ops a.tmps) = false) (hS : S w)
    (h : HeldAll.wpAnyH P md ops Q S fuel (listed.setIfInBounds i true) (a.put d undef) w) : wpOp P ops Q i (HeldAll.Nx P md ops Q S fuel listed i) a w := by
  subst hd
  unfold wpOp
  simp only [hi, hw]
  exact ⟨hS, h⟩
end

theorem eg_chk1 : SlfR.Enters 41 := enters_of Tryz.func41 (by kernel_rfl) rfl
theorem eg_str : SlfR.Enters 72 := enters_of Tryz.func72 (by kernel_rfl) rfl
def strangeU (mx : Int) (l : List Int) : Bool := decide (1024 < l.length) || l.any (oddM mx)

set_option maxHeartbeats 1000000 in
theorem str1_any (w : World) (N : Nat) (x : Circ) (p : At) (hm : CBox N x p w) (h0 : 0 ≤ x.max) (h1 : x.max ≤ 2048) (a : Option Addr) (n c : Nat) (l : List Int) (hsl : Sl w a n c (ints l)) (hl : ∀ y ∈ l, Circuit.I64 y) :
    Calls Tryz.prog 72 #[.slice a n c, .pointer (some ⟨N, 0, none⟩)] w fun e w' => e = .returned (.bool (strangeU x.max l)) ∧ Below w.heap.size w w' := by
  have HC := Lib.hid (check_any w a n c l hsl hl x.max h0 h1)
  have hln : l.length = n := by have := hsl.len; rwa [ints_len] at this
  have hcap := hsl.cap
  have hbig := hsl.big
  have hm := hm.k0
  unfold strangeU
  rw [hln]
  generalize l.any (oddM x.max) = q at *
  clear hsl hl h0 h1 hln
  by_cases hlt : 1024 < n
  · rw [decide_eq_true hlt]
    go_enter Tryz.func72, Tryz.ntmps72
    go_wp2_with fail
    go_ret
    exact ⟨rfl, Below.refl _ _⟩
  · rw [decide_eq_false hlt]
    have HD : Hid (decide ((1024 : Int) < (n : Int)) = false) := by show _ = _; rw [decide_eq_false]; omega
    cases q
    all_goals
      go_enter Tryz.func72, Tryz.ntmps72
      go_wp2_with fail
      with_reducible refine HC.out.mono ?_
      rintro e w2 ⟨rfl, hb2⟩
      go_wp2_with fail
      go_ret
      first
        | exact ⟨rfl, hb2⟩
        | exact ⟨by show Ending.returned (Value.bool (decide ((1024 : Int) < (n : Int)))) = _; rw [HD.out]; rfl, hb2⟩

set_option maxHeartbeats 1000000 in
theorem str_any (w : World) (x : Circ) (p : At) :
    Calls Tryz.prog 40 #[.agg (cells x p)] w fun e w' => e = .returned (.func (.func 72) #[] #[.pointer (some ⟨w.heap.size, 0, none⟩)]) ∧ CBox w.heap.size x p w' ∧ Below w.heap.size w w' := by
  obtain ⟨W1, hW1⟩ : ∃ W1, w.alloc (.cells (cells x p) 27) = W1 := ⟨_, rfl⟩
  obtain ⟨hb1', hc1⟩ := cbox_new w x p W1 hW1
  have HC := Lib.hid hc1
  have HB := Lib.hid hb1'
  clear hb1' hc1
  obtain ⟨a1, c1, a2, c2, a3, c3, a4, c4, a5, c5, a6, c6, a7, c7⟩ := p
  simp only [cells] at hW1 ⊢
  go_enter Tryz.func40, Tryz.ntmps40
  go_wp2_with fail
  go_ret
  exact ⟨rfl, HC.out, HB.out⟩

/-- A question's cells. -/
def qcells (x : Circ) (p : At) (aA : Option Addr) (n cA : Nat) (bad : Int) : Array Value :=
  #[.int .i64 x.max, .slice p.a1 x.ins.length p.c1, .slice p.a2 x.lats.length p.c2, .slice p.a3 x.outs.length p.c3, .slice p.a4 x.bads.length p.c4, .slice p.a5 x.invs.length p.c5, .slice p.a6 x.ands.length p.c6, .slice p.a7 x.names.length p.c7,
    .slice aA n cA, .slice none 0 0, .slice none 0 0, .int .i64 bad, .int .i64 0, .int .i64 0]
/-- What unroll.Check tells. -/
noncomputable def unrE (x : Circ) (A : List (List Int)) (bad : Int) : Int :=
  if tt (CheckOk x) = true then (if bad < 0 ∨ (x.bads.length : Int) ≤ bad then 4 else if 64 < A.length then 3 else if A.any (strangeU x.max) = true then 23 else 0) else 9
theorem unrE_no {x : Circ} (h : ¬ CheckOk x) (A : List (List Int)) (bad : Int) : unrE x A bad = 9 := by unfold unrE; rw [tt_neg h]; rfl
theorem unrE_bad {x : Circ} (h : CheckOk x) (A : List (List Int)) {bad : Int} (hb : bad < 0 ∨ (x.bads.length : Int) ≤ bad) : unrE x A bad = 4 := by unfold unrE; rw [tt_pos h, if_pos rfl, if_pos hb]
theorem unrE_many {x : Circ} (h : CheckOk x) {A : List (List Int)} {bad : Int} (hb : ¬ (bad < 0 ∨ (x.bads.length : Int) ≤ bad)) (hA : 64 < A.length) : unrE x A bad = 3 := by unfold unrE; rw [tt_pos h, if_pos rfl, if_neg hb, if_pos hA]
theorem unrE_kind {x : Circ} (h : CheckOk x) {A : List (List Int)} {bad : Int} (hb : ¬ (bad < 0 ∨ (x.bads.length : Int) ≤ bad)) (h64 : ¬ 64 < A.length) (hA : A.any (strangeU x.max) = true) : unrE x A bad = 23 := by unfold unrE; rw [tt_pos h, if_pos rfl, if_neg hb, if_neg h64, if_pos hA]
theorem unrE_ok {x : Circ} (h : CheckOk x) {A : List (List Int)} {bad : Int} (hb : ¬ (bad < 0 ∨ (x.bads.length : Int) ≤ bad)) (h64 : ¬ 64 < A.length) (hA : A.any (strangeU x.max) = false) : unrE x A bad = 0 := by unfold unrE; rw [tt_pos h, if_pos rfl, if_neg hb, if_neg h64, if_neg (by rw [hA]; decide)]
theorem unrE_zero {x : Circ} {A : List (List Int)} {bad : Int} (h : unrE x A bad = 0) : CheckOk x ∧ 0 ≤ bad ∧ bad < x.bads.length ∧ A.length ≤ 64 ∧ A.any (strangeU x.max) = false := by
  by_cases hc : CheckOk x
  · by_cases hb : bad < 0 ∨ (x.bads.length : Int) ≤ bad
    · rw [unrE_bad hc A hb] at h; omega
    · by_cases h64 : 64 < A.length
      · rw [unrE_many hc hb h64] at h; omega
      · cases hA : A.any (strangeU x.max)
        · exact ⟨hc, by omega, by omega, by omega, rfl⟩
        · rw [unrE_kind hc hb h64 hA] at h; omega
  · rw [unrE_no hc] at h; omega

set_option maxRecDepth 8000 in
set_option maxHeartbeats 8000000 in
theorem unroll_any (w : World) (x : Circ) (p : At) (hin : InCirc w x p) (hw : WfC x) (aA : Option Addr) (n cA : Nat) (vals : List Value) (A : List (List Int)) (hA : Sl2 w aA n cA vals A) (hA64 : ∀ y ∈ A.flatten, Circuit.I64 y) (bad : Int) (hb0 : -9223372036854775808 ≤ bad) (hb1 : bad ≤ 9223372036854775807) :
    Calls Tryz.prog 16 #[.agg (qcells x p aA n cA bad)] w fun e w' => e = .returned (.int .i64 (unrE x A bad)) ∧ Below w.heap.size w w' := by
  obtain ⟨W1, hW1⟩ : ∃ W1, w.alloc (.cells (qcells x p aA n cA bad) 42) = W1 := ⟨_, rfl⟩
  obtain ⟨W2, hW2⟩ : ∃ W2, W1.alloc (.cells (cells x p) 27) = W2 := ⟨_, rfl⟩
  have hb1' : Below w.heap.size w W1 := by rw [← hW1]; exact (Below.refl _ _).alloc (Nat.le_refl _) _
  have hx1 : BoxN w.heap.size (qcells x p aA n cA bad).toList W1 := by rw [← hW1]; exact BoxN.new w _ _
  obtain ⟨hb2', hc2⟩ := cbox_new W1 x p W2 hW2
  have hb12 := hb1'.trans (hb2'.mono hb1'.size)
  have HB2 := Lib.hid hb12
  have HC := Lib.hid (check_any W2 x p (hin.next hb12) hw.ins hw.outs hw.bads hw.invs hw.lats hw.ands hw.mx)
  have HCB := Lib.hid (fun (U : World) (hU : Below W2.heap.size W2 U) => hc2.next hU (Nat.le_refl _))
  have HXQ := fun (U : World) (hU : Below W2.heap.size W2 U) => (hx1.next hb2' hx1.lt).next hU (Nat.lt_of_lt_of_le hx1.lt hb2'.size)
  have HA := Lib.hid (fun (U : World) (hU : Below W2.heap.size W2 U) => (hA.next hb12).next hU)
  have HA64 := Lib.hid hA64
  have HAL := Lib.hid (hA.len)
  have HLB := Lib.hid (hin.bads.big)
  have han := hA.sl.cap
  have hag := hA.sl.big
  have hq := hx1
  have k0 := hc2.k0
  have k1 := hc2.k1
  have k2 := hc2.k2
  have k3 := hc2.k3
  have k4 := hc2.k4
  have k5 := hc2.k5
  have k6 := hc2.k6
  have k7 := hc2.k7
  have hal : A.length = n := hA.len
  obtain ⟨a1, c1, a2, c2, a3, c3, a4, c4, a5, c5, a6, c6, a7, c7⟩ := p
  simp only [cells, qcells] at hW1 hW2 HC HXQ hq k0 k1 k2 k3 k4 k5 k6 k7 ⊢
  have q0 := hq.at' 0 _ rfl
  have q1 := hq.at' 1 _ rfl
  have q2 := hq.at' 2 _ rfl
  have q3 := hq.at' 3 _ rfl
  have q4 := hq.at' 4 _ rfl
  have q5 := hq.at' 5 _ rfl
  have q6 := hq.at' 6 _ rfl
  have q7 := hq.at' 7 _ rfl
  try simp only at q0 q1 q2 q3 q4 q5 q6 q7
  have HXQ := Lib.hid HXQ
  clear hq
  by_cases hok : CheckOk x
  · rw [chk_pos hok] at HC
    have HOK := Lib.hid hok
    clear hin hw hA hA64 hb1' hx1 hb2' hc2 hb12 hok
    by_cases hlo : bad < 0
    · have HE : Hid (unrE x A bad = 4) := unrE_bad HOK.out A (Or.inl hlo)
      go_enter Tryz.func16, Tryz.ntmps16
      go_wp2_with fail
      with_reducible refine HC.out.mono ?_
      rintro e w2 ⟨rfl, hb2⟩
      have HB3 := Lib.hid hb2
      clear q0 q1 q2 q3 q4 q5 q6 q7 k0 k1 k2 k3 k4 k5 k6 k7 hW1 hW2
      have xq := HXQ.out w2 hb2
      have m8 := xq.at' 8 _ rfl
      have m9 := xq.at' 9 _ rfl
      have m10 := xq.at' 10 _ rfl
      have m11 := xq.at' 11 _ rfl
      have m12 := xq.at' 12 _ rfl
      have m13 := xq.at' 13 _ rfl
      try simp only at m8 m9 m10 m11 m12 m13
      have c := HCB.out w2 hb2
      have k0 := c.k0
      have k1 := c.k1
      have k2 := c.k2
      have k3 := c.k3
      have k4 := c.k4
      have k5 := c.k5
      have k6 := c.k6
      have k7 := c.k7
      clear c xq
      try simp only at k0 k1 k2 k3 k4 k5 k6 k7
      clear hb2
      go_wp2_with fail
      go_ret
      exact ⟨ret_int HE.out.symm, HB2.out.trans (HB3.out.mono HB2.out.size)⟩
    · by_cases hhi : (x.bads.length : Int) ≤ bad
      · have HE : Hid (unrE x A bad = 4) := unrE_bad HOK.out A (Or.inr hhi)
        go_enter Tryz.func16, Tryz.ntmps16
        go_wp2_with fail
        with_reducible refine HC.out.mono ?_
        rintro e w2 ⟨rfl, hb2⟩
        have HB3 := Lib.hid hb2
        clear q0 q1 q2 q3 q4 q5 q6 q7 k0 k1 k2 k3 k4 k5 k6 k7 hW1 hW2
        have xq := HXQ.out w2 hb2
        have m8 := xq.at' 8 _ rfl
        have m9 := xq.at' 9 _ rfl
        have m10 := xq.at' 10 _ rfl
        have m11 := xq.at' 11 _ rfl
        have m12 := xq.at' 12 _ rfl
        have m13 := xq.at' 13 _ rfl
        try simp only at m8 m9 m10 m11 m12 m13
        have c := HCB.out w2 hb2
        have k0 := c.k0
        have k1 := c.k1
        have k2 := c.k2
        have k3 := c.k3
        have k4 := c.k4
        have k5 := c.k5
        have k6 := c.k6
        have k7 := c.k7
        clear c xq
        try simp only at k0 k1 k2 k3 k4 k5 k6 k7
        clear hb2
        go_wp2_with fail
        go_ret
        exact ⟨ret_int HE.out.symm, HB2.out.trans (HB3.out.mono HB2.out.size)⟩
      · have HN : Hid (¬ (bad < 0 ∨ (x.bads.length : Int) ≤ bad)) := fun h => h.elim hlo hhi
        by_cases h64 : 64 < n
        · have HE : Hid (unrE x A bad = 3) := unrE_many HOK.out HN.out (by omega)
          go_enter Tryz.func16, Tryz.ntmps16
          go_wp2_with fail
          with_reducible refine HC.out.mono ?_
          rintro e w2 ⟨rfl, hb2⟩
          have HB3 := Lib.hid hb2
          clear q0 q1 q2 q3 q4 q5 q6 q7 k0 k1 k2 k3 k4 k5 k6 k7 hW1 hW2
          have xq := HXQ.out w2 hb2
          have m8 := xq.at' 8 _ rfl
          have m9 := xq.at' 9 _ rfl
          have m10 := xq.at' 10 _ rfl
          have m11 := xq.at' 11 _ rfl
          have m12 := xq.at' 12 _ rfl
          have m13 := xq.at' 13 _ rfl
          try simp only at m8 m9 m10 m11 m12 m13
          have c := HCB.out w2 hb2
          have k0 := c.k0
          have k1 := c.k1
          have k2 := c.k2
          have k3 := c.k3
          have k4 := c.k4
          have k5 := c.k5
          have k6 := c.k6
          have k7 := c.k7
          clear c xq
          try simp only at k0 k1 k2 k3 k4 k5 k6 k7
          clear hb2
          go_wp2_with fail
          go_ret
          exact ⟨ret_int HE.out.symm, HB2.out.trans (HB3.out.mono HB2.out.size)⟩
        · have H64 : Hid (¬ 64 < A.length) := by show ¬ _; omega
          have HGV := fun (U : World) (hU : Below W2.heap.size W2 U) (B : Nat) (hB : CBox B x ⟨a1, c1, a2, c2, a3, c3, a4, c4, a5, c5, a6, c6, a7, c7⟩ U) => SlfR.containsFunc U aA n cA vals 72 #[] #[.pointer (some ⟨B, 0, none⟩)] (A.map (strangeU x.max)) (HA.out U hU).sl (by rw [List.length_map, HAL.out]) eg_str (by
              intro V hV j v q hv hq
              rw [List.getElem?_map, Option.map_eq_some_iff] at hq
              obtain ⟨l, hl, rfl⟩ := hq
              have hVU := hU.trans (hV.mono hU.size)
              obtain ⟨a', c', rfl, hs⟩ := (HA.out V hVU).row j v l hv hl
              exact str1_any V B x _ (hB.next hV (Nat.le_refl _)) HOK.out.1.1 HOK.out.1.2.1 a' l.length c' l hs (fun y hy => HA64.out y (List.mem_flatten.2 ⟨l, List.mem_of_getElem? hl, hy⟩)))
          have HGN := Lib.hid (fun (U : World) (B : Nat) => SlfR.containsFunc U none 0 0 [] 72 #[] #[.pointer (some ⟨B, 0, none⟩)] [] (Sl.nil U) rfl eg_str (by intro V hV j v q hv; simp at hv))
          have HGK := Lib.hid (fun (U : World) (B : Nat) => SlfR.containsFunc U none 0 0 [] 41 #[] #[.pointer (some ⟨B, 0, none⟩)] [] (Sl.nil U) rfl eg_chk1 (by intro V hV j v q hv; simp at hv))
          have hany : ((A.map (strangeU x.max)).any id) = A.any (strangeU x.max) := by rw [List.any_map]; rfl
          rw [hany] at HGV
          have HGV := Lib.hid HGV
          clear hany hal
          cases hq : A.any (strangeU x.max)
          · have HE : Hid (unrE x A bad = 0) := unrE_ok HOK.out HN.out H64.out hq
            rw [hq] at HGV
            clear hq
            go_enter Tryz.func16, Tryz.ntmps16
            go_wp2_with fail
            with_reducible refine HC.out.mono ?_
            rintro e w2 ⟨rfl, hb2⟩
            have HB3 := Lib.hid hb2
            clear q0 q1 q2 q3 q4 q5 q6 q7 k0 k1 k2 k3 k4 k5 k6 k7 hW1 hW2
            have xq := HXQ.out w2 hb2
            have m8 := xq.at' 8 _ rfl
            have m9 := xq.at' 9 _ rfl
            have m10 := xq.at' 10 _ rfl
            have m11 := xq.at' 11 _ rfl
            have m12 := xq.at' 12 _ rfl
            have m13 := xq.at' 13 _ rfl
            try simp only at m8 m9 m10 m11 m12 m13
            have c := HCB.out w2 hb2
            have k0 := c.k0
            have k1 := c.k1
            have k2 := c.k2
            have k3 := c.k3
            have k4 := c.k4
            have k5 := c.k5
            have k6 := c.k6
            have k7 := c.k7
            clear c xq
            try simp only at k0 k1 k2 k3 k4 k5 k6 k7
            clear hb2
            go_upto_region 8 with fail
            have hSK : ∀ U : World, Below w2.heap.size w2 U → U.cell? ⟨W1.heap.size, 0, none⟩ = some (.int .i64 x.max) ∧ U.cell? ⟨W1.heap.size, 1, none⟩ = some (.slice a1 x.ins.length c1) ∧ U.cell? ⟨W1.heap.size, 2, none⟩ = some (.slice a2 x.lats.length c2) ∧ U.cell? ⟨W1.heap.size, 3, none⟩ = some (.slice a3 x.outs.length c3) ∧ U.cell? ⟨W1.heap.size, 4, none⟩ = some (.slice a4 x.bads.length c4) ∧ U.cell? ⟨W1.heap.size, 5, none⟩ = some (.slice a5 x.invs.length c5) ∧ U.cell? ⟨W1.heap.size, 6, none⟩ = some (.slice a6 x.ands.length c6) ∧ U.cell? ⟨W1.heap.size, 7, none⟩ = some (.slice a7 x.names.length c7) ∧ U.cell? ⟨w.heap.size, 8, none⟩ = some (.slice aA n cA) ∧ U.cell? ⟨w.heap.size, 9, none⟩ = some (.slice none 0 0) := fun U hU => by
              have c := HCB.out U (HB3.out.trans (hU.mono HB3.out.size))
              have d := HXQ.out U (HB3.out.trans (hU.mono HB3.out.size))
              exact ⟨c.k0, c.k1, c.k2, c.k3, c.k4, c.k5, c.k6, c.k7, d.at' 8 _ rfl, d.at' 9 _ rfl⟩
            have hS0 := hSK _ (Below.refl w2.heap.size w2).drew
            refine HeldAll.region (fun U : World => U.cell? ⟨W1.heap.size, 0, none⟩ = some (.int .i64 x.max) ∧ U.cell? ⟨W1.heap.size, 1, none⟩ = some (.slice a1 x.ins.length c1) ∧ U.cell? ⟨W1.heap.size, 2, none⟩ = some (.slice a2 x.lats.length c2) ∧ U.cell? ⟨W1.heap.size, 3, none⟩ = some (.slice a3 x.outs.length c3) ∧ U.cell? ⟨W1.heap.size, 4, none⟩ = some (.slice a4 x.bads.length c4) ∧ U.cell? ⟨W1.heap.size, 5, none⟩ = some (.slice a5 x.invs.length c5) ∧ U.cell? ⟨W1.heap.size, 6, none⟩ = some (.slice a6 x.ands.length c6) ∧ U.cell? ⟨W1.heap.size, 7, none⟩ = some (.slice a7 x.names.length c7) ∧ U.cell? ⟨w.heap.size, 8, none⟩ = some (.slice aA n cA) ∧ U.cell? ⟨w.heap.size, 9, none⟩ = some (.slice none 0 0)) (by kernel_rfl) ?_
            (refine HeldAll.take (i := 0) (oi := _) (d := some 60) (v := ?_) rfl rfl (by kernel_rfl) (by kernel_rfl) (by kernel_rfl) (fun _ _ _ h => h) (Or.inl ⟨by rfl, ?_⟩) hS0 ?_; rotate_left; (focus (intro w hSw; clear hSw; go_simp; (try with_reducible rfl); done)); (try simp only [Act.put, List.setIfInBounds_toArray, List.set_cons_zero, List.set_cons_succ]))
            (refine HeldAll.take (i := 1) (oi := _) (d := some 61) (v := ?_) rfl rfl (by kernel_rfl) (by kernel_rfl) (by kernel_rfl) (fun _ _ _ h => h) (Or.inl ⟨by rfl, ?_⟩) hS0 ?_; rotate_left; (focus (intro w hSw; (try dsimp only at hSw); go_simp; (try with_reducible rfl); done)); (try simp only [Act.put, List.setIfInBounds_toArray, List.set_cons_zero, List.set_cons_succ]))
            (refine HeldAll.take (i := 2) (oi := _) (d := some 62) (v := ?_) rfl rfl (by kernel_rfl) (by kernel_rfl) (by kernel_rfl) (fun _ _ _ h => h) (Or.inl ⟨by rfl, ?_⟩) hS0 ?_; rotate_left; (focus (intro w hSw; (try dsimp only at hSw); go_simp; (try with_reducible rfl); done)); (try simp only [Act.put, List.setIfInBounds_toArray, List.set_cons_zero, List.set_cons_succ]))
            refine HeldAll.one (i := 3) (by kernel_rfl) ?_
            refine HeldAll.opCall (i := 3) (oi := _) (d := some 63) (R := fun v w' => v = .func (.func 72) #[] #[.pointer (some ⟨w2.drew.heap.size, 0, none⟩)] ∧ CBox w2.drew.heap.size x ⟨a1, c1, a2, c2, a3, c3, a4, c4, a5, c5, a6, c6, a7, c7⟩ w' ∧ Below w2.drew.heap.size w2.drew w') rfl rfl (by rfl) (by go_simp; rfl) ((str_any w2.drew x ⟨a1, c1, a2, c2, a3, c3, a4, c4, a5, c5, a6, c6, a7, c7⟩).mono fun e w' h => ⟨_, h.1, rfl, h.2⟩) ?_
            rintro v w6 ⟨rfl, hcb6, hb6⟩
            have hb6 : Below w2.heap.size w2 w6 := (Below.refl w2.heap.size w2).drew.trans (hb6.mono (Below.refl w2.heap.size w2).drew.size)
            refine ⟨hSK _ hb6, ?_⟩
            (try simp only [Act.put, List.setIfInBounds_toArray, List.set_cons_zero, List.set_cons_succ])
            have hS0 := hSK _ hb6
            refine HeldAll.one (i := 4) (by kernel_rfl) ?_
            refine HeldAll.opCall (i := 4) (oi := _) (d := some 64) (R := fun v w' => v = .bool false ∧ Below w6.heap.size w6 w') rfl rfl (by rfl) (by go_simp; done) ((HGV.out w6 (HB3.out.trans (hb6.mono HB3.out.size)) _ hcb6).mono fun e w' h => ⟨_, h.1, rfl, h.2⟩) ?_
            rintro v w7 ⟨rfl, hb7⟩
            have hb7 : Below w2.heap.size w2 w7 := hb6.trans (hb7.mono hb6.size)
            refine ⟨hSK _ hb7, ?_⟩
            (try simp only [Act.put, List.setIfInBounds_toArray, List.set_cons_zero, List.set_cons_succ])
            have hS0 := hSK _ hb7
            (refine HeldAll.take (i := 5) (oi := _) (d := some 65) (v := ?_) rfl rfl (by kernel_rfl) (by kernel_rfl) (by kernel_rfl) (fun _ _ _ h => h) (Or.inl ⟨by rfl, ?_⟩) hS0 ?_; rotate_left; (focus (intro w hSw; clear hSw; go_simp; (try with_reducible rfl); done)); (try simp only [Act.put, List.setIfInBounds_toArray, List.set_cons_zero, List.set_cons_succ]))
            (refine HeldAll.take (i := 6) (oi := _) (d := some 66) (v := ?_) rfl rfl (by kernel_rfl) (by kernel_rfl) (by kernel_rfl) (fun _ _ _ h => h) (Or.inl ⟨by rfl, ?_⟩) hS0 ?_; rotate_left; (focus (intro w hSw; clear hSw; go_simp; (try with_reducible rfl); done)); (try simp only [Act.put, List.setIfInBounds_toArray, List.set_cons_zero, List.set_cons_succ]))
            (refine HeldAll.take (i := 7) (oi := _) (d := some 67) (v := ?_) rfl rfl (by kernel_rfl) (by kernel_rfl) (by kernel_rfl) (fun _ _ _ h => h) (Or.inl ⟨by rfl, ?_⟩) hS0 ?_; rotate_left; (focus (intro w hSw; (try dsimp only at hSw); go_simp; (try with_reducible rfl); done)); (try simp only [Act.put, List.setIfInBounds_toArray, List.set_cons_zero, List.set_cons_succ]))
            (refine HeldAll.take (i := 8) (oi := _) (d := some 68) (v := ?_) rfl rfl (by kernel_rfl) (by kernel_rfl) (by kernel_rfl) (fun _ _ _ h => h) (Or.inl ⟨by rfl, ?_⟩) hS0 ?_; rotate_left; (focus (intro w hSw; (try dsimp only at hSw); go_simp; (try with_reducible rfl); done)); (try simp only [Act.put, List.setIfInBounds_toArray, List.set_cons_zero, List.set_cons_succ]))
            refine HeldAll.one (i := 9) (by kernel_rfl) ?_
            refine HeldAll.opCall (i := 9) (oi := _) (d := some 69) (R := fun v w' => v = .func (.func 72) #[] #[.pointer (some ⟨w7.heap.size, 0, none⟩)] ∧ Below w7.heap.size w7 w') rfl rfl (by rfl) (by go_simp; rfl) ((str_any w7 x ⟨a1, c1, a2, c2, a3, c3, a4, c4, a5, c5, a6, c6, a7, c7⟩).mono fun e w' h => ⟨_, h.1, rfl, h.2.2⟩) ?_
            rintro v w8 ⟨rfl, hb8⟩
            have hb8 : Below w2.heap.size w2 w8 := hb7.trans (hb8.mono hb7.size)
            refine ⟨hSK _ hb8, ?_⟩
            (try simp only [Act.put, List.setIfInBounds_toArray, List.set_cons_zero, List.set_cons_succ])
            have hS0 := hSK _ hb8
            refine HeldAll.one (i := 10) (by kernel_rfl) ?_
            refine HeldAll.opCall (i := 10) (oi := _) (d := some 70) (R := fun v w' => v = .bool false ∧ Below w8.heap.size w8 w') rfl rfl (by rfl) (by go_simp; done) ((HGN.out w8 w7.heap.size).mono fun e w' h => ⟨_, h.1, rfl, h.2⟩) ?_
            rintro v w9 ⟨rfl, hb9⟩
            have hb9 : Below w2.heap.size w2 w9 := hb8.trans (hb9.mono hb8.size)
            refine ⟨hSK _ hb9, ?_⟩
            (try simp only [Act.put, List.setIfInBounds_toArray, List.set_cons_zero, List.set_cons_succ])
            have hS0 := hSK _ hb9
            (refine HeldAll.take (i := 11) (oi := _) (d := some 71) (v := ?_) rfl rfl (by kernel_rfl) (by kernel_rfl) (by kernel_rfl) (fun _ _ _ h => h) (Or.inl ⟨by rfl, ?_⟩) hS0 ?_; rotate_left; (focus (intro w hSw; clear hSw; go_simp; (try with_reducible rfl); done)); (try simp only [Act.put, List.setIfInBounds_toArray, List.set_cons_zero, List.set_cons_succ]))
            (refine HeldAll.take (i := 12) (oi := _) (d := some 59) (v := ?_) rfl rfl (by kernel_rfl) (by kernel_rfl) (by kernel_rfl) (fun _ _ _ h => h) (Or.inl ⟨by rfl, ?_⟩) hS0 ?_; rotate_left; (focus (intro w hSw; clear hSw; go_simp; (try with_reducible rfl); done)); (try simp only [Act.put, List.setIfInBounds_toArray, List.set_cons_zero, List.set_cons_succ]))
            refine HeldAll.done (by kernel_rfl) ?_ _
            have HB9 := Lib.hid (HB3.out.trans (hb9.mono HB3.out.size))
            clear hS0 hSK hb6 hb7 hb8 hb9 hcb6
            have xq := HXQ.out w9 HB9.out
            have m10 := xq.at' 10 _ rfl
            try simp only at m10
            clear xq m8 m9 m11 m12 m13 k0 k1 k2 k3 k4 k5 k6 k7
            go_wp2_with fail
            with_reducible refine (HGK.out w9 _).mono ?_
            rintro e w10 ⟨rfl, hb10⟩
            have HB10 := Lib.hid (HB9.out.trans (hb10.mono HB9.out.size))
            clear hb10 m10
            go_wp2_with fail
            go_ret
            exact ⟨ret_int HE.out.symm, HB2.out.trans (HB10.out.mono HB2.out.size)⟩
          · have HE : Hid (unrE x A bad = 23) := unrE_kind HOK.out HN.out H64.out hq
            rw [hq] at HGV
            clear hq
            go_enter Tryz.func16, Tryz.ntmps16
            go_wp2_with fail
            with_reducible refine HC.out.mono ?_
            rintro e w2 ⟨rfl, hb2⟩
            have HB3 := Lib.hid hb2
            clear q0 q1 q2 q3 q4 q5 q6 q7 k0 k1 k2 k3 k4 k5 k6 k7 hW1 hW2
            have xq := HXQ.out w2 hb2
            have m8 := xq.at' 8 _ rfl
            have m9 := xq.at' 9 _ rfl
            have m10 := xq.at' 10 _ rfl
            have m11 := xq.at' 11 _ rfl
            have m12 := xq.at' 12 _ rfl
            have m13 := xq.at' 13 _ rfl
            try simp only at m8 m9 m10 m11 m12 m13
            have c := HCB.out w2 hb2
            have k0 := c.k0
            have k1 := c.k1
            have k2 := c.k2
            have k3 := c.k3
            have k4 := c.k4
            have k5 := c.k5
            have k6 := c.k6
            have k7 := c.k7
            clear c xq
            try simp only at k0 k1 k2 k3 k4 k5 k6 k7
            clear hb2
            go_upto_region 8 with fail
            have hSK : ∀ U : World, Below w2.heap.size w2 U → U.cell? ⟨W1.heap.size, 0, none⟩ = some (.int .i64 x.max) ∧ U.cell? ⟨W1.heap.size, 1, none⟩ = some (.slice a1 x.ins.length c1) ∧ U.cell? ⟨W1.heap.size, 2, none⟩ = some (.slice a2 x.lats.length c2) ∧ U.cell? ⟨W1.heap.size, 3, none⟩ = some (.slice a3 x.outs.length c3) ∧ U.cell? ⟨W1.heap.size, 4, none⟩ = some (.slice a4 x.bads.length c4) ∧ U.cell? ⟨W1.heap.size, 5, none⟩ = some (.slice a5 x.invs.length c5) ∧ U.cell? ⟨W1.heap.size, 6, none⟩ = some (.slice a6 x.ands.length c6) ∧ U.cell? ⟨W1.heap.size, 7, none⟩ = some (.slice a7 x.names.length c7) ∧ U.cell? ⟨w.heap.size, 8, none⟩ = some (.slice aA n cA) ∧ U.cell? ⟨w.heap.size, 9, none⟩ = some (.slice none 0 0) := fun U hU => by
              have c := HCB.out U (HB3.out.trans (hU.mono HB3.out.size))
              have d := HXQ.out U (HB3.out.trans (hU.mono HB3.out.size))
              exact ⟨c.k0, c.k1, c.k2, c.k3, c.k4, c.k5, c.k6, c.k7, d.at' 8 _ rfl, d.at' 9 _ rfl⟩
            have hS0 := hSK _ (Below.refl w2.heap.size w2).drew
            refine HeldAll.region (fun U : World => U.cell? ⟨W1.heap.size, 0, none⟩ = some (.int .i64 x.max) ∧ U.cell? ⟨W1.heap.size, 1, none⟩ = some (.slice a1 x.ins.length c1) ∧ U.cell? ⟨W1.heap.size, 2, none⟩ = some (.slice a2 x.lats.length c2) ∧ U.cell? ⟨W1.heap.size, 3, none⟩ = some (.slice a3 x.outs.length c3) ∧ U.cell? ⟨W1.heap.size, 4, none⟩ = some (.slice a4 x.bads.length c4) ∧ U.cell? ⟨W1.heap.size, 5, none⟩ = some (.slice a5 x.invs.length c5) ∧ U.cell? ⟨W1.heap.size, 6, none⟩ = some (.slice a6 x.ands.length c6) ∧ U.cell? ⟨W1.heap.size, 7, none⟩ = some (.slice a7 x.names.length c7) ∧ U.cell? ⟨w.heap.size, 8, none⟩ = some (.slice aA n cA) ∧ U.cell? ⟨w.heap.size, 9, none⟩ = some (.slice none 0 0)) (by kernel_rfl) ?_
            (refine HeldAll.take (i := 0) (oi := _) (d := some 60) (v := ?_) rfl rfl (by kernel_rfl) (by kernel_rfl) (by kernel_rfl) (fun _ _ _ h => h) (Or.inl ⟨by rfl, ?_⟩) hS0 ?_; rotate_left; (focus (intro w hSw; clear hSw; go_simp; (try with_reducible rfl); done)); (try simp only [Act.put, List.setIfInBounds_toArray, List.set_cons_zero, List.set_cons_succ]))
            (refine HeldAll.take (i := 1) (oi := _) (d := some 61) (v := ?_) rfl rfl (by kernel_rfl) (by kernel_rfl) (by kernel_rfl) (fun _ _ _ h => h) (Or.inl ⟨by rfl, ?_⟩) hS0 ?_; rotate_left; (focus (intro w hSw; (try dsimp only at hSw); go_simp; (try with_reducible rfl); done)); (try simp only [Act.put, List.setIfInBounds_toArray, List.set_cons_zero, List.set_cons_succ]))
            (refine HeldAll.take (i := 2) (oi := _) (d := some 62) (v := ?_) rfl rfl (by kernel_rfl) (by kernel_rfl) (by kernel_rfl) (fun _ _ _ h => h) (Or.inl ⟨by rfl, ?_⟩) hS0 ?_; rotate_left; (focus (intro w hSw; (try dsimp only at hSw); go_simp; (try with_reducible rfl); done)); (try simp only [Act.put, List.setIfInBounds_toArray, List.set_cons_zero, List.set_cons_succ]))
            refine HeldAll.one (i := 3) (by kernel_rfl) ?_
            refine HeldAll.opCall (i := 3) (oi := _) (d := some 63) (R := fun v w' => v = .func (.func 72) #[] #[.pointer (some ⟨w2.drew.heap.size, 0, none⟩)] ∧ CBox w2.drew.heap.size x ⟨a1, c1, a2, c2, a3, c3, a4, c4, a5, c5, a6, c6, a7, c7⟩ w' ∧ Below w2.drew.heap.size w2.drew w') rfl rfl (by rfl) (by go_simp; rfl) ((str_any w2.drew x ⟨a1, c1, a2, c2, a3, c3, a4, c4, a5, c5, a6, c6, a7, c7⟩).mono fun e w' h => ⟨_, h.1, rfl, h.2⟩) ?_
            rintro v w6 ⟨rfl, hcb6, hb6⟩
            have hb6 : Below w2.heap.size w2 w6 := (Below.refl w2.heap.size w2).drew.trans (hb6.mono (Below.refl w2.heap.size w2).drew.size)
            refine ⟨hSK _ hb6, ?_⟩
            (try simp only [Act.put, List.setIfInBounds_toArray, List.set_cons_zero, List.set_cons_succ])
            have hS0 := hSK _ hb6
            refine HeldAll.one (i := 4) (by kernel_rfl) ?_
            refine HeldAll.opCall (i := 4) (oi := _) (d := some 64) (R := fun v w' => v = .bool true ∧ Below w6.heap.size w6 w') rfl rfl (by rfl) (by go_simp; done) ((HGV.out w6 (HB3.out.trans (hb6.mono HB3.out.size)) _ hcb6).mono fun e w' h => ⟨_, h.1, rfl, h.2⟩) ?_
            rintro v w7 ⟨rfl, hb7⟩
            have hb7 : Below w2.heap.size w2 w7 := hb6.trans (hb7.mono hb6.size)
            refine ⟨hSK _ hb7, ?_⟩
            (try simp only [Act.put, List.setIfInBounds_toArray, List.set_cons_zero, List.set_cons_succ])
            have hS0 := hSK _ hb7
            (refine HeldAll.take (i := 5) (oi := _) (d := some 65) (v := ?_) rfl rfl (by kernel_rfl) (by kernel_rfl) (by kernel_rfl) (fun _ _ _ h => h) (Or.inl ⟨by rfl, ?_⟩) hS0 ?_; rotate_left; (focus (intro w hSw; clear hSw; go_simp; (try with_reducible rfl); done)); (try simp only [Act.put, List.setIfInBounds_toArray, List.set_cons_zero, List.set_cons_succ]))
            (refine HeldAll.take (i := 6) (oi := _) (d := some 66) (v := undef) rfl rfl (by kernel_rfl) (by kernel_rfl) (by kernel_rfl) (fun _ _ _ h => h) (Or.inr ⟨by rfl, rfl⟩) hS0 ?_; (try simp only [Act.put, List.setIfInBounds_toArray, List.set_cons_zero, List.set_cons_succ]))
            (refine HeldAll.take (i := 7) (oi := _) (d := some 67) (v := undef) rfl rfl (by kernel_rfl) (by kernel_rfl) (by kernel_rfl) (fun _ _ _ h => h) (Or.inr ⟨by rfl, rfl⟩) hS0 ?_; (try simp only [Act.put, List.setIfInBounds_toArray, List.set_cons_zero, List.set_cons_succ]))
            (refine HeldAll.take (i := 8) (oi := _) (d := some 68) (v := undef) rfl rfl (by kernel_rfl) (by kernel_rfl) (by kernel_rfl) (fun _ _ _ h => h) (Or.inr ⟨by rfl, rfl⟩) hS0 ?_; (try simp only [Act.put, List.setIfInBounds_toArray, List.set_cons_zero, List.set_cons_succ]))
            (refine HeldAll.one (i := 9) (by kernel_rfl) ?_; refine opOff (i := 9) (oi := _) (d := some 69) rfl rfl (by rfl) hS0 ?_; (try simp only [Act.put, List.setIfInBounds_toArray, List.set_cons_zero, List.set_cons_succ]))
            (refine HeldAll.one (i := 10) (by kernel_rfl) ?_; refine opOff (i := 10) (oi := _) (d := some 70) rfl rfl (by rfl) hS0 ?_; (try simp only [Act.put, List.setIfInBounds_toArray, List.set_cons_zero, List.set_cons_succ]))
            (refine HeldAll.take (i := 11) (oi := _) (d := some 71) (v := ?_) rfl rfl (by kernel_rfl) (by kernel_rfl) (by kernel_rfl) (fun _ _ _ h => h) (Or.inl ⟨by rfl, ?_⟩) hS0 ?_; rotate_left; (focus (intro w hSw; clear hSw; go_simp; (try with_reducible rfl); done)); (try simp only [Act.put, List.setIfInBounds_toArray, List.set_cons_zero, List.set_cons_succ]))
            (refine HeldAll.take (i := 12) (oi := _) (d := some 59) (v := ?_) rfl rfl (by kernel_rfl) (by kernel_rfl) (by kernel_rfl) (fun _ _ _ h => h) (Or.inl ⟨by rfl, ?_⟩) hS0 ?_; rotate_left; (focus (intro w hSw; clear hSw; go_simp; (try with_reducible rfl); done)); (try simp only [Act.put, List.setIfInBounds_toArray, List.set_cons_zero, List.set_cons_succ]))
            refine HeldAll.done (by kernel_rfl) ?_ _
            have HB7 := Lib.hid (HB3.out.trans (hb7.mono HB3.out.size))
            clear hS0 hSK hb6 hb7 hcb6
            clear m8 m9 m10 m11 m12 m13 k0 k1 k2 k3 k4 k5 k6 k7
            go_wp2_with fail
            go_ret
            exact ⟨ret_int HE.out.symm, HB2.out.trans (HB7.out.mono HB2.out.size)⟩
  · rw [chk_neg hok] at HC
    have HE : Hid (unrE x A bad = 9) := unrE_no hok A bad
    clear hin hw hA hA64 hb1' hx1 hb2' hc2 hb12 hok
    go_enter Tryz.func16, Tryz.ntmps16
    go_wp2_with fail
    with_reducible refine HC.out.mono ?_
    rintro e w2 ⟨rfl, hb2⟩
    have HB3 := Lib.hid hb2
    clear q0 q1 q2 q3 q4 q5 q6 q7 k0 k1 k2 k3 k4 k5 k6 k7 hW1 hW2
    clear hb2
    go_wp2_with fail
    go_ret
    exact ⟨ret_int HE.out.symm, HB2.out.trans (HB3.out.mono HB2.out.size)⟩
end Unroll
end Go.Proofs.YtjmmhbmbafjneaaGreatDoor

/-
  enum.Check of a question without lemmas (written by enumk.py).
-/
namespace Go.Proofs.YtjmmhbmbafjneaaGreatDoor
open Go.RowKit Base Go.Maps
set_option linter.unusedVariables false
set_option linter.unusedSimpArgs false
namespace EnumC
open Circuit BadP StrashP SimV EnumA EnumP GetI MapG Coi EnumW Order Unroll

def zeroV : Array Value := #[.int .i64 0, .int .i64 0, .string ⟨#[]⟩, .slice none 0 0, .slice none 0 0, .slice none 0 0, .int .i64 0]
theorem set7 {N : Nat} {u0 u1 u2 u3 u4 u5 u6 : Value} {w : World} (h : BoxN N [u0, u1, u2, u3, u4, u5, u6] w) (v0 v1 v2 v3 v4 v5 v6 : Value) :
    BoxN N [v0, v1, v2, v3, v4, v5, v6] (((((((w.setCell ⟨N, 0, none⟩ v0).setCell ⟨N, 1, none⟩ v1).setCell ⟨N, 2, none⟩ v2).setCell ⟨N, 3, none⟩ v3).setCell ⟨N, 4, none⟩ v4).setCell ⟨N, 5, none⟩ v5).setCell ⟨N, 6, none⟩ v6) :=
  ((((((h.set 0 v0).set 1 v1).set 2 v2).set 3 v3).set 4 v4).set 5 v5).set 6 v6
theorem below7 {B N : Nat} {a w : World} (h : Below B a w) (hN : B ≤ N) (v0 v1 v2 v3 v4 v5 v6 : Value) :
    Below B a (((((((w.setCell ⟨N, 0, none⟩ v0).setCell ⟨N, 1, none⟩ v1).setCell ⟨N, 2, none⟩ v2).setCell ⟨N, 3, none⟩ v3).setCell ⟨N, 4, none⟩ v4).setCell ⟨N, 5, none⟩ v5).setCell ⟨N, 6, none⟩ v6) :=
  ((((((h.setCell (p := ⟨N, 0, none⟩) hN v0).setCell (p := ⟨N, 1, none⟩) hN v1).setCell (p := ⟨N, 2, none⟩) hN v2).setCell (p := ⟨N, 3, none⟩) hN v3).setCell (p := ⟨N, 4, none⟩) hN v4).setCell (p := ⟨N, 5, none⟩) hN v5).setCell (p := ⟨N, 6, none⟩) hN v6

theorem ownset7 {w : World} {B N : Nat} {e : TypeId} {size : Nat} {v : Value} {n : Nat} {xs : List Value} (h : w.ownsRow B e size v n xs) (hN : N < B) (v0 v1 v2 v3 v4 v5 v6 : Value) :
    World.ownsRow (((((((w.setCell ⟨N, 0, none⟩ v0).setCell ⟨N, 1, none⟩ v1).setCell ⟨N, 2, none⟩ v2).setCell ⟨N, 3, none⟩ v3).setCell ⟨N, 4, none⟩ v4).setCell ⟨N, 5, none⟩ v5).setCell ⟨N, 6, none⟩ v6) B e size v n xs :=
  Go.RowKit.ownsRow_setCell_below (Go.RowKit.ownsRow_setCell_below (Go.RowKit.ownsRow_setCell_below (Go.RowKit.ownsRow_setCell_below (Go.RowKit.ownsRow_setCell_below (Go.RowKit.ownsRow_setCell_below (Go.RowKit.ownsRow_setCell_below h (a := ⟨N, 0, none⟩) hN _) (a := ⟨N, 1, none⟩) hN _) (a := ⟨N, 2, none⟩) hN _) (a := ⟨N, 3, none⟩) hN _) (a := ⟨N, 4, none⟩) hN _) (a := ⟨N, 5, none⟩) hN _) (a := ⟨N, 6, none⟩) hN _
theorem own2set7 {w : World} {B N : Nat} {e1 e0 : TypeId} {v : Value} {n : Nat} {vals : List Value} {xss : List (List Int)} (h : Own2 w B e1 e0 v n vals xss) (hN : N < B) (v0 v1 v2 v3 v4 v5 v6 : Value) :
    Own2 (((((((w.setCell ⟨N, 0, none⟩ v0).setCell ⟨N, 1, none⟩ v1).setCell ⟨N, 2, none⟩ v2).setCell ⟨N, 3, none⟩ v3).setCell ⟨N, 4, none⟩ v4).setCell ⟨N, 5, none⟩ v5).setCell ⟨N, 6, none⟩ v6) B e1 e0 v n vals xss :=
  ((((((h.set (a := ⟨N, 0, none⟩) hN v0).set (a := ⟨N, 1, none⟩) hN v1).set (a := ⟨N, 2, none⟩) hN v2).set (a := ⟨N, 3, none⟩) hN v3).set (a := ⟨N, 4, none⟩) hN v4).set (a := ⟨N, 5, none⟩) hN v5).set (a := ⟨N, 6, none⟩) hN v6

/-- What enum.Check tells of a question that may be, of few latches and inputs. -/
def CheckOut (x : Circ) (A : List (List Int)) (kb : Nat) (bl : Int) (B : Nat) (e : Ending) (w2 : World) : Prop :=
  ∃ O, Known x A O ∧ O.length ≤ 1024 ∧
    ((∃ s i n s0 ins a c, (s, n) ∈ O ∧ badIn x A bl s = some i ∧ (∀ e ∈ O, badIn x A bl e.1 ≠ none → ¬ ltO O e.1 s) ∧ Tail x A O s0 0 ins s n ∧ (s0, 0) ∈ O ∧
        e = .returned (.tuple #[.agg #[.int .i64 2, .int .i64 kb, .string (bs s0), .slice a (n + 1) c, .slice none 0 0, .slice none 0 0, .int .i64 O.length], .int .i64 0]) ∧
        Sl w2 a (n + 1) c (txt (ins ++ [i]))) ∨
     ((∀ e ∈ O, badIn x A bl e.1 = none) ∧ ∃ a c vals,
        e = .returned (.tuple #[.agg #[.int .i64 1, .int .i64 0, .string ⟨#[]⟩, .slice none 0 0, .slice a (outs O (allL x.lats.length)).length c, .slice none 0 0, .int .i64 O.length], .int .i64 0]) ∧
        Sl2 w2 a (outs O (allL x.lats.length)).length c vals (outs O (allL x.lats.length))))

set_option maxRecDepth 8000 in
set_option maxHeartbeats 16000000 in
theorem check_no (w : World) (x : Circ) (p : At) (hin : InCirc w x p) (hw : WfC x) (aA : Option Addr) (n cA : Nat) (vals : List Value) (A : List (List Int)) (hA : Sl2 w aA n cA vals A) (hA64 : ∀ y ∈ A.flatten, -9223372036854775808 ≤ y ∧ y ≤ 9223372036854775807) (bad : Int) (hb0 : -9223372036854775808 ≤ bad) (hb1 : bad ≤ 9223372036854775807) (hne : unrE x A bad ≠ 0) :
    Calls Tryz.prog 15 #[.agg (qcells x p aA n cA bad)] w fun e w' => e = .returned (.tuple #[.agg zeroV, .int .i64 (unrE x A bad)]) ∧ Below w.heap.size w w' := by
  obtain ⟨W1, hW1⟩ : ∃ U, w.alloc (.cells (qcells x p aA n cA bad) 42) = U := ⟨_, rfl⟩
  obtain ⟨W2, hW2⟩ : ∃ U, W1.alloc (.cells zeroV 47) = U := ⟨_, rfl⟩
  have hb1' : Below w.heap.size w W1 := by rw [← hW1]; exact (Below.refl _ _).alloc (Nat.le_refl _) _
  have hx1 : BoxN w.heap.size (qcells x p aA n cA bad).toList W1 := by rw [← hW1]; exact BoxN.new w _ _
  have hb2' : Below W1.heap.size W1 W2 := by rw [← hW2]; exact (Below.refl _ _).alloc (Nat.le_refl _) _
  have hx2 : BoxN W1.heap.size zeroV.toList W2 := by rw [← hW2]; exact BoxN.new W1 _ _
  have hb12 := hb1'.trans (hb2'.mono hb1'.size)
  have HB2 := Lib.hid hb12
  have HU := Lib.hid (unroll_any W2 x p (hin.next hb12) hw aA n cA vals A (hA.next hb12) hA64 bad hb0 hb1)
  have HXQ := fun (U : World) (hU : Below W2.heap.size W2 U) => (hx1.next hb2' hx1.lt).next hU (Nat.lt_of_lt_of_le hx1.lt hb2'.size)
  have HXV := fun (U : World) (hU : Below W2.heap.size W2 U) => hx2.next hU hx2.lt
  have HN1 : Hid (w.heap.size ≤ W1.heap.size) := hb1'.size
  have hq := hx1.next hb2' hx1.lt
  have hnb : (unrE x A bad != 0) = true := by simpa using hne
  obtain ⟨a1, c1, a2, c2, a3, c3, a4, c4, a5, c5, a6, c6, a7, c7⟩ := p
  simp only [cells, qcells, zeroV] at *
  have q0 := hq.at' 0 _ rfl
  have q1 := hq.at' 1 _ rfl
  have q2 := hq.at' 2 _ rfl
  have q3 := hq.at' 3 _ rfl
  have q4 := hq.at' 4 _ rfl
  have q5 := hq.at' 5 _ rfl
  have q6 := hq.at' 6 _ rfl
  have q7 := hq.at' 7 _ rfl
  have q8 := hq.at' 8 _ rfl
  have q9 := hq.at' 9 _ rfl
  have q10 := hq.at' 10 _ rfl
  have q11 := hq.at' 11 _ rfl
  have q12 := hq.at' 12 _ rfl
  have q13 := hq.at' 13 _ rfl
  try simp only at q0 q1 q2 q3 q4 q5 q6 q7 q8 q9 q10 q11 q12 q13
  have HXQ := Lib.hid HXQ
  have HXV := Lib.hid HXV
  clear hq hin hA hb1' hx1 hb2' hx2 hb12 hw hA64 hne
  generalize unrE x A bad = er at *
  go_enter Tryz.func15, Tryz.ntmps15
  go_wp2_with fail
  with_reducible refine HU.out.mono ?_
  rintro e w2 ⟨rfl, hb2⟩
  have HB3 := Lib.hid hb2
  clear q0 q1 q2 q3 q4 q5 q6 q7 q8 q9 q10 q11 q12 q13 hW1 hW2
  clear hb2
  have xv := HXV.out w2 HB3.out
  have y0 := xv.at' 0 _ rfl
  have y1 := xv.at' 1 _ rfl
  have y2 := xv.at' 2 _ rfl
  have y3 := xv.at' 3 _ rfl
  have y4 := xv.at' 4 _ rfl
  have y5 := xv.at' 5 _ rfl
  have y6 := xv.at' 6 _ rfl
  try simp only at y0 y1 y2 y3 y4 y5 y6
  have z0 := xv.fz 0
  have z1 := xv.fz 1
  have z2 := xv.fz 2
  have z3 := xv.fz 3
  have z4 := xv.fz 4
  have z5 := xv.fz 5
  have z6 := xv.fz 6
  have hs7 := set7 (xv) (.int .i64 0) (.int .i64 0) (.string ⟨#[]⟩) (.slice none 0 0) (.slice none 0 0) (.slice none 0 0) (.int .i64 0)
  have r0 := hs7.at' 0 _ rfl
  have r1 := hs7.at' 1 _ rfl
  have r2 := hs7.at' 2 _ rfl
  have r3 := hs7.at' 3 _ rfl
  have r4 := hs7.at' 4 _ rfl
  have r5 := hs7.at' 5 _ rfl
  have r6 := hs7.at' 6 _ rfl
  try simp only at r0 r1 r2 r3 r4 r5 r6
  have HFI := Lib.hid (below7 (HB2.out.trans (HB3.out.mono HB2.out.size)) HN1.out (.int .i64 0) (.int .i64 0) (.string ⟨#[]⟩) (.slice none 0 0) (.slice none 0 0) (.slice none 0 0) (.int .i64 0))
  clear hs7 xv
  go_wp2_with fail
  refine bodyPost_ret (v := .tuple #[.agg #[.int .i64 0, .int .i64 0, .string ⟨#[]⟩, .slice none 0 0, .slice none 0 0, .slice none 0 0, .int .i64 0], .int .i64 (er)]) (by simp [results, Tryz.results15, go_sem, r0, r1, r2, r3, r4, r5, r6]) rfl ?_
  exact ⟨rfl, HFI.out⟩
set_option maxRecDepth 8000 in
set_option maxHeartbeats 16000000 in
theorem check_big (w : World) (x : Circ) (p : At) (hin : InCirc w x p) (hw : WfC x) (aA : Option Addr) (n cA : Nat) (vals : List Value) (A : List (List Int)) (hA : Sl2 w aA n cA vals A) (hA64 : ∀ y ∈ A.flatten, -9223372036854775808 ≤ y ∧ y ≤ 9223372036854775807) (bad : Int) (hb0 : -9223372036854775808 ≤ bad) (hb1 : bad ≤ 9223372036854775807) (hu : unrE x A bad = 0) (hne : smallE x ≠ 0) :
    Calls Tryz.prog 15 #[.agg (qcells x p aA n cA bad)] w fun e w' => e = .returned (.tuple #[.agg zeroV, .int .i64 (smallE x)]) ∧ Below w.heap.size w w' := by
  obtain ⟨W1, hW1⟩ : ∃ U, w.alloc (.cells (qcells x p aA n cA bad) 42) = U := ⟨_, rfl⟩
  obtain ⟨W2, hW2⟩ : ∃ U, W1.alloc (.cells zeroV 47) = U := ⟨_, rfl⟩
  have hb1' : Below w.heap.size w W1 := by rw [← hW1]; exact (Below.refl _ _).alloc (Nat.le_refl _) _
  have hx1 : BoxN w.heap.size (qcells x p aA n cA bad).toList W1 := by rw [← hW1]; exact BoxN.new w _ _
  have hb2' : Below W1.heap.size W1 W2 := by rw [← hW2]; exact (Below.refl _ _).alloc (Nat.le_refl _) _
  have hx2 : BoxN W1.heap.size zeroV.toList W2 := by rw [← hW2]; exact BoxN.new W1 _ _
  have hb12 := hb1'.trans (hb2'.mono hb1'.size)
  have HB2 := Lib.hid hb12
  have HU := Lib.hid (unroll_any W2 x p (hin.next hb12) hw aA n cA vals A (hA.next hb12) hA64 bad hb0 hb1)
  have HXQ := fun (U : World) (hU : Below W2.heap.size W2 U) => (hx1.next hb2' hx1.lt).next hU (Nat.lt_of_lt_of_le hx1.lt hb2'.size)
  have HXV := fun (U : World) (hU : Below W2.heap.size W2 U) => hx2.next hU hx2.lt
  have HN1 : Hid (w.heap.size ≤ W1.heap.size) := hb1'.size
  have hq := hx1.next hb2' hx1.lt
  rw [hu] at HU
  have HS := Lib.hid (fun (U : World) (hU : Below W2.heap.size W2 U) => small_any U x p ((hin.next hb12).next hU) hw)
  have hnb : (smallE x != 0) = true := by simpa using hne
  obtain ⟨a1, c1, a2, c2, a3, c3, a4, c4, a5, c5, a6, c6, a7, c7⟩ := p
  simp only [cells, qcells, zeroV] at *
  have q0 := hq.at' 0 _ rfl
  have q1 := hq.at' 1 _ rfl
  have q2 := hq.at' 2 _ rfl
  have q3 := hq.at' 3 _ rfl
  have q4 := hq.at' 4 _ rfl
  have q5 := hq.at' 5 _ rfl
  have q6 := hq.at' 6 _ rfl
  have q7 := hq.at' 7 _ rfl
  have q8 := hq.at' 8 _ rfl
  have q9 := hq.at' 9 _ rfl
  have q10 := hq.at' 10 _ rfl
  have q11 := hq.at' 11 _ rfl
  have q12 := hq.at' 12 _ rfl
  have q13 := hq.at' 13 _ rfl
  try simp only at q0 q1 q2 q3 q4 q5 q6 q7 q8 q9 q10 q11 q12 q13
  have HXQ := Lib.hid HXQ
  have HXV := Lib.hid HXV
  clear hq hin hA hb1' hx1 hb2' hx2 hb12 hw hA64 hne hu
  generalize smallE x = er at *
  go_enter Tryz.func15, Tryz.ntmps15
  go_wp2_with fail
  with_reducible refine HU.out.mono ?_
  rintro e w2 ⟨rfl, hb2⟩
  have HB3 := Lib.hid hb2
  have HS2 := Lib.hid (HS.out w2 hb2)
  clear q0 q1 q2 q3 q4 q5 q6 q7 q8 q9 q10 q11 q12 q13 hW1 hW2
  have xq := HXQ.out w2 hb2
  have m0 := xq.at' 0 _ rfl
  have m1 := xq.at' 1 _ rfl
  have m2 := xq.at' 2 _ rfl
  have m3 := xq.at' 3 _ rfl
  have m4 := xq.at' 4 _ rfl
  have m5 := xq.at' 5 _ rfl
  have m6 := xq.at' 6 _ rfl
  have m7 := xq.at' 7 _ rfl
  try simp only at m0 m1 m2 m3 m4 m5 m6 m7
  clear hb2 xq
  go_wp2_with fail
  with_reducible refine HS2.out.mono ?_
  rintro e w3 ⟨rfl, hb3⟩
  have HB4 := Lib.hid (HB3.out.trans (hb3.mono HB3.out.size))
  clear hb3 m0 m1 m2 m3 m4 m5 m6 m7
  have xv := HXV.out w3 HB4.out
  have y0 := xv.at' 0 _ rfl
  have y1 := xv.at' 1 _ rfl
  have y2 := xv.at' 2 _ rfl
  have y3 := xv.at' 3 _ rfl
  have y4 := xv.at' 4 _ rfl
  have y5 := xv.at' 5 _ rfl
  have y6 := xv.at' 6 _ rfl
  try simp only at y0 y1 y2 y3 y4 y5 y6
  have z0 := xv.fz 0
  have z1 := xv.fz 1
  have z2 := xv.fz 2
  have z3 := xv.fz 3
  have z4 := xv.fz 4
  have z5 := xv.fz 5
  have z6 := xv.fz 6
  have hs7 := set7 (xv) (.int .i64 0) (.int .i64 0) (.string ⟨#[]⟩) (.slice none 0 0) (.slice none 0 0) (.slice none 0 0) (.int .i64 0)
  have r0 := hs7.at' 0 _ rfl
  have r1 := hs7.at' 1 _ rfl
  have r2 := hs7.at' 2 _ rfl
  have r3 := hs7.at' 3 _ rfl
  have r4 := hs7.at' 4 _ rfl
  have r5 := hs7.at' 5 _ rfl
  have r6 := hs7.at' 6 _ rfl
  try simp only at r0 r1 r2 r3 r4 r5 r6
  have HFI := Lib.hid (below7 (HB2.out.trans (HB4.out.mono HB2.out.size)) HN1.out (.int .i64 0) (.int .i64 0) (.string ⟨#[]⟩) (.slice none 0 0) (.slice none 0 0) (.slice none 0 0) (.int .i64 0))
  clear hs7 xv
  go_wp2_with fail
  refine bodyPost_ret (v := .tuple #[.agg #[.int .i64 0, .int .i64 0, .string ⟨#[]⟩, .slice none 0 0, .slice none 0 0, .slice none 0 0, .int .i64 0], .int .i64 (er)]) (by simp [results, Tryz.results15, go_sem, r0, r1, r2, r3, r4, r5, r6]) rfl ?_
  exact ⟨rfl, HFI.out⟩
set_option maxRecDepth 8000 in
set_option maxHeartbeats 16000000 in
theorem check_ok (w : World) (x : Circ) (p : At) (hin : InCirc w x p) (hw : WfC x) (aA : Option Addr) (n cA : Nat) (vals : List Value) (A : List (List Int)) (hA : Sl2 w aA n cA vals A) (hA64 : ∀ y ∈ A.flatten, -9223372036854775808 ≤ y ∧ y ≤ 9223372036854775807) (kb : Nat) (hkb : kb < x.bads.length) (hu : unrE x A kb = 0) (hok : CheckOk x) (hl10 : x.lats.length ≤ 10) (hi10 : x.ins.length ≤ 10) :
    Calls Tryz.prog 15 #[.agg (qcells x p aA n cA (kb : Int))] w fun e w' => CheckOut x A kb x.bads[kb] w.heap.size e w' ∧ Below w.heap.size w w' := by
  obtain ⟨W1, hW1⟩ : ∃ U, w.alloc (.cells (qcells x p aA n cA (kb : Int)) 42) = U := ⟨_, rfl⟩
  obtain ⟨W2, hW2⟩ : ∃ U, W1.alloc (.cells zeroV 47) = U := ⟨_, rfl⟩
  have hb1' : Below w.heap.size w W1 := by rw [← hW1]; exact (Below.refl _ _).alloc (Nat.le_refl _) _
  have hx1 : BoxN w.heap.size (qcells x p aA n cA (kb : Int)).toList W1 := by rw [← hW1]; exact BoxN.new w _ _
  have hb2' : Below W1.heap.size W1 W2 := by rw [← hW2]; exact (Below.refl _ _).alloc (Nat.le_refl _) _
  have hx2 : BoxN W1.heap.size zeroV.toList W2 := by rw [← hW2]; exact BoxN.new W1 _ _
  have hb12 := hb1'.trans (hb2'.mono hb1'.size)
  have HB2 := Lib.hid hb12
  have HU := Lib.hid (unroll_any W2 x p (hin.next hb12) hw aA n cA vals A (hA.next hb12) hA64 (kb : Int) (by omega) (by have := hin.bads.big; have := hin.bads.cap; omega))
  have HXQ := fun (U : World) (hU : Below W2.heap.size W2 U) => (hx1.next hb2' hx1.lt).next hU (Nat.lt_of_lt_of_le hx1.lt hb2'.size)
  have HXV := fun (U : World) (hU : Below W2.heap.size W2 U) => hx2.next hU hx2.lt
  have HN1 : Hid (w.heap.size ≤ W1.heap.size) := hb1'.size
  have hq := hx1.next hb2' hx1.lt
  rw [hu] at HU
  have HS := fun (U : World) (hU : Below W2.heap.size W2 U) => small_any U x p ((hin.next hb12).next hU) hw
  rw [small_ok hok hl10 hi10] at HS
  have HS := Lib.hid HS
  have HWK := Lib.hid (fun (U : World) (hU : Below W2.heap.size W2 U) => walked_any U x p ((hin.next hb12).next hU) hw hok hl10 hi10 aA n cA vals A ((hA.next hb12).next hU) hA64)
  have HFO := Lib.hid (fun (U : World) (hU : Below W2.heap.size W2 U) (B1 N b : Nat) (O : Ord) (aO : Option Addr) (cO : Nat) (h : WIs B1 N b x p aA n cA O aO cO U) (hOl : O.length ≤ 1024) (hOs : ∀ e ∈ O, e.1.length = x.lats.length) => found_any U B1 N b x p aA n cA O aO cO h ((hin.next hb12).next hU) hw hok hl10 hi10 vals A ((hA.next hb12).next hU) hA64 hOl hOs x.bads[kb] (hw.bads _ (List.getElem_mem hkb)).1 (hw.bads _ (List.getElem_mem hkb)).2)
  have HPA := Lib.hid (fun (U : World) (hU : Below W2.heap.size W2 U) (B1 N b : Nat) (O : Ord) (aO : Option Addr) (cO : Nat) (h : WIs B1 N b x p aA n cA O aO cO U) (hK : Known x A O) (s : List Bool) (m : Nat) (hsm : (s, m) ∈ O) (hm : m ≤ 100000) (i0 : List Bool) => path_any U B1 N b x p aA n cA O aO cO h ((hin.next hb12).next hU) hw hok hl10 hi10 vals A ((hA.next hb12).next hU) hA64 hK s m hsm hm i0 (kb : Int))
  have HOS := Lib.hid (fun (U : World) (hU : Below W2.heap.size W2 U) (B1 N b : Nat) (O : Ord) (aO : Option Addr) (cO : Nat) (h : WIs B1 N b x p aA n cA O aO cO U) => outside_any U B1 N b x p aA n cA O aO cO h ((hin.next hb12).next hU) hl10)
  have HBC := Lib.hid (fun (U : World) (hU : Below W2.heap.size W2 U) => ((hin.next hb12).next hU).bads.int hkb)
  have hcb := hin.bads.cap
  have hgb := hin.bads.big
  have HKB : Hid ((kb : Int) < (x.bads.length : Int)) := by show _ < _; omega
  obtain ⟨a1, c1, a2, c2, a3, c3, a4, c4, a5, c5, a6, c6, a7, c7⟩ := p
  simp only [cells, qcells, zeroV] at *
  have q0 := hq.at' 0 _ rfl
  have q1 := hq.at' 1 _ rfl
  have q2 := hq.at' 2 _ rfl
  have q3 := hq.at' 3 _ rfl
  have q4 := hq.at' 4 _ rfl
  have q5 := hq.at' 5 _ rfl
  have q6 := hq.at' 6 _ rfl
  have q7 := hq.at' 7 _ rfl
  have q8 := hq.at' 8 _ rfl
  have q9 := hq.at' 9 _ rfl
  have q10 := hq.at' 10 _ rfl
  have q11 := hq.at' 11 _ rfl
  have q12 := hq.at' 12 _ rfl
  have q13 := hq.at' 13 _ rfl
  try simp only at q0 q1 q2 q3 q4 q5 q6 q7 q8 q9 q10 q11 q12 q13
  have HXQ := Lib.hid HXQ
  have HXV := Lib.hid HXV
  clear hq hin hA hb1' hx1 hb2' hx2 hb12 hw hA64 hu hok hl10 hi10
  have HLB : Hid (∃ g o, a4 = some ⟨g, o, none⟩ ∧ g < W2.heap.size ∧ W2.cell? ⟨g, o + kb, none⟩ = some (.int .i64 x.bads[kb])) := by
    obtain ⟨g, o, hx, ha, hg, hc⟩ := HBC.out W2 (Below.refl _ _)
    exact ⟨g, o, ha, hg, hc⟩
  clear HBC
  generalize x.bads[kb] = bl at *
  obtain ⟨g4, o4, ha4, hg4, hc4⟩ := HLB.out
  subst ha4
  have HL4 : Hid (∀ U, Below W2.heap.size W2 U → U.cell? ⟨g4, o4 + kb, none⟩ = some (.int .i64 bl)) := fun U hU => (hU.cell (p := ⟨g4, o4 + kb, none⟩) hg4).trans hc4
  clear HLB hg4 hc4
  go_enter Tryz.func15, Tryz.ntmps15
  go_wp2_with fail
  with_reducible refine HU.out.mono ?_
  rintro e w2 ⟨rfl, hb2⟩
  have HB3 := Lib.hid hb2
  have HS2 := Lib.hid (HS.out w2 hb2)
  clear q0 q1 q2 q3 q4 q5 q6 q7 q8 q9 q10 q11 q12 q13 hW1 hW2
  have xq := HXQ.out w2 hb2
  have m0 := xq.at' 0 _ rfl
  have m1 := xq.at' 1 _ rfl
  have m2 := xq.at' 2 _ rfl
  have m3 := xq.at' 3 _ rfl
  have m4 := xq.at' 4 _ rfl
  have m5 := xq.at' 5 _ rfl
  have m6 := xq.at' 6 _ rfl
  have m7 := xq.at' 7 _ rfl
  try simp only at m0 m1 m2 m3 m4 m5 m6 m7
  clear hb2 xq HS
  go_wp2_with fail
  with_reducible refine HS2.out.mono ?_
  rintro e w3 ⟨rfl, hb3⟩
  have hb24 := HB3.out.trans (hb3.mono HB3.out.size)
  have HB4 := Lib.hid hb24
  have HW3 := Lib.hid (HWK.out w3 hb24)
  clear m0 m1 m2 m3 m4 m5 m6 m7
  have xq := HXQ.out w3 hb24
  have m0 := xq.at' 0 _ rfl
  have m1 := xq.at' 1 _ rfl
  have m2 := xq.at' 2 _ rfl
  have m3 := xq.at' 3 _ rfl
  have m4 := xq.at' 4 _ rfl
  have m5 := xq.at' 5 _ rfl
  have m6 := xq.at' 6 _ rfl
  have m7 := xq.at' 7 _ rfl
  have m8 := xq.at' 8 _ rfl
  try simp only at m0 m1 m2 m3 m4 m5 m6 m7 m8
  clear hb3 hb24 xq HS2
  go_wp2_with fail
  clear m0 m1 m2 m3 m4 m5 m6 m7 m8
  with_reducible refine HW3.out.mono ?_
  rintro e w4 ⟨B1, N, b, O, aO, cO, rfl, hkn, hwi, hOl, hsm, hN, hb, hb4⟩
  have c10 := hwi.box.at' 10 _ rfl
  have hlen : ∀ e ∈ O, e.1.length = x.lats.length := fun e he => R_len (hkn.sound e he)
  have hcO := (own_sl' hwi.own).cap
  have hgO := (own_sl' hwi.own).big
  obtain ⟨W5, hW5⟩ : ∃ U, w4.alloc (.cells #[.int .i64 0, .int .i64 0, .string ⟨#[]⟩, .slice none 0 0, .slice none 0 0, .slice none 0 0, .int .i64 O.length] 47) = U := ⟨_, rfl⟩
  have hb5 : Below w4.heap.size w4 W5 := by rw [← hW5]; exact (Below.refl _ _).alloc (Nat.le_refl _) _
  have hx5 : BoxN w4.heap.size [.int .i64 0, .int .i64 0, .string ⟨#[]⟩, .slice none 0 0, .slice none 0 0, .slice none 0 0, .int .i64 O.length] W5 := by rw [← hW5]; exact BoxN.new w4 _ _
  have hb25 := HB4.out.trans ((hb4.trans (hb5.mono hb4.size)).mono HB4.out.size)
  have HB5 := Lib.hid hb25
  have HWI := Lib.hid (fun (U : World) (hU : Below W5.heap.size W5 U) => (hwi.next hb5).next hU)
  have HX5 := Lib.hid (fun (U : World) (hU : Below W5.heap.size W5 U) => hx5.next hU hx5.lt)
  have HFD := Lib.hid (HFO.out W5 hb25 B1 N b O aO cO (hwi.next hb5) hOl hlen)
  have HKN := Lib.hid hkn
  have HOL := Lib.hid hOl
  have HSM := Lib.hid hsm
  have HW24 : Hid (W2.heap.size ≤ w4.heap.size) := Nat.le_trans HB4.out.size hb4.size
  have xq := HXQ.out W5 hb25
  have m4 := xq.at' 4 _ rfl
  have m11 := xq.at' 11 _ rfl
  try simp only at m4 m11
  have d4 := HL4.out W5 hb25
  have hkbI := HKB.out
  clear hkn hwi hOl hsm hN hb hb4 hlen hb5 hx5 hb25 xq HW3 HWK HFO
  go_wp2_with fail
  clear c10 m4 m11 d4 hkbI hW5
  with_reducible refine HFD.out.mono ?_
  rintro e w6 ⟨v, rfl, hfo, hb6⟩
  have hb26 := HB5.out.trans (hb6.mono HB5.out.size)
  have HB6 := Lib.hid hb26
  have HB56 := Lib.hid hb6
  clear hb6
  rcases hfo with ⟨rfl, hno⟩ | ⟨s, i, m, hsO, hbi, rfl, hle⟩
  · have HNO := Lib.hid hno
    clear hno
    have HOU := Lib.hid (HOS.out w6 hb26 B1 N b O aO cO (HWI.out w6 HB56.out))
    have HN6 : Hid (w4.heap.size < w6.heap.size) := Nat.lt_of_lt_of_le (HX5.out w6 HB56.out).lt (Nat.le_refl _)
    have HNV : Hid (W1.heap.size < w6.heap.size) := (HXV.out w6 HB6.out).lt
    clear hb26
    go_wp2_with fail
    with_reducible refine HOU.out.mono ?_
    rintro e w7 ⟨aR, cR, valsR, rfl, hsR, hb7⟩
    have HB7 := Lib.hid (HB6.out.trans (hb7.mono HB6.out.size))
    have HB57 := Lib.hid (HB56.out.trans (hb7.mono HB56.out.size))
    obtain ⟨lo, hlo⟩ : ∃ l, (outs O (allL x.lats.length)).length = l := ⟨_, rfl⟩
    rw [hlo] at hsR
    have HSR := Lib.hid hsR
    have HLO := Lib.hid hlo
    rw [hlo]
    clear hlo hb7 hsR
    obtain ⟨ln, hln⟩ : ∃ l, O.length = l := ⟨_, rfl⟩
    have HLN := Lib.hid hln
    rw [hln] at HX5
    clear hln
    have HNE : Hid (w4.heap.size ≠ W1.heap.size) := by show _ ≠ _; have h1 := (HXV.out W2 (Below.refl _ _)).lt; have h2 := HW24.out; omega
    have xx := HX5.out w7 HB57.out
    have y0 := xx.at' 0 _ rfl
    have y1 := xx.at' 1 _ rfl
    have y2 := xx.at' 2 _ rfl
    have y3 := xx.at' 3 _ rfl
    have y4 := xx.at' 4 _ rfl
    have y5 := xx.at' 5 _ rfl
    have y6 := xx.at' 6 _ rfl
    try simp only at y0 y1 y2 y3 y4 y5 y6
    have z0 := xx.fz 0
    have z1 := xx.fz 1
    have z2 := xx.fz 2
    have z3 := xx.fz 3
    have z4 := xx.fz 4
    have z5 := xx.fz 5
    have z6 := xx.fz 6
    clear xx
    go_upto_region 13 with fail
    have hx8 := ((HX5.out w7 HB57.out).set 0 (.int .i64 1)).set 4 (.slice aR lo cR)
    have hb8 := ((HB7.out).setCell (p := ⟨w4.heap.size, 0, none⟩) HW24.out (.int .i64 1)).setCell (p := ⟨w4.heap.size, 4, none⟩) HW24.out (.slice aR lo cR)
    have hv8 := ((HXV.out w7 HB7.out).other (a := ⟨w4.heap.size, 0, none⟩) HNE.out (.int .i64 1)).other (a := ⟨w4.heap.size, 4, none⟩) HNE.out (.slice aR lo cR)
    have hk8 := (HSR.out.set (a := ⟨w4.heap.size, 0, none⟩) HN6.out (.int .i64 1)).set (a := ⟨w4.heap.size, 4, none⟩) HN6.out (.slice aR lo cR)
    obtain ⟨w8, hw8⟩ : ∃ U, (w7.setCell ⟨w4.heap.size, 0, none⟩ (.int .i64 1)).setCell ⟨w4.heap.size, 4, none⟩ (.slice aR lo cR) = U := ⟨_, rfl⟩
    rw [hw8] at hx8 hb8 hv8 hk8 ⊢
    have HB8 := Lib.hid hb8
    clear hw8 y0 z0 y1 z1 y2 z2 y3 z3 y4 z4 y5 z5 y6 z6
    have t0 := hx8.at' 0 _ rfl
    have t1 := hx8.at' 1 _ rfl
    have t2 := hx8.at' 2 _ rfl
    have t3 := hx8.at' 3 _ rfl
    have t4 := hx8.at' 4 _ rfl
    have t5 := hx8.at' 5 _ rfl
    have t6 := hx8.at' 6 _ rfl
    try simp only at t0 t1 t2 t3 t4 t5 t6
    have y0 := hv8.at' 0 _ rfl
    have y1 := hv8.at' 1 _ rfl
    have y2 := hv8.at' 2 _ rfl
    have y3 := hv8.at' 3 _ rfl
    have y4 := hv8.at' 4 _ rfl
    have y5 := hv8.at' 5 _ rfl
    have y6 := hv8.at' 6 _ rfl
    try simp only at y0 y1 y2 y3 y4 y5 y6
    have z0 := hv8.fz 0
    have z1 := hv8.fz 1
    have z2 := hv8.fz 2
    have z3 := hv8.fz 3
    have z4 := hv8.fz 4
    have z5 := hv8.fz 5
    have z6 := hv8.fz 6
    have hs7 := set7 (hv8) (.int .i64 1) (.int .i64 0) (.string ⟨#[]⟩) (.slice none 0 0) (.slice aR lo cR) (.slice none 0 0) (.int .i64 ln)
    have r0 := hs7.at' 0 _ rfl
    have r1 := hs7.at' 1 _ rfl
    have r2 := hs7.at' 2 _ rfl
    have r3 := hs7.at' 3 _ rfl
    have r4 := hs7.at' 4 _ rfl
    have r5 := hs7.at' 5 _ rfl
    have r6 := hs7.at' 6 _ rfl
    try simp only at r0 r1 r2 r3 r4 r5 r6
    have HFI := Lib.hid (below7 (HB2.out.trans (HB8.out.mono HB2.out.size)) HN1.out (.int .i64 1) (.int .i64 0) (.string ⟨#[]⟩) (.slice none 0 0) (.slice aR lo cR) (.slice none 0 0) (.int .i64 ln))
    have HKE := Lib.hid (own2set7 hk8 HNV.out (.int .i64 1) (.int .i64 0) (.string ⟨#[]⟩) (.slice none 0 0) (.slice aR lo cR) (.slice none 0 0) (.int .i64 ln))
    clear hs7 hv8 hx8 hb8 hk8
    go_wp2_with fail
    refine bodyPost_ret (v := .tuple #[.agg #[.int .i64 1, .int .i64 0, .string ⟨#[]⟩, .slice none 0 0, .slice aR lo cR, .slice none 0 0, .int .i64 ln], .int .i64 0]) (by simp [results, Tryz.results15, go_sem, r0, r1, r2, r3, r4, r5, r6]) rfl ?_
    exact ⟨⟨O, HKN.out, HOL.out, Or.inr ⟨HNO.out, aR, cR, valsR, by rw [HLO.out, HLN.out], by have h9 := HKE.out.sl2'; rw [HLO.out]; exact h9⟩⟩, HFI.out⟩
  · have HSO := Lib.hid hsO
    have HBI := Lib.hid hbi
    have HLE := Lib.hid hle
    have hm5 : m ≤ 100000 := by have h1 : m < O.length := HSM.out _ hsO; have := HOL.out; omega
    have HPT := Lib.hid (HPA.out w6 hb26 B1 N b O aO cO (HWI.out w6 HB56.out) HKN.out s m hsO hm5 i)
    have HN6 : Hid (w4.heap.size < w6.heap.size) := Nat.lt_of_lt_of_le (HX5.out w6 HB56.out).lt (Nat.le_refl _)
    have HNV : Hid (W1.heap.size < w6.heap.size) := (HXV.out w6 HB6.out).lt
    have xq := HXQ.out w6 hb26
    have m11 := xq.at' 11 _ rfl
    try simp only at m11
    clear hsO hbi hle hm5 hb26 xq
    obtain ⟨ss, hss⟩ : ∃ t, bs s = t := ⟨_, rfl⟩
    obtain ⟨si, hsi⟩ : ∃ t, bs i = t := ⟨_, rfl⟩
    rw [hss, hsi]
    rw [hss, hsi] at HPT
    clear hss hsi
    go_wp2_with fail
    with_reducible refine HPT.out.mono ?_
    rintro e w7 ⟨s0, ins, aP, cP, hT, hs0, rfl, hoP, hb7⟩
    have HB7 := Lib.hid (HB6.out.trans (hb7.mono HB6.out.size))
    have HB57 := Lib.hid (HB56.out.trans (hb7.mono HB56.out.size))
    have HOP := Lib.hid hoP
    have HT := Lib.hid hT
    have HS0 := Lib.hid hs0
    obtain ⟨st0, hst0⟩ : ∃ t, bs s0 = t := ⟨_, rfl⟩
    have HST0 := Lib.hid hst0
    rw [hst0]
    clear hst0 hb7 hoP hT hs0 m11
    obtain ⟨ln, hln⟩ : ∃ l, O.length = l := ⟨_, rfl⟩
    have HLN := Lib.hid hln
    rw [hln] at HX5
    clear hln
    have HNE : Hid (w4.heap.size ≠ W1.heap.size) := by show _ ≠ _; have h1 := (HXV.out W2 (Below.refl _ _)).lt; have h2 := HW24.out; omega
    have xx := HX5.out w7 HB57.out
    have y0 := xx.at' 0 _ rfl
    have y1 := xx.at' 1 _ rfl
    have y2 := xx.at' 2 _ rfl
    have y3 := xx.at' 3 _ rfl
    have y4 := xx.at' 4 _ rfl
    have y5 := xx.at' 5 _ rfl
    have y6 := xx.at' 6 _ rfl
    try simp only at y0 y1 y2 y3 y4 y5 y6
    have z0 := xx.fz 0
    have z1 := xx.fz 1
    have z2 := xx.fz 2
    have z3 := xx.fz 3
    have z4 := xx.fz 4
    have z5 := xx.fz 5
    have z6 := xx.fz 6
    clear xx
    go_upto_region 13 with fail
    have hx8 := ((((HX5.out w7 HB57.out).set 0 (.int .i64 2)).set 1 (.int .i64 (kb : Int))).set 2 (.string st0)).set 3 (.slice aP (m + 1) cP)
    have hb8 := ((((HB7.out).setCell (p := ⟨w4.heap.size, 0, none⟩) HW24.out (.int .i64 2)).setCell (p := ⟨w4.heap.size, 1, none⟩) HW24.out (.int .i64 (kb : Int))).setCell (p := ⟨w4.heap.size, 2, none⟩) HW24.out (.string st0)).setCell (p := ⟨w4.heap.size, 3, none⟩) HW24.out (.slice aP (m + 1) cP)
    have hv8 := ((((HXV.out w7 HB7.out).other (a := ⟨w4.heap.size, 0, none⟩) HNE.out (.int .i64 2)).other (a := ⟨w4.heap.size, 1, none⟩) HNE.out (.int .i64 (kb : Int))).other (a := ⟨w4.heap.size, 2, none⟩) HNE.out (.string st0)).other (a := ⟨w4.heap.size, 3, none⟩) HNE.out (.slice aP (m + 1) cP)
    have hk8 := Go.RowKit.ownsRow_setCell_below (Go.RowKit.ownsRow_setCell_below (Go.RowKit.ownsRow_setCell_below (Go.RowKit.ownsRow_setCell_below (HOP.out) (a := ⟨w4.heap.size, 0, none⟩) HN6.out (.int .i64 2)) (a := ⟨w4.heap.size, 1, none⟩) HN6.out (.int .i64 (kb : Int))) (a := ⟨w4.heap.size, 2, none⟩) HN6.out (.string st0)) (a := ⟨w4.heap.size, 3, none⟩) HN6.out (.slice aP (m + 1) cP)
    obtain ⟨w8, hw8⟩ : ∃ U, (((w7.setCell ⟨w4.heap.size, 0, none⟩ (.int .i64 2)).setCell ⟨w4.heap.size, 1, none⟩ (.int .i64 (kb : Int))).setCell ⟨w4.heap.size, 2, none⟩ (.string st0)).setCell ⟨w4.heap.size, 3, none⟩ (.slice aP (m + 1) cP) = U := ⟨_, rfl⟩
    rw [hw8] at hx8 hb8 hv8 hk8 ⊢
    have HB8 := Lib.hid hb8
    clear hw8 y0 z0 y1 z1 y2 z2 y3 z3 y4 z4 y5 z5 y6 z6
    have t0 := hx8.at' 0 _ rfl
    have t1 := hx8.at' 1 _ rfl
    have t2 := hx8.at' 2 _ rfl
    have t3 := hx8.at' 3 _ rfl
    have t4 := hx8.at' 4 _ rfl
    have t5 := hx8.at' 5 _ rfl
    have t6 := hx8.at' 6 _ rfl
    try simp only at t0 t1 t2 t3 t4 t5 t6
    have y0 := hv8.at' 0 _ rfl
    have y1 := hv8.at' 1 _ rfl
    have y2 := hv8.at' 2 _ rfl
    have y3 := hv8.at' 3 _ rfl
    have y4 := hv8.at' 4 _ rfl
    have y5 := hv8.at' 5 _ rfl
    have y6 := hv8.at' 6 _ rfl
    try simp only at y0 y1 y2 y3 y4 y5 y6
    have z0 := hv8.fz 0
    have z1 := hv8.fz 1
    have z2 := hv8.fz 2
    have z3 := hv8.fz 3
    have z4 := hv8.fz 4
    have z5 := hv8.fz 5
    have z6 := hv8.fz 6
    have hs7 := set7 (hv8) (.int .i64 2) (.int .i64 (kb : Int)) (.string st0) (.slice aP (m + 1) cP) (.slice none 0 0) (.slice none 0 0) (.int .i64 ln)
    have r0 := hs7.at' 0 _ rfl
    have r1 := hs7.at' 1 _ rfl
    have r2 := hs7.at' 2 _ rfl
    have r3 := hs7.at' 3 _ rfl
    have r4 := hs7.at' 4 _ rfl
    have r5 := hs7.at' 5 _ rfl
    have r6 := hs7.at' 6 _ rfl
    try simp only at r0 r1 r2 r3 r4 r5 r6
    have HFI := Lib.hid (below7 (HB2.out.trans (HB8.out.mono HB2.out.size)) HN1.out (.int .i64 2) (.int .i64 (kb : Int)) (.string st0) (.slice aP (m + 1) cP) (.slice none 0 0) (.slice none 0 0) (.int .i64 ln))
    have HKE := Lib.hid (ownset7 hk8 HNV.out (.int .i64 2) (.int .i64 (kb : Int)) (.string st0) (.slice aP (m + 1) cP) (.slice none 0 0) (.slice none 0 0) (.int .i64 ln))
    clear hs7 hv8 hx8 hb8 hk8
    go_wp2_with fail
    refine bodyPost_ret (v := .tuple #[.agg #[.int .i64 2, .int .i64 (kb : Int), .string st0, .slice aP (m + 1) cP, .slice none 0 0, .slice none 0 0, .int .i64 ln], .int .i64 0]) (by simp [results, Tryz.results15, go_sem, r0, r1, r2, r3, r4, r5, r6]) rfl ?_
    exact ⟨⟨O, HKN.out, HOL.out, Or.inl ⟨s, i, m, s0, ins, aP, cP, HSO.out, HBI.out, HLE.out, HT.out, HS0.out, by rw [HST0.out, HLN.out], own_sl' HKE.out⟩⟩, HFI.out⟩
end EnumC
end Go.Proofs.YtjmmhbmbafjneaaGreatDoor

/-
  Plain: what a search in breadth and one level by level tell is one.
-/
namespace Go.Proofs.YtjmmhbmbafjneaaGreatDoor
open Go.RowKit Base
set_option linter.unusedVariables false
set_option linter.unusedSimpArgs false
namespace EnumW
open Circuit BadP EnumP GetI

theorem filter_at {α : Type} (p : α → Bool) : ∀ (L : List α) (i : Nat) (h : i < L.length), p L[i] = true → (L.filter p)[((L.take i).filter p).length]? = some L[i]
  | [], i, h, _ => by simp at h
  | a :: r, 0, h, hp => by
    have hp' : p a = true := hp
    rw [List.filter_cons_of_pos hp']; rfl
  | a :: r, i + 1, h, hp => by
    have ih := filter_at p r i (by simpa using h) hp
    rw [List.take_succ_cons]
    by_cases hq : p a = true
    · rw [List.filter_cons_of_pos hq, List.filter_cons_of_pos hq]
      exact ih
    · rw [List.filter_cons_of_neg hq, List.filter_cons_of_neg hq]
      exact ih
theorem filter_step {α : Type} (p : α → Bool) (L : List α) (i : Nat) (h : i < L.length) : ((L.take (i + 1)).filter p).length = ((L.take i).filter p).length + (if p L[i] = true then 1 else 0) := by
  rw [List.take_succ_eq_append_getElem h, List.filter_append, List.length_append]
  by_cases hq : p L[i] = true
  · rw [if_pos hq, List.filter_cons_of_pos hq]; rfl
  · rw [if_neg hq, List.filter_cons_of_neg hq]; rfl
theorem filter_le {α : Type} (p : α → Bool) (L : List α) (i : Nat) : ((L.take i).filter p).length ≤ (L.filter p).length := ((List.take_sublist i L).filter p).length_le

section
variable {x : Circ} {A : List (List Int)} {out : List Int} {O : Ord}
/-- A state that is told not to be reached was not; one that is, was, in as many steps. -/
theorem seen_no (hS : SOut x A out) (hK : Known x A O) {i : Nat} {s : List Bool} {v : Int} (hs : (allL x.lats.length)[i]? = some s) (hv : out[i]? = some v) (h0 : v < 0) : has O s = false := by
  cases hq : has O s with
  | false => rfl
  | true =>
    obtain ⟨n, hn⟩ := has_iff.1 hq
    obtain ⟨u, h1, h2, h3⟩ := hS.comp n s (hK.sound _ hn)
    rw [idx_at hs, hv] at h1
    cases h1
    omega
theorem seen_yes (hS : SOut x A out) (hK : Known x A O) {i : Nat} {s : List Bool} {v : Int} (hs : (allL x.lats.length)[i]? = some s) (hv : out[i]? = some v) (h0 : 0 ≤ v) : has O s = true ∧ stepO O s = v := by
  obtain ⟨s2, hs2, hr⟩ := hS.sound i v hv h0
  rw [hs] at hs2
  cases hs2
  obtain ⟨n, hn, hle⟩ := hK.all _ _ hr
  obtain ⟨u, h1, h2, h3⟩ := hS.comp n s (hK.sound _ hn)
  rw [idx_at hs, hv] at h1
  cases h1
  refine ⟨has_iff.2 ⟨n, hn⟩, ?_⟩
  unfold stepO
  rw [(tbl_get hK.nodup s).1 n hn]
  show (n : Int) = v
  omega
end
end EnumW
end Go.Proofs.YtjmmhbmbafjneaaGreatDoor

/-
  interlockref07's Next.
-/
namespace Go.Proofs.YtjmmhbmbafjneaaGreatDoor
open Go.RowKit Base
set_option linter.unusedVariables false
set_option linter.unusedSimpArgs false
namespace BadP
open Circuit Coi

set_option maxRecDepth 8000 in
set_option maxHeartbeats 8000000 in
theorem next_any (w : World) (x : Circ) (p : At) (hin : InCirc w x p) (hw : WfC x) (hok : CheckOk x) (hza : x.ands.length * 24 ≤ 140737488355328) (st inp : List Bool) (hst : st.length = x.lats.length) (hinp : inp.length = x.ins.length) :
    Calls Tryz.prog 22 #[.agg (cells x p), .string (bs st), .string (bs inp)] w fun e w' => e = .returned (.tuple #[.string (bs (next x st inp)), .int .i64 0]) ∧ Below w.heap.size w w' := by
  obtain ⟨W1, hW1⟩ : ∃ U, w.alloc (.cells (cells x p) 27) = U := ⟨_, rfl⟩
  obtain ⟨hb1, hx1⟩ := cbox_new w x p W1 hW1
  have HB1 := Lib.hid hb1
  have HX := Lib.hid (fun (U : World) (hU : Below W1.heap.size W1 U) => hx1.next hU (Nat.le_refl _))
  have HIN := Lib.hid (fun (U : World) (hU : Below W1.heap.size W1 U) => (hin.next hb1).next hU)
  have HLI := Lib.hid (lits_in hok hw).2.2
  have hva := values_any W1 x p (hin.next hb1) hw hok hza st inp hst hinp
  have HNX : Hid (next x st inp = x.lats.map fun t => litV (vals x st inp) t.2.1) := rfl
  have HFW : Hid (x.lats.length ≤ 64) := hok.1.2.2.2.1
  have hvl : (vals x st inp).length ≤ 9223372036854775807 := by rw [vals_len]; have := hok.1.2.1; omega
  generalize vals x st inp = V at *
  have HTR := Lib.hid (fun (U : World) (l : Int) (h : 0 ≤ l ∧ l ≤ 9223372036854775807) => refTrue_any U V l (by have := h.1; omega) h.2 hvl)
  obtain ⟨a1, c1, a2, c2, a3, c3, a4, c4, a5, c5, a6, c6, a7, c7⟩ := p
  simp only [cells] at hW1 hva ⊢
  have HVA := Lib.hid hva
  clear hin hw hok hza hst hinp hb1 hx1 hva hvl
  generalize bs st = s1 at *
  generalize bs inp = s2 at *
  have c := HX.out W1 (Below.refl _ _)
  have k0 := c.k0
  have k1 := c.k1
  have k2 := c.k2
  have k3 := c.k3
  have k4 := c.k4
  have k5 := c.k5
  have k6 := c.k6
  have k7 := c.k7
  clear c
  go_enter Tryz.func22, Tryz.ntmps22
  go_wp2_with fail
  clear hW1
  with_reducible refine HVA.out.mono ?_
  rintro e w2 ⟨rfl, hb2⟩
  have HB2 := Lib.hid hb2
  clear hb2 k0 k1 k2 k3 k4 k5 k6 k7
  generalize hsv : bs V = sv at *
  have HSV := Lib.hid hsv
  clear hsv
  go_wp2_with fail
  go_loopw [10, 11] (fun s u wr => ∃ j : Nat, j ≤ x.lats.length ∧ u = .int .i64 j ∧ s = .string (bs ((x.lats.take j).map fun t => litV V t.2.1)) ∧ Hid (Below W1.heap.size W1 wr)) (fun _ u _ => x.lats.length - (intOf u).toNat)
  case atStart => exact ⟨0, Nat.zero_le _, rfl, rfl, HB2.out⟩
  case round =>
    clear HB2
    obtain ⟨j, hj, rfl, rfl, hB⟩ := hrel
    have m2 := (HX.out wr hB.out).k2
    have hla := (HIN.out wr hB.out).lats
    have hca := hla.cap
    have hga := hla.big
    try simp only at m2 hca hga
    by_cases hlt : j < x.lats.length
    · obtain ⟨b, o, hx, hae, hbs, d0, d1, d2⟩ := hla.tri hlt
      try simp only at hae
      subst hae
      have HTK := HTR.out wr x.lats[j].2.1 (HLI.out _ (List.getElem_mem hx))
      have HST : Hid (bs ((x.lats.take (j + 1)).map fun t => litV V t.2.1) = bs ((x.lats.take j).map fun t => litV V t.2.1) ++ bs [litV V x.lats[j].2.1]) := by
        show _ = _
        rw [List.take_succ_eq_append_getElem hx, List.map_append, bs_app]; rfl
      have hz : (bs ((x.lats.take j).map fun t => litV V t.2.1)).size = j := by rw [bs_size, List.length_map, List.length_take]; omega
      have HFWO := HFW.out
      have hz2 : ∀ b : Bool, (bs [b]).size = 1 := fun b => bs_size _
      have hlim : ¬ 9223372036854775807 < j + 1 := by omega
      generalize bs ((x.lats.take j).map fun t => litV V t.2.1) = s8 at *
      generalize litV V x.lats[j].2.1 = q at *
      generalize x.lats[j] = t at *
      have HTK2 := Lib.hid HTK
      clear HTK hla
      have HBI := Lib.hid (fun U => bit_any U q)
      have hzq := hz2 q
      generalize bs [q] = s9 at *
      clear hz2 HFWO
      go_wp2_with fail
      with_reducible refine HTK2.out.mono ?_
      rintro e wx ⟨rfl, rfl⟩
      go_wp2_with fail
      with_reducible refine (HBI.out _).mono ?_
      rintro e wy ⟨rfl, rfl⟩
      go_wp2_with fail
      go_roundw
      case rel => exact ⟨j + 1, by omega, by go_num, by rw [HST.out], hB.out⟩
      case measure => simp [intOf]; omega
    · have hall : x.lats.take j = x.lats := List.take_of_length_le (by omega)
      rw [hall, ← HNX.out]
      go_wp2_with fail
      refine bodyPost_ret (v := .tuple #[.string (bs (next x st inp)), .int .i64 0]) (by simp [results, Tryz.results22, go_sem]) rfl ?_
      exact ⟨rfl, HB1.out.trans (hB.out.mono HB1.out.size)⟩

end BadP
end Go.Proofs.YtjmmhbmbafjneaaGreatDoor

/-
  append as a step of a region that draws its order.
-/
namespace Go.Proofs.YtjmmhbmbafjneaaGreatDoor.Base
open Go.RowKit
set_option linter.unusedVariables false

theorem step_app {P : Program} {w : World} {ops : Array Oper} {o : Oper} {a : Act} {K : Act → World → Prop} {Q : Exit → Act → World → Prop} {E : Prop} (hgd : o.guard = none) {s x : Operand} {t : TypeId}
    (ho : o.op = .call { callee := .builtin .append, args := #[s, x], argTypes := #[t, t] })
    {e : TypeId} {z : Value} {bytes : Nat} (B : Nat) (v : Value) (n : Nat) (vs : List Value) (ao : Option Addr) (m c : Nat) (us : List Value)
    (hinfo : (P.info? e).map (fun i => (i.zero, i.size, i.bytes)) = some (some z, 1, bytes)) (ht : P.underlying t = some (.slice e)) (hzs : z.cells.size = 1)
    (hs : a.eval s = v) (hx : a.eval x = .slice ao m c) (hu : ∀ u ∈ us, u.oneCell' = true)
    (hown : w.ownsRow B e 1 v n vs) (hsl : Sl w ao m c us) (hB : B ≤ w.heap.size) (hn : (n + m) * bytes ≤ 140737488355328) (hn' : n + m ≤ 9223372036854775807) {W : World} (hb : Below B W w)
    (hK : ∀ a' c' w1, w1.ownsRow B e 1 (.slice a' (n + m) c') (n + m) (vs ++ us) → Below B W w1 → w.heap.size ≤ w1.heap.size → K (a.put o.dst (.slice a' (n + m) c')) w1) :
    if Region.wanted o (yielded ops a.tmps) = true then Oper.wp P o a w K Q else E := by
  have hw : Region.wanted o (yielded ops a.tmps) = true := by simp [Region.wanted, hgd]
  rw [if_pos hw]
  obtain ⟨i, hi, hz0, hz1, hz2⟩ := info_parts hinfo
  cases ao with
  | none =>
    obtain ⟨rfl, rfl⟩ := hsl.bare rfl
    have hus : us = [] := List.eq_nil_of_length_eq_zero hsl.len
    subst hus
    obtain ⟨a', c', rfl, _⟩ := own_sl hown
    have hrun := run_append_owned_none (P := P) (w := w) B t o.type e i 1 ht hi _ n vs hown
    unfold Oper.wp
    simp [execOp, ho, resolve, invoke, builtin, hs, hx, hrun, Result.andThen]
    exact hK a' c' w (by simpa using hown) hb (Nat.le_refl _)
  | some ad =>
    have hl : us.length = m * 1 := by rw [hsl.len]; omega
    have hnews : ∀ (j : Nat) (u : Value), us[j]? = some u → w.cell? (ad.add j) = some u := by
      intro j u hj
      obtain ⟨b, o, ha, _, hc⟩ := hsl.cell j u hj
      simp only [Option.some.injEq] at ha
      subst ha
      rw [Addr.add_lit]
      exact hc
    obtain ⟨v', w1, hr, hown', hgrow, _, _⟩ := run_append_own_at (P := P) w B t o.type e i z 1 bytes ht hi hz0 hz1 hz2 hzs (by decide) v n vs hown ad m c us hl hnews hu (by unfold maxLen; omega) hn hB
    obtain ⟨a', c', rfl, _⟩ := own_sl hown'
    unfold Oper.wp execOp
    simp only [ho, resolve, invoke, builtin, Sem.run_bind, Sem.run_pure, Result.andThen_ok, List.map_toArray, List.map_cons, List.map_nil, hs, hx, hr]
    exact hK a' c' w1 hown' (below_own hown hgrow hb hB) hgrow.size

theorem step_push {P : Program} {w : World} {ops : Array Oper} {o : Oper} {a : Act} {K : Act → World → Prop} {Q : Exit → Act → World → Prop} {E : Prop} (hgd : o.guard = none) {s x : Operand} {t : TypeId}
    (ho : o.op = .call { callee := .builtin .append, args := #[s, x], argTypes := #[t, t] })
    {e : TypeId} {z : Value} {bytes : Nat} (B : Nat) (w0 : World) (u : Value) (v : Value) (n : Nat) (vs : List Value)
    (hinfo : (P.info? e).map (fun i => (i.zero, i.size, i.bytes)) = some (some z, 1, bytes)) (ht : P.underlying t = some (.slice e)) (hzs : z.cells.size = 1)
    (hw : w = w0.alloc (.cells #[u] e)) (hs : a.eval s = v) (hx : a.eval x = .slice (some ⟨w0.heap.size, 0, none⟩) 1 1) (hu : u.oneCell' = true)
    (hown : w0.ownsRow B e 1 v n vs) (hB : B ≤ w0.heap.size) (hn : (n + 1) * bytes ≤ 140737488355328) (hn' : n + 1 ≤ 9223372036854775807) {W : World} (hb : Below B W w0)
    (hK : ∀ a' c w1, w1.ownsRow B e 1 (.slice a' (n + 1) c) (n + 1) (vs ++ [u]) → Below B W w1 → w0.heap.size + 1 ≤ w1.heap.size → K (a.put o.dst (.slice a' (n + 1) c)) w1) :
    if Region.wanted o (yielded ops a.tmps) = true then Oper.wp P o a w K Q else E := by
  subst hw
  refine step_app hgd ho B v n vs (some ⟨w0.heap.size, 0, none⟩) 1 1 [u] hinfo ht hzs hs hx (by intro q hq; simp at hq; subst hq; exact hu) (hown.alloc _) (sl_new w0 #[u] e 1 rfl (by decide)) (by simp; omega) hn hn' (hb.alloc (by omega) _) ?_
  intro a' c' w1 h1 h2 h3
  exact hK a' c' w1 h1 h2 (by simpa using h3)

theorem step_pushD {P : Program} {w : World} {ops : Array Oper} {o : Oper} {a : Act} {K : Act → World → Prop} {Q : Exit → Act → World → Prop} {E : Prop} (hgd : o.guard = none) {s x : Operand} {t : TypeId}
    (ho : o.op = .call { callee := .builtin .append, args := #[s, x], argTypes := #[t, t] })
    {e : TypeId} {z : Value} {bytes : Nat} (B : Nat) (w0 : World) (u : Value) (v : Value) (n : Nat) (vs : List Value)
    (hinfo : (P.info? e).map (fun i => (i.zero, i.size, i.bytes)) = some (some z, 1, bytes)) (ht : P.underlying t = some (.slice e)) (hzs : z.cells.size = 1)
    (hw : w = (w0.alloc (.cells #[u] e)).drew) (hs : a.eval s = v) (hx : a.eval x = .slice (some ⟨w0.heap.size, 0, none⟩) 1 1) (hu : u.oneCell' = true)
    (hown : w0.ownsRow B e 1 v n vs) (hB : B ≤ w0.heap.size) (hn : (n + 1) * bytes ≤ 140737488355328) (hn' : n + 1 ≤ 9223372036854775807) {W : World} (hb : Below B W w0)
    (hK : ∀ a' c w1, w1.ownsRow B e 1 (.slice a' (n + 1) c) (n + 1) (vs ++ [u]) → Below B W w1 → w0.heap.size + 1 ≤ w1.heap.size → K (a.put o.dst (.slice a' (n + 1) c)) w1) :
    if Region.wanted o (yielded ops a.tmps) = true then Oper.wp P o a w K Q else E := by
  subst hw
  refine step_app hgd ho B v n vs (some ⟨w0.heap.size, 0, none⟩) 1 1 [u] hinfo ht hzs hs hx (by intro q hq; simp at hq; subst hq; exact hu) (hown.alloc _).drew ((sl_new w0 #[u] e 1 rfl (by decide)).next (Below.refl _ _).drew) (by show B ≤ (w0.alloc _).heap.size; simp; omega) hn hn' (hb.alloc (by omega) _).drew ?_
  intro a' c' w1 h1 h2 h3
  exact hK a' c' w1 h1 h2 (by have : (w0.alloc (.cells #[u] e)).heap.size ≤ w1.heap.size := h3; simpa using this)

theorem step_lit {P : Program} {w : World} {ops : Array Oper} {o : Oper} {a : Act} {K : Act → World → Prop} {Q : Exit → Act → World → Prop} {E : Prop} (hgd : o.guard = none) {s x : Operand} {t : TypeId}
    (ho : o.op = .call { callee := .builtin .append, args := #[s, x], argTypes := #[t, t] })
    {e : TypeId} {z : Value} {bytes : Nat} (B : Nat) (w0 : World) (cs : Array Value) (m : Nat) (v : Value) (n : Nat) (vs : List Value)
    (hinfo : (P.info? e).map (fun i => (i.zero, i.size, i.bytes)) = some (some z, 1, bytes)) (ht : P.underlying t = some (.slice e)) (hzs : z.cells.size = 1) (hcs : cs.size = m) (hm : m ≤ 9223372036854775807)
    (hw : w = w0.alloc (.cells cs e)) (hs : a.eval s = v) (hx : a.eval x = .slice (some ⟨w0.heap.size, 0, none⟩) m m) (hu : ∀ u ∈ cs.toList, u.oneCell' = true)
    (hown : w0.ownsRow B e 1 v n vs) (hB : B ≤ w0.heap.size) (hn : (n + m) * bytes ≤ 140737488355328) (hn' : n + m ≤ 9223372036854775807) {W : World} (hb : Below B W w0)
    (hK : ∀ a' c w1, w1.ownsRow B e 1 (.slice a' (n + m) c) (n + m) (vs ++ cs.toList) → Below B W w1 → w0.heap.size + 1 ≤ w1.heap.size → K (a.put o.dst (.slice a' (n + m) c)) w1) :
    if Region.wanted o (yielded ops a.tmps) = true then Oper.wp P o a w K Q else E := by
  subst hw
  refine step_app hgd ho B v n vs (some ⟨w0.heap.size, 0, none⟩) m m cs.toList hinfo ht hzs hs hx hu (hown.alloc _) (sl_new w0 cs e m hcs hm) (by simp; omega) hn hn' (hb.alloc (by omega) _) ?_
  intro a' c' w1 h1 h2 h3
  exact hK a' c' w1 h1 h2 (by simpa using h3)

end Go.Proofs.YtjmmhbmbafjneaaGreatDoor.Base

/-
  interlockref07.All: all strings of bits of a length.
-/
namespace Go.Proofs.YtjmmhbmbafjneaaGreatDoor
open Go.RowKit Base
set_option linter.unusedVariables false
set_option linter.unusedSimpArgs false
namespace AllS
def b0 : ByteArray := ⟨#[48]⟩
def b1 : ByteArray := ⟨#[49]⟩

def two (s : ByteArray) : List ByteArray := [s ++ b0, s ++ b1]

def allS : Nat → List ByteArray
  | 0 => [⟨#[]⟩]
  | n + 1 => (allS n).flatMap two

theorem two_len (l : List ByteArray) : (l.flatMap two).length = 2 * l.length := by
  induction l with
  | nil => rfl
  | cons x r ih => simp only [List.flatMap_cons, List.length_append, List.length_cons, ih]; simp [two]; omega

theorem allS_len (n : Nat) : (allS n).length = 2 ^ n := by
  induction n with
  | zero => rfl
  | succ n ih => rw [allS, two_len, ih, Nat.pow_succ]; omega

def strs (ss : List ByteArray) : List Value := ss.map Value.string

theorem strs_len (ss : List ByteArray) : (strs ss).length = ss.length := by simp [strs]

theorem strs_app (a b : List ByteArray) : strs (a ++ b) = strs a ++ strs b := by simp [strs]

theorem strs_one (xs : List ByteArray) : ∀ u ∈ strs xs, u.oneCell' = true := by
  intro u hu
  obtain ⟨_, _, rfl⟩ := List.mem_map.1 hu
  rfl

/-- An element of a slice of strings. -/
theorem str_at {w : World} {a : Option Addr} {n c : Nat} {xs : List ByteArray} (h : Sl w a n c (strs xs)) {k : Nat} (hk : k < n) :
    ∃ b o, ∃ hx : k < xs.length, a = some ⟨b, o, none⟩ ∧ b < w.heap.size ∧ w.cell? ⟨b, o + k, none⟩ = some (.string xs[k]) := by
  obtain ⟨b, o, x, ha, hs, hx, hc⟩ := h.at hk
  unfold strs at hx
  rw [List.getElem?_map, Option.map_eq_some_iff] at hx
  obtain ⟨y, hy, rfl⟩ := hx
  obtain ⟨hk', rfl⟩ := List.getElem?_eq_some_iff.1 hy
  exact ⟨b, o, hk', ha, hs, hc⟩

theorem take_two (l : List ByteArray) (k : Nat) (hk : k < l.length) : (l.take (k + 1)).flatMap two = (l.take k).flatMap two ++ two l[k] := by
  rw [List.take_succ_eq_append_getElem hk, List.flatMap_append]
  simp

theorem allS_size : ∀ (n : Nat), ∀ s ∈ allS n, s.size = n
  | 0 => by intro s hs; simp [allS] at hs; subst hs; rfl
  | n + 1 => by
    intro s hs
    simp only [allS, List.mem_flatMap, two] at hs
    obtain ⟨t, ht, h⟩ := hs
    have := allS_size n t ht
    simp at h
    rcases h with rfl | rfl
    · rw [ByteArray.size_append, this]; rfl
    · rw [ByteArray.size_append, this]; rfl

theorem info_str : (Tryz.prog.info? 9).map (fun i => (i.zero, i.size, i.bytes)) = some (some (.string ⟨#[]⟩), 1, 16) := by kernel_rfl

set_option maxRecDepth 4000 in
set_option maxHeartbeats 8000000 in
theorem all_any (w : World) (V : Nat) (hV : V ≤ 16) :
    Calls Tryz.prog 10 #[.int .i64 V] w fun e w' => ∃ a c, e = .returned (.slice a (allS V).length c) ∧ w'.ownsRow w.heap.size 9 1 (.slice a (allS V).length c) (allS V).length (strs (allS V)) ∧ Below w.heap.size w w' := by
  have hown0 : Hid ((w.alloc (.cells #[.string ⟨#[]⟩] 9)).ownsRow w.heap.size 9 1 (.slice (some ⟨w.heap.size, 0, none⟩) 1 1) 1 (strs (allS 0))) := by
    have h := World.ownsRow_lit (base := w.heap.size) (e := 9) (size := 1) w #[.string ⟨#[]⟩] 1 (by simp) (by unfold maxLen; omega) (by simp)
    exact h
  have HBW : Hid (Below w.heap.size w (w.alloc (.cells #[.string ⟨#[]⟩] 9))) := (Below.refl _ _).alloc (Nat.le_refl _) _
  go_enter Tryz.func10, Tryz.ntmps10
  go_wp2_with fail
  generalize w.alloc (.cells #[.string ⟨#[]⟩] 9) = W2 at *
  go_loopw [3, 4] (fun s i wr => ∃ (k m : Nat), k ≤ V ∧ i = .int .i64 k ∧ Hid ((allS k).length = m) ∧ m ≤ 65536 ∧ (∃ a' c', s = .slice a' m c' ∧ wr.ownsRow w.heap.size 9 1 (.slice a' m c') m (strs (allS k))) ∧ Below w.heap.size w wr) (fun _ i _ => V - (intOf i).toNat)
  case atStart => exact ⟨0, 1, Nat.zero_le _, rfl, rfl, by omega, ⟨_, 1, rfl, hown0.out⟩, HBW.out⟩
  case round =>
    obtain ⟨k, m, hk, rfl, hM, hm, ⟨a', c', rfl, hown⟩, hbr⟩ := hrel
    obtain ⟨a9, c9, e9, hs9⟩ := own_sl hown
    simp only [Value.slice.injEq] at e9
    obtain ⟨rfl, _, rfl⟩ := e9
    have hcap' := hs9.cap
    have hbig' := hs9.big
    have HS := Lib.hid hs9
    have HO := Lib.hid hown
    clear hs9 hown
    have hbase : w.heap.size ≤ wr.heap.size := hbr.size
    by_cases hlt : k < V
    · have hm2 : m ≤ 32768 := by
        have h := hM.out
        rw [allS_len] at h
        have h2 : 2 ^ k ≤ 2 ^ 15 := Nat.pow_le_pow_right (by decide) (by omega)
        omega
      go_wp2_with fail
      generalize wr = wo at *
      go_loopw [5, 6] (fun s i wq => ∃ (j : Nat), j ≤ m ∧ i = .int .i64 j ∧ (∃ a2 c2, s = .slice a2 (2 * j) c2 ∧ wq.ownsRow wo.heap.size 9 1 (.slice a2 (2 * j) c2) (2 * j) (strs (((allS k).take j).flatMap two))) ∧ Below wo.heap.size wo wq) (fun _ i _ => m - (intOf i).toNat)
      case atStart => exact ⟨0, Nat.zero_le _, rfl, ⟨none, 0, rfl, World.ownsRow_nil _ _ _ _⟩, Below.refl _ _⟩
      case round =>
        obtain ⟨j, hj, rfl, ⟨a2, c2, rfl, hown2⟩, hbq⟩ := hrel
        have HO2 := Lib.hid hown2
        clear hown2
        have hbase2 : wo.heap.size ≤ wr.heap.size := hbq.size
        by_cases hjm : j < m
        · obtain ⟨g, q, hy, rfl, hgs, hcy⟩ := str_at (HS.out.next hbq) hjm
          have HT := Lib.hid (take_two (allS k) j hy)
          have hys : (allS k)[j].size ≤ 16 := by rw [allS_size k _ (List.getElem_mem hy)]; omega
          generalize (allS k)[j] = y at *
          have hys2 : ¬ 9223372036854775807 < y.size + 1 := by omega
          go_wp2_with fail
          go_region_law (first | (refine step_lit (by rfl) (by rfl) wo.heap.size _ #[.string (y ++ b0), .string (y ++ b1)] 2 (.slice a2 (2 * j) c2) (2 * j) (strs (((allS k).take j).flatMap two)) info_str Tryz.underlying30 (by rfl) (by rfl) (by omega) (by rfl) (by rfl) (by rfl) (by intro u hu; simp at hu; rcases hu with rfl | rfl <;> rfl) HO2.out.drew (by exact hbase2) (by omega) (by omega) hbq.drew ?_; intro a3 c3 w3 hown3 hb3 hz3) | fail)
          all_goals
            go_wp2_with fail
            go_roundw
            case rel =>
              refine ⟨j + 1, by omega, by go_num, ⟨a3, c3, by congr 1, ?_⟩, hb3⟩
              rw [HT.out, strs_app]
              exact hown3
            case measure => simp [intOf]; omega
        · have hjm' : j = m := by omega
          have HF : Hid (((allS k).take j).flatMap two = allS (k + 1)) := by
            show _ = _
            rw [hjm', ← hM.out, List.take_length]; rfl
          have HM2 : Hid ((allS (k + 1)).length = 2 * j) := by
            show _ = _
            rw [allS, two_len, hM.out, hjm']
          clear hjm'
          go_wp2_with fail
          go_roundw
          case rel =>
            refine ⟨k + 1, 2 * j, by omega, by go_num, HM2, by omega, ⟨a2, c2, rfl, ?_⟩, hbr.trans (hbq.mono hbase)⟩
            rw [← HF.out]
            exact own_mono HO2.out hbase
          case measure => simp [intOf]; omega
    · have hkV : k = V := by omega
      have HMV : Hid ((allS V).length = m) := by rw [← hkV]; exact hM
      have HOV : Hid (wr.ownsRow w.heap.size 9 1 (.slice a' m c') m (strs (allS V))) := by rw [← hkV]; exact HO
      have hkn : ¬ ((k : Int) < V) := by omega
      clear hkV hlt hk
      go_wp2_with fail
      go_ret
      exact ⟨a', c', by rw [HMV.out]; rfl, by rw [HMV.out]; exact HOV.out, hbr⟩
end AllS
end Go.Proofs.YtjmmhbmbafjneaaGreatDoor

/-
  Bits as texts: interlockref07's All, index.
-/
namespace Go.Proofs.YtjmmhbmbafjneaaGreatDoor
open Go.RowKit Base
set_option linter.unusedVariables false
set_option linter.unusedSimpArgs false
namespace BadP
open Circuit

theorem allS_bs : ∀ n, AllS.allS n = (allL n).map bs
  | 0 => rfl
  | n + 1 => by
    rw [AllS.allS, allL, allS_bs n]
    generalize allL n = L
    induction L with
    | nil => rfl
    | cons l r ih =>
      rw [List.map_cons, List.flatMap_cons, List.flatMap_cons, ih, List.map_append]
      congr 1
      show [bs l ++ AllS.b0, bs l ++ AllS.b1] = [bs (l ++ [false]), bs (l ++ [true])]
      rw [bs_app, bs_app]; rfl
theorem idx_take {L : List Bool} {k : Nat} (hk : k < L.length) : idx (L.take (k + 1)) = 2 * idx (L.take k) + bitN L[k] := by
  rw [List.take_succ_eq_append_getElem hk, idx_snoc]
theorem index_any (w : World) (L : List Bool) (hL : L.length ≤ 16) :
    Calls Tryz.prog 34 #[.string (bs L)] w fun e w' => e = .returned (.int .i64 (idx L)) ∧ w' = w := by
  have HSZ : Hid ((bs L).size = L.length) := bs_size L
  have hsz : (bs L).size ≤ 16 := by rw [bs_size]; exact hL
  have HBY : Hid (∀ (k : Nat) (h : k < (bs L).size), (bs L)[k]'h = byteB (L.getD k false)) := fun k h => bs_at L h
  have HIX : Hid (∀ k, k < (bs L).size → idx (L.take (k + 1)) = 2 * idx (L.take k) + bitN (L.getD k false)) := fun k h => by
    rw [bs_size] at h
    rw [idx_take h, List.getD_eq_getElem?_getD, List.getElem?_eq_getElem h]; rfl
  have HLE : Hid (∀ k, k ≤ 16 → idx (L.take k) < 65536) := fun k hk => by
    have := idx_lt (n := (L.take k).length) (s := L.take k) rfl
    have h2 : 2 ^ (L.take k).length ≤ 2 ^ 16 := Nat.pow_le_pow_right (by decide) (by rw [List.length_take]; omega)
    omega
  have HAL : Hid (L.take (bs L).size = L) := by show _ = _; rw [bs_size, List.take_length]
  generalize bs L = s at *
  go_enter Tryz.func34, Tryz.ntmps34
  go_wp2
  go_loop [3, 4] (fun n i => ∃ k : Nat, k ≤ s.size ∧ i = .int .i64 k ∧ n = .int .i64 (idx (L.take k))) (fun _ i => s.size - (intOf i).toNat)
  case atStart => exact ⟨0, Nat.zero_le _, rfl, rfl⟩
  case round =>
    obtain ⟨k, hk, rfl, rfl⟩ := hrel
    by_cases hlt : k < s.size
    · have hb := HBY.out k hlt
      have hix := HIX.out k hlt
      have hle := HLE.out k (by omega)
      generalize L.getD k false = b at *
      have HIXX := Lib.hid hix
      generalize idx (L.take k) = m at *
      cases b
      · have hb2 : (s[k].toNat : Int) = 48 := by rw [hb]; rfl
        clear hb hix
        go_wp2_with fail
        go_round
        case rel => exact ⟨k + 1, by omega, by go_num, by have h9 := HIXX.out; simp [bitN] at h9; go_num⟩
        case measure => simp [intOf]; omega
      · have hb2 : (s[k].toNat : Int) = 49 := by rw [hb]; rfl
        clear hb hix
        go_wp2_with fail
        go_round
        case rel => exact ⟨k + 1, by omega, by go_num, by have h9 := HIXX.out; simp [bitN] at h9; go_num⟩
        case measure => simp [intOf]; omega
    · have hks : k = s.size := by omega
      have HAL2 := HAL
      go_wp2_with fail
      go_ret
      exact ⟨by rw [HAL2.out]; rfl, rfl⟩

end BadP
end Go.Proofs.YtjmmhbmbafjneaaGreatDoor

/-
  interlockref07's Steps.
-/
namespace Go.Proofs.YtjmmhbmbafjneaaGreatDoor
open Go.RowKit Base
set_option linter.unusedVariables false
set_option linter.unusedSimpArgs false
namespace BadP
open Circuit Coi

theorem ints_set (l : List Int) (j : Nat) (v : Int) : (ints l).set j (.int .i64 v) = ints (l.set j v) := by unfold ints; rw [List.map_set]
theorem ints_get {l : List Int} {j : Nat} {v : Int} (h : l[j]? = some v) : (ints l)[j]? = some (.int .i64 v) := by unfold ints; rw [List.getElem?_map, h]; rfl
structure I1 (x : Circ) (i : Nat) (out : List Int) : Prop where
  len : out.length = 2 ^ x.lats.length
  at' : ∀ (j : Nat) s, j < i → (allL x.lats.length)[j]? = some s → out[j]? = some (if tt (initL x s) = true then 0 else -1)
theorem i1_more {x : Circ} {i : Nat} {out : List Int} (h : I1 x i out) {s : List Bool} (hs : (allL x.lats.length)[i]? = some s) {v : Int} (hv : v = if tt (initL x s) = true then 0 else -1) : I1 x (i + 1) (out.set i v) :=
  ⟨by rw [List.length_set]; exact h.len, fun j s' hj hs' => by
    have hi : i < out.length := by
      have := (List.getElem?_eq_some_iff.1 hs).1
      rw [allL_len] at this
      rw [h.len]; exact this
    rw [List.getElem?_set]
    by_cases e : i = j
    · subst e
      rw [hs] at hs'
      cases hs'
      rw [if_pos rfl, if_pos hi, hv]
    · rw [if_neg e]; exact h.at' j s' (by omega) hs'⟩
theorem set_twice (l : List Int) (i : Nat) (a b : Int) : (l.set i a).set i b = l.set i b := by simp

theorem str_bs {w : World} {a : Option Addr} {n c V : Nat} (h : Sl w a n c (AllS.strs (AllS.allS V))) {k : Nat} (hk : k < n) :
    ∃ b o s, a = some ⟨b, o, none⟩ ∧ b < w.heap.size ∧ (allL V)[k]? = some s ∧ w.cell? ⟨b, o + k, none⟩ = some (.string (bs s)) := by
  obtain ⟨b, o, hx, ha, hb, hc⟩ := AllS.str_at h hk
  have h2 : (AllS.allS V)[k]? = some (AllS.allS V)[k] := List.getElem?_eq_getElem hx
  generalize (AllS.allS V)[k] = y at *
  rw [allS_bs, List.getElem?_map, Option.map_eq_some_iff] at h2
  obtain ⟨s, hs, rfl⟩ := h2
  exact ⟨b, o, s, ha, hb, hs, hc⟩

theorem info_i : (Tryz.prog.info? 3).map (fun i => (i.zero, i.size, i.bytes)) = some (some (.int .i64 0), 1, 8) := by kernel_rfl

set_option maxRecDepth 8000 in
set_option maxHeartbeats 16000000 in
theorem steps_any (w : World) (x : Circ) (p : At) (hin : InCirc w x p) (hw : WfC x) (hok : CheckOk x) (hza : x.ands.length * 24 ≤ 140737488355328) (hl4 : x.lats.length ≤ 4) (hi3 : x.ins.length ≤ 3)
    (aA : Option Addr) (n cA : Nat) (vs : List Value) (A : List (List Int)) (hA : Sl2 w aA n cA vs A) (hA64 : ∀ y ∈ A.flatten, -9223372036854775808 ≤ y ∧ y ≤ 9223372036854775807) :
    Calls Tryz.prog 14 #[.agg (cells x p), .slice aA n cA] w fun e w' => ∃ g out, e = .returned (.slice (some ⟨g, 0, none⟩) (2 ^ x.lats.length) (2 ^ x.lats.length)) ∧ BoxN g (ints out) w' ∧ SOut x A out ∧ w.heap.size ≤ g ∧ Below w.heap.size w w' := by
  obtain ⟨W1, hW1⟩ : ∃ U, w.alloc (.cells (cells x p) 27) = U := ⟨_, rfl⟩
  obtain ⟨hb1, hx1⟩ := cbox_new w x p W1 hW1
  have HB1 := Lib.hid hb1
  have HX := Lib.hid (fun (U : World) (hU : Below W1.heap.size W1 U) => hx1.next hU (Nat.le_refl _))
  have HIN := fun (U : World) (hU : Below W1.heap.size W1 U) => (hin.next hb1).next hU
  have HVA := fun (U : World) (hU : Below W1.heap.size W1 U) (s i : List Bool) (hs : s.length = x.lats.length) (hi : i.length = x.ins.length) => values_any U x p (HIN U hU) hw hok hza s i hs hi
  have HNA := fun (U : World) (hU : Below W1.heap.size W1 U) (s i : List Bool) (hs : s.length = x.lats.length) (hi : i.length = x.ins.length) => next_any U x p (HIN U hU) hw hok hza s i hs hi
  have hvl : ∀ s i, (vals x s i).length ≤ 9223372036854775807 := fun s i => by rw [vals_len]; have := hok.1.2.1; omega
  have HAA := fun (U : World) (hU : Below W1.heap.size W1 U) (s i : List Bool) => allowed_any U x p (HIN U hU) (vals x s i) (hvl s i) (lits_in hok hw).2.1 aA n cA vs A ((hA.next hb1).next hU) hA64
  have HIA := fun (U : World) (hU : Below W1.heap.size W1 U) (s : List Bool) (hs : s.length = x.lats.length) => Initial.initial_any U x p (HIN U hU) (bs s) (by rw [bs_size]; omega)
  have HL1 := Lib.hid (fun (U : World) => AllS.all_any U x.lats.length (by omega))
  have HL2 := Lib.hid (fun (U : World) => AllS.all_any U x.ins.length (by omega))
  obtain ⟨N, hN⟩ : ∃ m, 2 ^ x.lats.length = m := ⟨_, rfl⟩
  obtain ⟨K, hK⟩ : ∃ m, 2 ^ x.ins.length = m := ⟨_, rfl⟩
  have hN16 : N ≤ 16 := by rw [← hN]; exact Nat.pow_le_pow_right (by decide) hl4
  have hK8 : K ≤ 8 := by rw [← hK]; exact Nat.pow_le_pow_right (by decide) hi3
  rw [AllS.allS_len, hN] at HL1
  rw [AllS.allS_len, hK] at HL2
  have HNN := Lib.hid hN
  have HKK := Lib.hid hK
  have c0 := hx1
  have hc2 := hin.lats.cap
  have hg2 := hin.lats.big
  have hc1 := hin.ins.cap
  have hg1 := hin.ins.big
  have HSM : Hid (x.lats.length ≤ 4 ∧ x.ins.length ≤ 3) := ⟨hl4, hi3⟩
  rw [hN]
  obtain ⟨a1, c1, a2, c2, a3, c3, a4, c4, a5, c5, a6, c6, a7, c7⟩ := p
  simp only [cells] at hW1 HVA HNA HAA HIA hc2 hg2 hc1 hg1 ⊢
  have k1 := c0.k1
  have k2 := c0.k2
  try simp only at k1 k2
  have HVV := Lib.hid HVA
  have HNV := Lib.hid HNA
  have HAV := Lib.hid HAA
  have HIV := Lib.hid HIA
  clear hin hw hok hza hA hA64 hb1 hx1 HIN HVA HNA HAA HIA hvl hN hK c0 hl4 hi3
  go_enter Tryz.func14, Tryz.ntmps14
  go_wp2_with fail
  clear hW1
  have hSK : ∀ U : World, Below W1.heap.size W1 U → U.cell? ⟨w.heap.size, 1, none⟩ = some (.slice a1 x.ins.length c1) ∧ U.cell? ⟨w.heap.size, 2, none⟩ = some (.slice a2 x.lats.length c2) := fun U hU => by
    have c := HX.out U ((fun (U : World) (hU : Below W1.heap.size W1 U) => hU) U hU)
    exact ⟨c.k1, c.k2⟩
  have b00 : Below W1.heap.size W1 W1.drew := (Below.refl _ _).drew
  have hS0 := hSK _ b00
  refine HeldAll.region (fun U : World => U.cell? ⟨w.heap.size, 1, none⟩ = some (.slice a1 x.ins.length c1) ∧ U.cell? ⟨w.heap.size, 2, none⟩ = some (.slice a2 x.lats.length c2)) (by kernel_rfl) ?_
  (refine HeldAll.take (i := 0) (oi := _) (d := some 16) (v := ?_) rfl rfl (by kernel_rfl) (by kernel_rfl) (by kernel_rfl) (fun _ _ _ h => h) (Or.inl ⟨by rfl, ?_⟩) hS0 ?_; rotate_left; (focus (intro w hSw; clear hSw; go_simp; (try with_reducible rfl); done)); (try simp only [Act.put, List.setIfInBounds_toArray, List.set_cons_zero, List.set_cons_succ]))
  (refine HeldAll.take (i := 1) (oi := _) (d := some 17) (v := ?_) rfl rfl (by kernel_rfl) (by kernel_rfl) (by kernel_rfl) (fun _ _ _ h => h) (Or.inl ⟨by rfl, ?_⟩) hS0 ?_; rotate_left; (focus (intro w hSw; (try dsimp only at hSw); go_simp; (try with_reducible rfl); done)); (try simp only [Act.put, List.setIfInBounds_toArray, List.set_cons_zero, List.set_cons_succ]))
  (refine HeldAll.take (i := 2) (oi := _) (d := some 18) (v := ?_) rfl rfl (by kernel_rfl) (by kernel_rfl) (by kernel_rfl) (fun _ _ _ h => h) (Or.inl ⟨by rfl, ?_⟩) hS0 ?_; rotate_left; (focus (intro w hSw; clear hSw; go_simp; (try with_reducible rfl); done)); (try simp only [Act.put, List.setIfInBounds_toArray, List.set_cons_zero, List.set_cons_succ]))
  (refine HeldAll.take (i := 4) (oi := _) (d := some 20) (v := ?_) rfl rfl (by kernel_rfl) (by kernel_rfl) (by kernel_rfl) (fun _ _ _ h => h) (Or.inl ⟨by rfl, ?_⟩) hS0 ?_; rotate_left; (focus (intro w hSw; clear hSw; go_simp; (try with_reducible rfl); done)); (try simp only [Act.put, List.setIfInBounds_toArray, List.set_cons_zero, List.set_cons_succ]))
  (refine HeldAll.take (i := 5) (oi := _) (d := some 21) (v := ?_) rfl rfl (by kernel_rfl) (by kernel_rfl) (by kernel_rfl) (fun _ _ _ h => h) (Or.inl ⟨by rfl, ?_⟩) hS0 ?_; rotate_left; (focus (intro w hSw; (try dsimp only at hSw); go_simp; (try with_reducible rfl); done)); (try simp only [Act.put, List.setIfInBounds_toArray, List.set_cons_zero, List.set_cons_succ]))
  (refine HeldAll.take (i := 6) (oi := _) (d := some 22) (v := ?_) rfl rfl (by kernel_rfl) (by kernel_rfl) (by kernel_rfl) (fun _ _ _ h => h) (Or.inl ⟨by rfl, ?_⟩) hS0 ?_; rotate_left; (focus (intro w hSw; clear hSw; go_simp; (try with_reducible rfl); done)); (try simp only [Act.put, List.setIfInBounds_toArray, List.set_cons_zero, List.set_cons_succ]))
  refine HeldAll.one (i := 3) (by kernel_rfl) ?_
  refine HeldAll.opCall (i := 3) (oi := _) (d := some 19) (R := fun v w' => ∃ a c, v = .slice a N c ∧ w'.ownsRow W1.drew.heap.size 9 1 (.slice a N c) N (AllS.strs (AllS.allS x.lats.length)) ∧ Below W1.drew.heap.size W1.drew w') rfl rfl (by rfl) (by go_simp; done) ((HL1.out W1.drew).mono fun e w' h => by obtain ⟨a, c, he, ho, hb⟩ := h; exact ⟨_, he, a, c, rfl, ho, hb⟩) ?_
  rintro v u1 ⟨aS, cS, rfl, oS, su1⟩
  have b1 : Below W1.heap.size W1 u1 := b00.trans (su1.mono b00.size)
  refine ⟨hSK _ b1, ?_⟩
  (try simp only [Act.put, List.setIfInBounds_toArray, List.set_cons_zero, List.set_cons_succ])
  refine HeldAll.one (i := 7) (by kernel_rfl) ?_
  refine HeldAll.opCall (i := 7) (oi := _) (d := some 23) (R := fun v w' => ∃ a c, v = .slice a K c ∧ w'.ownsRow u1.heap.size 9 1 (.slice a K c) K (AllS.strs (AllS.allS x.ins.length)) ∧ Below u1.heap.size u1 w') rfl rfl (by rfl) (by go_simp; done) ((HL2.out u1).mono fun e w' h => by obtain ⟨a, c, he, ho, hb⟩ := h; exact ⟨_, he, a, c, rfl, ho, hb⟩) ?_
  rintro v u2 ⟨aI, cI, rfl, oI, su2⟩
  have b2 : Below W1.heap.size W1 u2 := b1.trans (su2.mono b1.size)
  refine ⟨hSK _ b2, ?_⟩
  (try simp only [Act.put, List.setIfInBounds_toArray, List.set_cons_zero, List.set_cons_succ])
  have hS0 := hSK _ b2
  (refine HeldAll.take (i := 8) (oi := _) (d := some 5) (v := ?_) rfl rfl (by kernel_rfl) (by kernel_rfl) (by kernel_rfl) (fun _ _ _ h => h) (Or.inl ⟨by rfl, ?_⟩) hS0 ?_; rotate_left; (focus (intro w hSw; clear hSw; go_simp; (try with_reducible rfl); done)); (try simp only [Act.put, List.setIfInBounds_toArray, List.set_cons_zero, List.set_cons_succ]))
  (refine HeldAll.take (i := 9) (oi := _) (d := some 6) (v := ?_) rfl rfl (by kernel_rfl) (by kernel_rfl) (by kernel_rfl) (fun _ _ _ h => h) (Or.inl ⟨by rfl, ?_⟩) hS0 ?_; rotate_left; (focus (intro w hSw; clear hSw; go_simp; (try with_reducible rfl); done)); (try simp only [Act.put, List.setIfInBounds_toArray, List.set_cons_zero, List.set_cons_succ]))
  refine HeldAll.done (by kernel_rfl) ?_ _
  have HSS := Lib.hid (own_sl' (own_next oS su2))
  have HSI := Lib.hid (own_sl' oI)
  have hcS := HSS.out.cap
  have hgS := HSS.out.big
  have hcI := HSI.out.cap
  have hgI := HSI.out.big
  have HB3 := Lib.hid b2
  clear oS oI su1 su2 b1 b2 b00 hSK hS0 k1 k2 hc1 hg1 hc2 hg2
  skip
  go_upto_region 2 with fail
  go_upto_region 3 with (at_make; (with_reducible refine wpL_make N (L := (N : Int)) (C := (N : Int)) info_i Tryz.underlying22 ?_ ?_ ?_ ?_ ?_ ?_ ?_ ?_); rfl; rfl; rfl; omega; omega; omega; omega; (intro g w4 hown4 hb4 hge hlt4))
  have HBX := Lib.hid (box_own hown4)
  have HB4 := Lib.hid hb4
  have HB13 := HB3
  have HGE := Lib.hid hge
  have hge0 : u2.heap.size ≤ g := hge
  clear hown4 hb4 hlt4
  go_wp2_with fail
  go_loopw [8] (fun u wr => ∃ (i : Nat) (out : List Int), i ≤ N ∧ u = .int .i64 i ∧ Hid (I1 x i out) ∧ Hid (BoxN g (ints out) wr) ∧ Hid (Below u2.heap.size u2 wr)) (fun u _ => N - (intOf u).toNat)
  case atStart => exact ⟨0, List.replicate N 0, Nat.zero_le _, rfl, ⟨by rw [List.length_replicate, HNN.out], fun j s hj => by omega⟩, by show BoxN g (ints (List.replicate N 0)) _; unfold ints; rw [List.map_replicate]; exact HBX.out, HB4.out⟩
  case round =>
    clear HBX HB4
    obtain ⟨i, out, hi, rfl, hI, hX, hB⟩ := hrel
    by_cases hlt : i < N
    · skip
      have HSU := (HSS.out.next hB.out)
      obtain ⟨bt, ot, s, hae, hbt, hs, d0⟩ := str_bs HSU hlt
      subst hae
      have hol : i < out.length := by rw [hI.out.len, HNN.out]; exact hlt
      obtain ⟨v0, hv0⟩ : ∃ v, out[i]? = some v := ⟨_, List.getElem?_eq_getElem hol⟩
      have e0 := hX.out.at' i _ (ints_get hv0)
      have z0 := hX.out.fz i
      have hsl := at_len _ _ _ hs
      obtain ⟨w5, hw5⟩ : ∃ U, wr.setCell ⟨g, i, none⟩ (.int .i64 (-1)) = U := ⟨_, rfl⟩
      have hX5 : BoxN g (ints (out.set i (-1))) w5 := by rw [← hw5, ← ints_set]; exact hX.out.set i _
      have hB5 : Below u2.heap.size u2 w5 := by rw [← hw5]; exact hB.out.setCell (p := ⟨g, i, none⟩) hge0 _
      have HX5 := Lib.hid hX5
      have HB5 := Lib.hid hB5
      have HB5d := Lib.hid (hB5.trans (Below.refl _ _).drew)
      have hiv := HIV.out w5.drew (HB13.out.trans (HB5d.out.mono HB13.out.size)) s hsl
      rw [init_eq hsl] at hiv
      have HIW := Lib.hid hiv
      have c := HX.out w5 (HB13.out.trans (hB5.mono HB13.out.size))
      have k0 := c.k0
      have k1 := c.k1
      have k2 := c.k2
      have k3 := c.k3
      have k4 := c.k4
      have k5 := c.k5
      have k6 := c.k6
      have k7 := c.k7
      try simp only at k0 k1 k2 k3 k4 k5 k6 k7
      have d5 : w5.cell? ⟨bt, ot + i, none⟩ = some (.string (bs s)) := (hB5.cell (p := ⟨bt, ot + i, none⟩) (by show bt < u2.heap.size; have := (HSS.out.at hlt); obtain ⟨b9, o9, x9, ha9, hs9, _⟩ := this; simp only [Option.some.injEq, Addr.mk.injEq] at ha9; omega)).trans (((hB.out.cell (p := ⟨bt, ot + i, none⟩) (by show bt < u2.heap.size; have := (HSS.out.at hlt); obtain ⟨b9, o9, x9, ha9, hs9, _⟩ := this; simp only [Option.some.injEq, Addr.mk.injEq] at ha9; omega)).symm).trans d0)
      have HI2 : Hid (∀ v, v = (if tt (initL x s) = true then (0 : Int) else -1) → I1 x (i + 1) (out.set i v)) := fun v hv => i1_more hI.out hs hv
      generalize hqq : tt (initL x s) = qq at *
      clear hqq hsl hs HSU d0 hX5 hB5 hiv c hI
      go_upto_region 7 with fail
      refine wp_region_still_tail 5 (by kernel_rfl) (by kernel_rfl) ?_
      simp only [List.take_succ_cons, List.take_zero, List.drop_succ_cons, List.drop_zero]
      repeat still_step
      refine wpStill_nil ?_
      go_wp2_with fail
      with_reducible refine HIW.out.mono ?_
      rintro e w6 ⟨rfl, hb6⟩
      have HB6 := Lib.hid (HB5d.out.trans (hb6.mono HB5d.out.size))
      have hx6 := (HX5.out.next (Below.refl _ _).drew HX5.out.lt).next hb6 (by show g < w5.drew.heap.size; exact HX5.out.lt)
      have HX6 := Lib.hid hx6
      clear k0 k1 k2 k3 k4 k5 k6 k7
      clear hb6 d5 hw5 e0 z0
      have hol2 : i < (out.set i (-1)).length := by rw [List.length_set]; exact hol
      have e6 := hx6.at' i _ (ints_get (by rw [List.getElem?_set, if_pos rfl, if_pos hol]))
      have z6 := hx6.fz i
      clear hx6
      cases qq
      · skip
        have HI3 : Hid (I1 x (i + 1) (out.set i (-1))) := HI2.out (-1) rfl
        clear HI2
        go_wp2_with fail
        go_roundw
        case rel => exact ⟨i + 1, out.set i (-1), by omega, by go_num, HI3.out, HX6.out, HB6.out⟩
        case measure => simp [intOf]; omega
      · skip
        have HI3 : Hid (I1 x (i + 1) (out.set i 0)) := HI2.out 0 rfl
        clear HI2
        have HX7 : Hid (BoxN g (ints (out.set i 0)) (w6.setCell ⟨g, i, none⟩ (.int .i64 0))) := by
          have h := HX6.out.set i (.int .i64 0)
          rw [ints_set, set_twice] at h
          exact h
        have HB7 := Lib.hid (HB6.out.setCell (p := ⟨g, i, none⟩) hge0 (.int .i64 0))
        go_wp2_with fail
        go_roundw
        case rel => exact ⟨i + 1, out.set i 0, by omega, by go_num, HI3.out, HX7.out, HB7.out⟩
        case measure => simp [intOf]; omega
    · skip
      have hin : i = N := by omega
      have HLV : Hid (Lv x A 0 out) := lv_first hI.out.len (fun j s hs => hI.out.at' j s (by have := (List.getElem?_eq_some_iff.1 hs).1; rw [allL_len, HNN.out] at this; omega) hs)
      clear hin hI
      go_wp2_with fail
      clear hlt hi
      go_loopw [9] (fun u wr => ∃ (m : Nat) (out : List Int), m ≤ N ∧ u = .int .i64 m ∧ Hid (Lv x A m out) ∧ Hid (BoxN g (ints out) wr) ∧ Hid (Below u2.heap.size u2 wr)) (fun u _ => N - (intOf u).toNat)
      case atStart => exact ⟨0, out, Nat.zero_le _, rfl, HLV.out, hX.out, hB.out⟩
      case round =>
        clear HLV hX hB
        obtain ⟨m, out, hm, rfl, hV, hX, hB⟩ := hrel
        by_cases hlt : m < N
        · skip
          have HMD := Lib.hid (mid_start hV.out)
          clear hV
          go_wp2_with fail
          go_loopw [10] (fun u wr => ∃ (i : Nat) (out : List Int), i ≤ N ∧ u = .int .i64 i ∧ Hid (Mid x A m i 0 out) ∧ Hid (BoxN g (ints out) wr) ∧ Hid (Below u2.heap.size u2 wr)) (fun u _ => N - (intOf u).toNat)
          case atStart => exact ⟨0, out, Nat.zero_le _, rfl, HMD.out, hX.out, hB.out⟩
          case round =>
            clear HMD hX hB
            obtain ⟨i, out, hi, rfl, hM, hX, hB⟩ := hrel
            by_cases hli : i < N
            · skip
              have HM0 := hM
              clear hM
              go_wp2_with fail
              go_loopw [11] (fun u wr => ∃ (k : Nat) (out : List Int), k ≤ K ∧ u = .int .i64 k ∧ Hid (Mid x A m i k out) ∧ Hid (BoxN g (ints out) wr) ∧ Hid (Below u2.heap.size u2 wr)) (fun u _ => K - (intOf u).toNat)
              case atStart => exact ⟨0, out, Nat.zero_le _, rfl, HM0.out, hX.out, hB.out⟩
              case round =>
                clear HM0 hX hB
                obtain ⟨k, out, hk, rfl, hM, hX, hB⟩ := hrel
                have hol : i < out.length := by rw [hM.out.len, HNN.out]; exact hli
                obtain ⟨v0, hv0⟩ : ∃ v, out[i]? = some v := ⟨_, List.getElem?_eq_getElem hol⟩
                have e0 := hX.out.at' i _ (ints_get hv0)
                by_cases hkt : k < K
                · skip
                  have hd : decide ((k : Int) < (K : Int)) = true := decide_eq_true (by omega)
                  by_cases hvm : v0 = (m : Int)
                  · skip
                    have hq0 : (v0 == (m : Int)) = true := by simpa using hvm
                    have HOI : Hid (out[i]? = some (m : Int)) := by show _ = _; rw [hv0, hvm]
                    clear hvm hv0
                    obtain ⟨bt, ot, s, hae, hbt, hs, d0⟩ := str_bs (HSS.out.next hB.out) hli
                    obtain ⟨bq, oq, q, haq, hbq, hq, d1⟩ := str_bs (HSI.out.next hB.out) hkt
                    obtain ⟨_, _, _, ht1, hbs2, _⟩ := HSS.out.at hli
                    obtain ⟨_, _, _, ht2, hbq2, _⟩ := HSI.out.at hkt
                    rw [hae] at ht1
                    rw [haq] at ht2
                    simp only [Option.some.injEq, Addr.mk.injEq] at ht1 ht2
                    rw [← ht1.1] at hbs2
                    rw [← ht2.1] at hbq2
                    clear ht1 ht2
                    subst hae
                    subst haq
                    have hsl := at_len _ _ _ hs
                    have hql := at_len _ _ _ hq
                    have HBD := Lib.hid (hB.out.trans (Below.refl _ _).drew)
                    have HCV := Lib.hid (HVV.out wr.drew (HB13.out.trans (HBD.out.mono HB13.out.size)) s q hsl hql)
                    have HXD := Lib.hid (hX.out.next (Below.refl _ _).drew hX.out.lt)
                    have c := HX.out wr (HB13.out.trans (hB.out.mono HB13.out.size))
                    have k0 := c.k0
                    have k1 := c.k1
                    have k2 := c.k2
                    have k3 := c.k3
                    have k4 := c.k4
                    have k5 := c.k5
                    have k6 := c.k6
                    have k7 := c.k7
                    try simp only at k0 k1 k2 k3 k4 k5 k6 k7
                    have HSL := Lib.hid hsl
                    have HQL := Lib.hid hql
                    have HS0 := Lib.hid hs
                    have HQ0 := Lib.hid hq
                    have D0 : Hid (∀ U, Below u2.heap.size u2 U → U.cell? ⟨bt, ot + i, none⟩ = some (.string (bs s)) ∧ U.cell? ⟨bq, oq + k, none⟩ = some (.string (bs q))) := fun U hU => ⟨(hU.cell (p := ⟨bt, ot + i, none⟩) hbs2).trans (((hB.out.cell (p := ⟨bt, ot + i, none⟩) hbs2).symm).trans d0), (hU.cell (p := ⟨bq, oq + k, none⟩) hbq2).trans (((hB.out.cell (p := ⟨bq, oq + k, none⟩) hbq2).symm).trans d1)⟩
                    clear hsl hql hs hq c hX hB
                    generalize hsB : bs s = sB at *
                    generalize hqB : bs q = qB at *
                    have HSB := Lib.hid hsB
                    have HQB := Lib.hid hqB
                    clear hsB hqB
                    clear k0 k1 k2 k3 k4 k5 k6 k7 d0 d1
                    have hSK : ∀ U : World, Below u2.heap.size u2 U → U.cell? ⟨w.heap.size, 0, none⟩ = some (.int .i64 x.max) ∧ U.cell? ⟨w.heap.size, 1, none⟩ = some (.slice a1 x.ins.length c1) ∧ U.cell? ⟨w.heap.size, 2, none⟩ = some (.slice a2 x.lats.length c2) ∧ U.cell? ⟨w.heap.size, 3, none⟩ = some (.slice a3 x.outs.length c3) ∧ U.cell? ⟨w.heap.size, 4, none⟩ = some (.slice a4 x.bads.length c4) ∧ U.cell? ⟨w.heap.size, 5, none⟩ = some (.slice a5 x.invs.length c5) ∧ U.cell? ⟨w.heap.size, 6, none⟩ = some (.slice a6 x.ands.length c6) ∧ U.cell? ⟨w.heap.size, 7, none⟩ = some (.slice a7 x.names.length c7) ∧ U.cell? ⟨bt, ot + i, none⟩ = some (.string sB) ∧ U.cell? ⟨bq, oq + k, none⟩ = some (.string qB) := fun U hU => by
                      have c := HX.out U (HB13.out.trans (hU.mono HB13.out.size))
                      exact ⟨c.k0, c.k1, c.k2, c.k3, c.k4, c.k5, c.k6, c.k7, (D0.out U hU).1, (D0.out U hU).2⟩
                    have hS0 := hSK _ HBD.out
                    have hiI : (i : Int) < (N : Int) := by omega
                    have hkI : (k : Int) < (K : Int) := by omega
                    go_upto_region 18 with fail
                    refine HeldAll.region (fun U : World => U.cell? ⟨w.heap.size, 0, none⟩ = some (.int .i64 x.max) ∧ U.cell? ⟨w.heap.size, 1, none⟩ = some (.slice a1 x.ins.length c1) ∧ U.cell? ⟨w.heap.size, 2, none⟩ = some (.slice a2 x.lats.length c2) ∧ U.cell? ⟨w.heap.size, 3, none⟩ = some (.slice a3 x.outs.length c3) ∧ U.cell? ⟨w.heap.size, 4, none⟩ = some (.slice a4 x.bads.length c4) ∧ U.cell? ⟨w.heap.size, 5, none⟩ = some (.slice a5 x.invs.length c5) ∧ U.cell? ⟨w.heap.size, 6, none⟩ = some (.slice a6 x.ands.length c6) ∧ U.cell? ⟨w.heap.size, 7, none⟩ = some (.slice a7 x.names.length c7) ∧ U.cell? ⟨bt, ot + i, none⟩ = some (.string sB) ∧ U.cell? ⟨bq, oq + k, none⟩ = some (.string qB)) (by kernel_rfl) ?_
                    (refine HeldAll.take (i := 0) (oi := _) (d := some 72) (v := ?_) rfl rfl (by kernel_rfl) (by kernel_rfl) (by kernel_rfl) (fun _ _ _ h => h) (Or.inl ⟨by rfl, ?_⟩) hS0 ?_; rotate_left; (focus (intro w hSw; (try dsimp only at hSw); go_simp; (try with_reducible rfl); done)); (try simp only [Act.put, List.setIfInBounds_toArray, List.set_cons_zero, List.set_cons_succ]))
                    (refine HeldAll.take (i := 1) (oi := _) (d := some 73) (v := ?_) rfl rfl (by kernel_rfl) (by kernel_rfl) (by kernel_rfl) (fun _ _ _ h => h) (Or.inl ⟨by rfl, ?_⟩) hS0 ?_; rotate_left; (focus (intro w hSw; clear hSw; go_simp; (try with_reducible rfl); done)); (try simp only [Act.put, List.setIfInBounds_toArray, List.set_cons_zero, List.set_cons_succ]))
                    (refine HeldAll.take (i := 2) (oi := _) (d := some 74) (v := ?_) rfl rfl (by kernel_rfl) (by kernel_rfl) (by kernel_rfl) (fun _ _ _ h => h) (Or.inl ⟨by rfl, ?_⟩) hS0 ?_; rotate_left; (focus (intro w hSw; clear hSw; go_simp; (try with_reducible rfl); done)); (try simp only [Act.put, List.setIfInBounds_toArray, List.set_cons_zero, List.set_cons_succ]))
                    (refine HeldAll.take (i := 3) (oi := _) (d := some 75) (v := ?_) rfl rfl (by kernel_rfl) (by kernel_rfl) (by kernel_rfl) (fun _ _ _ h => h) (Or.inl ⟨by rfl, ?_⟩) hS0 ?_; rotate_left; (focus (intro w hSw; clear hSw; go_simp; (try with_reducible rfl); done)); (try simp only [Act.put, List.setIfInBounds_toArray, List.set_cons_zero, List.set_cons_succ]))
                    (refine HeldAll.take (i := 4) (oi := _) (d := some 76) (v := ?_) rfl rfl (by kernel_rfl) (by kernel_rfl) (by kernel_rfl) (fun _ _ _ h => h) (Or.inl ⟨by rfl, ?_⟩) hS0 ?_; rotate_left; (focus (intro w hSw; (try dsimp only at hSw); go_simp; (try with_reducible rfl); done)); (try simp only [Act.put, List.setIfInBounds_toArray, List.set_cons_zero, List.set_cons_succ]))
                    (refine HeldAll.take (i := 5) (oi := _) (d := some 77) (v := ?_) rfl rfl (by kernel_rfl) (by kernel_rfl) (by kernel_rfl) (fun _ _ _ h => h) (Or.inl ⟨by rfl, ?_⟩) hS0 ?_; rotate_left; (focus (intro w hSw; clear hSw; go_simp; (try with_reducible rfl); done)); (try simp only [Act.put, List.setIfInBounds_toArray, List.set_cons_zero, List.set_cons_succ]))
                    (refine HeldAll.take (i := 6) (oi := _) (d := some 78) (v := ?_) rfl rfl (by kernel_rfl) (by kernel_rfl) (by kernel_rfl) (fun _ _ _ h => h) (Or.inl ⟨by rfl, ?_⟩) hS0 ?_; rotate_left; (focus (intro w hSw; clear hSw; go_simp; (try with_reducible rfl); done)); (try simp only [Act.put, List.setIfInBounds_toArray, List.set_cons_zero, List.set_cons_succ]))
                    (refine HeldAll.take (i := 7) (oi := _) (d := some 79) (v := ?_) rfl rfl (by kernel_rfl) (by kernel_rfl) (by kernel_rfl) (fun _ _ _ h => h) (Or.inl ⟨by rfl, ?_⟩) hS0 ?_; rotate_left; (focus (intro w hSw; clear hSw; go_simp; (try with_reducible rfl); done)); (try simp only [Act.put, List.setIfInBounds_toArray, List.set_cons_zero, List.set_cons_succ]))
                    (refine HeldAll.take (i := 8) (oi := _) (d := some 80) (v := ?_) rfl rfl (by kernel_rfl) (by kernel_rfl) (by kernel_rfl) (fun _ _ _ h => h) (Or.inl ⟨by rfl, ?_⟩) hS0 ?_; rotate_left; (focus (intro w hSw; (try dsimp only at hSw); go_simp; (try with_reducible rfl); done)); (try simp only [Act.put, List.setIfInBounds_toArray, List.set_cons_zero, List.set_cons_succ]))
                    refine HeldAll.one (i := 9) (by kernel_rfl) ?_
                    refine HeldAll.opCall (i := 9) (oi := _) (d := some 81) (R := fun v w' => v = .tuple #[.string (bs (vals x s q)), .int .i64 0] ∧ Below wr.drew.heap.size wr.drew w') rfl rfl (by rfl) (by go_simp; done) (HCV.out.mono fun e w' h => ⟨_, h.1, rfl, h.2⟩) ?_
                    rintro v w6 ⟨rfl, hb6⟩
                    refine ⟨hSK _ (HBD.out.trans (hb6.mono HBD.out.size)), ?_⟩
                    (try simp only [Act.put, List.setIfInBounds_toArray, List.set_cons_zero, List.set_cons_succ])
                    have hS0 := hSK _ (HBD.out.trans (hb6.mono HBD.out.size))
                    (refine HeldAll.take (i := 10) (oi := _) (d := some 71) (v := ?_) rfl rfl (by kernel_rfl) (by kernel_rfl) (by kernel_rfl) (fun _ _ _ h => h) (Or.inl ⟨by rfl, ?_⟩) hS0 ?_; rotate_left; (focus (intro w hSw; clear hSw; go_simp; (try with_reducible rfl); done)); (try simp only [Act.put, List.setIfInBounds_toArray, List.set_cons_zero, List.set_cons_succ]))
                    (refine HeldAll.take (i := 11) (oi := _) (d := some 82) (v := ?_) rfl rfl (by kernel_rfl) (by kernel_rfl) (by kernel_rfl) (fun _ _ _ h => h) (Or.inl ⟨by rfl, ?_⟩) hS0 ?_; rotate_left; (focus (intro w hSw; clear hSw; go_simp; (try with_reducible rfl); done)); (try simp only [Act.put, List.setIfInBounds_toArray, List.set_cons_zero, List.set_cons_succ]))
                    (refine HeldAll.take (i := 12) (oi := _) (d := some 83) (v := ?_) rfl rfl (by kernel_rfl) (by kernel_rfl) (by kernel_rfl) (fun _ _ _ h => h) (Or.inl ⟨by rfl, ?_⟩) hS0 ?_; rotate_left; (focus (intro w hSw; clear hSw; go_simp; (try with_reducible rfl); done)); (try simp only [Act.put, List.setIfInBounds_toArray, List.set_cons_zero, List.set_cons_succ]))
                    (refine HeldAll.take (i := 13) (oi := _) (d := some 12) (v := ?_) rfl rfl (by kernel_rfl) (by kernel_rfl) (by kernel_rfl) (fun _ _ _ h => h) (Or.inl ⟨by rfl, ?_⟩) hS0 ?_; rotate_left; (focus (intro w hSw; clear hSw; go_simp; (try with_reducible rfl); done)); (try simp only [Act.put, List.setIfInBounds_toArray, List.set_cons_zero, List.set_cons_succ]))
                    (refine HeldAll.take (i := 14) (oi := _) (d := some 13) (v := ?_) rfl rfl (by kernel_rfl) (by kernel_rfl) (by kernel_rfl) (fun _ _ _ h => h) (Or.inl ⟨by rfl, ?_⟩) hS0 ?_; rotate_left; (focus (intro w hSw; clear hSw; go_simp; (try with_reducible rfl); done)); (try simp only [Act.put, List.setIfInBounds_toArray, List.set_cons_zero, List.set_cons_succ]))
                    refine HeldAll.done (by kernel_rfl) ?_ _
                    clear hS0 hSK hiI hkI
                    have HB6 := Lib.hid (HBD.out.trans (hb6.mono HBD.out.size))
                    have HX6 := Lib.hid (HXD.out.next hb6 (by exact HXD.out.lt))
                    clear hb6 e0
                    have HAC := HAV.out w6 (HB13.out.trans (HB6.out.mono HB13.out.size)) s q
                    have HN0 : Hid (allow x A (vals x s q) = false → Mid x A m i (k + 1) out) := fun ha => mid_no hM.out HS0.out HQ0.out ha
                    have HTL : Hid ((next x s q).length = x.lats.length) := next_len _ _ _
                    have hil : idx (next x s q) < out.length := by rw [hM.out.len]; exact idx_lt HTL.out
                    obtain ⟨v2, hv2⟩ : ∃ v, out[idx (next x s q)]? = some v := ⟨_, List.getElem?_eq_getElem hil⟩
                    have HO0 : Hid (0 ≤ v2 → Mid x A m i (k + 1) out) := fun h0 => mid_old hM.out HS0.out HQ0.out hv2 h0
                    have HW0 : Hid (allow x A (vals x s q) = true → v2 < 0 → Mid x A m i (k + 1) (out.set (idx (next x s q)) (m + 1))) := fun ha h0 => mid_new hM.out HS0.out HQ0.out HOI.out ha hv2 h0
                    have HILT : Hid (idx (next x s q) < N) := by have h := hil; rw [hM.out.len, HNN.out] at h; exact h
                    have HV2 := Lib.hid hv2
                    generalize hal : allow x A (vals x s q) = al at *
                    generalize bs (vals x s q) = sv at *
                    have HAC2 := Lib.hid HAC
                    clear hal hil hv2 HAC hM
                    have c := HX.out w6 (HB13.out.trans (HB6.out.mono HB13.out.size))
                    have k0 := c.k0
                    have k1 := c.k1
                    have k2 := c.k2
                    have k3 := c.k3
                    have k4 := c.k4
                    have k5 := c.k5
                    have k6 := c.k6
                    have k7 := c.k7
                    try simp only at k0 k1 k2 k3 k4 k5 k6 k7
                    clear c
                    go_wp2_with fail
                    with_reducible refine HAC2.out.mono ?_
                    rintro e w7 ⟨rfl, hb7⟩
                    have HB7 := Lib.hid (HB6.out.trans (hb7.mono HB6.out.size))
                    have HX7 := Lib.hid (HX6.out.next hb7 HX6.out.lt)
                    clear k0 k1 k2 k3 k4 k5 k6 k7
                    clear hb7
                    cases al
                    · skip
                      have HN1 : Hid (Mid x A m i (k + 1) out) := HN0.out rfl
                      clear HN0 HO0 HW0
                      go_wp2_with fail
                      go_roundw
                      case rel => exact ⟨k + 1, out, by omega, by go_num, HN1.out, HX7.out, HB7.out⟩
                      case measure => simp [intOf]; omega
                    · skip
                      have HW1 : Hid (v2 < 0 → Mid x A m i (k + 1) (out.set (idx (next x s q)) (m + 1))) := HW0.out rfl
                      clear HN0 HW0
                      have HBD7 := Lib.hid (HB7.out.trans (Below.refl _ _).drew)
                      have HCN := HNV.out w7.drew (HB13.out.trans (HBD7.out.mono HB13.out.size)) s q HSL.out HQL.out
                      rw [HSB.out, HQB.out] at HCN
                      have HXD7 := Lib.hid (HX7.out.next (Below.refl _ _).drew HX7.out.lt)
                      have c := HX.out w7 (HB13.out.trans (HB7.out.mono HB13.out.size))
                      have k0 := c.k0
                      have k1 := c.k1
                      have k2 := c.k2
                      have k3 := c.k3
                      have k4 := c.k4
                      have k5 := c.k5
                      have k6 := c.k6
                      have k7 := c.k7
                      try simp only at k0 k1 k2 k3 k4 k5 k6 k7
                      clear c
                      obtain ⟨d0, d1⟩ := D0.out w7 HB7.out
                      have HII := Lib.hid (fun (U : World) => index_any U (next x s q) (by rw [HTL.out]; have := HSM.out; omega))
                      generalize hnx : next x s q = t at *
                      generalize hst : bs t = st at *
                      generalize hix : idx t = ix at *
                      have HCN2 := Lib.hid HCN
                      clear hnx hst hix HCN
                      clear k0 k1 k2 k3 k4 k5 k6 k7 d0 d1
                      have hSK : ∀ U : World, Below u2.heap.size u2 U → U.cell? ⟨w.heap.size, 0, none⟩ = some (.int .i64 x.max) ∧ U.cell? ⟨w.heap.size, 1, none⟩ = some (.slice a1 x.ins.length c1) ∧ U.cell? ⟨w.heap.size, 2, none⟩ = some (.slice a2 x.lats.length c2) ∧ U.cell? ⟨w.heap.size, 3, none⟩ = some (.slice a3 x.outs.length c3) ∧ U.cell? ⟨w.heap.size, 4, none⟩ = some (.slice a4 x.bads.length c4) ∧ U.cell? ⟨w.heap.size, 5, none⟩ = some (.slice a5 x.invs.length c5) ∧ U.cell? ⟨w.heap.size, 6, none⟩ = some (.slice a6 x.ands.length c6) ∧ U.cell? ⟨w.heap.size, 7, none⟩ = some (.slice a7 x.names.length c7) ∧ U.cell? ⟨bt, ot + i, none⟩ = some (.string sB) ∧ U.cell? ⟨bq, oq + k, none⟩ = some (.string qB) := fun U hU => by
                        have c := HX.out U (HB13.out.trans (hU.mono HB13.out.size))
                        exact ⟨c.k0, c.k1, c.k2, c.k3, c.k4, c.k5, c.k6, c.k7, (D0.out U hU).1, (D0.out U hU).2⟩
                      have hS0 := hSK _ HBD7.out
                      have hiI : (i : Int) < (N : Int) := by omega
                      have hkI : (k : Int) < (K : Int) := by omega
                      go_upto_region 20 with fail
                      refine HeldAll.region (fun U : World => U.cell? ⟨w.heap.size, 0, none⟩ = some (.int .i64 x.max) ∧ U.cell? ⟨w.heap.size, 1, none⟩ = some (.slice a1 x.ins.length c1) ∧ U.cell? ⟨w.heap.size, 2, none⟩ = some (.slice a2 x.lats.length c2) ∧ U.cell? ⟨w.heap.size, 3, none⟩ = some (.slice a3 x.outs.length c3) ∧ U.cell? ⟨w.heap.size, 4, none⟩ = some (.slice a4 x.bads.length c4) ∧ U.cell? ⟨w.heap.size, 5, none⟩ = some (.slice a5 x.invs.length c5) ∧ U.cell? ⟨w.heap.size, 6, none⟩ = some (.slice a6 x.ands.length c6) ∧ U.cell? ⟨w.heap.size, 7, none⟩ = some (.slice a7 x.names.length c7) ∧ U.cell? ⟨bt, ot + i, none⟩ = some (.string sB) ∧ U.cell? ⟨bq, oq + k, none⟩ = some (.string qB)) (by kernel_rfl) ?_
                      (refine HeldAll.take (i := 0) (oi := _) (d := some 90) (v := ?_) rfl rfl (by kernel_rfl) (by kernel_rfl) (by kernel_rfl) (fun _ _ _ h => h) (Or.inl ⟨by rfl, ?_⟩) hS0 ?_; rotate_left; (focus (intro w hSw; (try dsimp only at hSw); go_simp; (try with_reducible rfl); done)); (try simp only [Act.put, List.setIfInBounds_toArray, List.set_cons_zero, List.set_cons_succ]))
                      (refine HeldAll.take (i := 1) (oi := _) (d := some 91) (v := ?_) rfl rfl (by kernel_rfl) (by kernel_rfl) (by kernel_rfl) (fun _ _ _ h => h) (Or.inl ⟨by rfl, ?_⟩) hS0 ?_; rotate_left; (focus (intro w hSw; clear hSw; go_simp; (try with_reducible rfl); done)); (try simp only [Act.put, List.setIfInBounds_toArray, List.set_cons_zero, List.set_cons_succ]))
                      (refine HeldAll.take (i := 2) (oi := _) (d := some 92) (v := ?_) rfl rfl (by kernel_rfl) (by kernel_rfl) (by kernel_rfl) (fun _ _ _ h => h) (Or.inl ⟨by rfl, ?_⟩) hS0 ?_; rotate_left; (focus (intro w hSw; clear hSw; go_simp; (try with_reducible rfl); done)); (try simp only [Act.put, List.setIfInBounds_toArray, List.set_cons_zero, List.set_cons_succ]))
                      (refine HeldAll.take (i := 3) (oi := _) (d := some 93) (v := ?_) rfl rfl (by kernel_rfl) (by kernel_rfl) (by kernel_rfl) (fun _ _ _ h => h) (Or.inl ⟨by rfl, ?_⟩) hS0 ?_; rotate_left; (focus (intro w hSw; clear hSw; go_simp; (try with_reducible rfl); done)); (try simp only [Act.put, List.setIfInBounds_toArray, List.set_cons_zero, List.set_cons_succ]))
                      (refine HeldAll.take (i := 4) (oi := _) (d := some 94) (v := ?_) rfl rfl (by kernel_rfl) (by kernel_rfl) (by kernel_rfl) (fun _ _ _ h => h) (Or.inl ⟨by rfl, ?_⟩) hS0 ?_; rotate_left; (focus (intro w hSw; (try dsimp only at hSw); go_simp; (try with_reducible rfl); done)); (try simp only [Act.put, List.setIfInBounds_toArray, List.set_cons_zero, List.set_cons_succ]))
                      (refine HeldAll.take (i := 5) (oi := _) (d := some 95) (v := ?_) rfl rfl (by kernel_rfl) (by kernel_rfl) (by kernel_rfl) (fun _ _ _ h => h) (Or.inl ⟨by rfl, ?_⟩) hS0 ?_; rotate_left; (focus (intro w hSw; clear hSw; go_simp; (try with_reducible rfl); done)); (try simp only [Act.put, List.setIfInBounds_toArray, List.set_cons_zero, List.set_cons_succ]))
                      (refine HeldAll.take (i := 6) (oi := _) (d := some 96) (v := ?_) rfl rfl (by kernel_rfl) (by kernel_rfl) (by kernel_rfl) (fun _ _ _ h => h) (Or.inl ⟨by rfl, ?_⟩) hS0 ?_; rotate_left; (focus (intro w hSw; clear hSw; go_simp; (try with_reducible rfl); done)); (try simp only [Act.put, List.setIfInBounds_toArray, List.set_cons_zero, List.set_cons_succ]))
                      (refine HeldAll.take (i := 7) (oi := _) (d := some 97) (v := ?_) rfl rfl (by kernel_rfl) (by kernel_rfl) (by kernel_rfl) (fun _ _ _ h => h) (Or.inl ⟨by rfl, ?_⟩) hS0 ?_; rotate_left; (focus (intro w hSw; clear hSw; go_simp; (try with_reducible rfl); done)); (try simp only [Act.put, List.setIfInBounds_toArray, List.set_cons_zero, List.set_cons_succ]))
                      (refine HeldAll.take (i := 8) (oi := _) (d := some 98) (v := ?_) rfl rfl (by kernel_rfl) (by kernel_rfl) (by kernel_rfl) (fun _ _ _ h => h) (Or.inl ⟨by rfl, ?_⟩) hS0 ?_; rotate_left; (focus (intro w hSw; (try dsimp only at hSw); go_simp; (try with_reducible rfl); done)); (try simp only [Act.put, List.setIfInBounds_toArray, List.set_cons_zero, List.set_cons_succ]))
                      refine HeldAll.one (i := 9) (by kernel_rfl) ?_
                      refine HeldAll.opCall (i := 9) (oi := _) (d := some 99) (R := fun v w' => v = .tuple #[.string st, .int .i64 0] ∧ Below w7.drew.heap.size w7.drew w') rfl rfl (by rfl) (by go_simp; done) (HCN2.out.mono fun e w' h => ⟨_, h.1, rfl, h.2⟩) ?_
                      rintro v w8 ⟨rfl, hb8⟩
                      refine ⟨hSK _ (HBD7.out.trans (hb8.mono HBD7.out.size)), ?_⟩
                      (try simp only [Act.put, List.setIfInBounds_toArray, List.set_cons_zero, List.set_cons_succ])
                      have hS0 := hSK _ (HBD7.out.trans (hb8.mono HBD7.out.size))
                      (refine HeldAll.take (i := 10) (oi := _) (d := some 89) (v := ?_) rfl rfl (by kernel_rfl) (by kernel_rfl) (by kernel_rfl) (fun _ _ _ h => h) (Or.inl ⟨by rfl, ?_⟩) hS0 ?_; rotate_left; (focus (intro w hSw; clear hSw; go_simp; (try with_reducible rfl); done)); (try simp only [Act.put, List.setIfInBounds_toArray, List.set_cons_zero, List.set_cons_succ]))
                      (refine HeldAll.take (i := 11) (oi := _) (d := some 100) (v := ?_) rfl rfl (by kernel_rfl) (by kernel_rfl) (by kernel_rfl) (fun _ _ _ h => h) (Or.inl ⟨by rfl, ?_⟩) hS0 ?_; rotate_left; (focus (intro w hSw; clear hSw; go_simp; (try with_reducible rfl); done)); (try simp only [Act.put, List.setIfInBounds_toArray, List.set_cons_zero, List.set_cons_succ]))
                      (refine HeldAll.take (i := 12) (oi := _) (d := some 101) (v := ?_) rfl rfl (by kernel_rfl) (by kernel_rfl) (by kernel_rfl) (fun _ _ _ h => h) (Or.inl ⟨by rfl, ?_⟩) hS0 ?_; rotate_left; (focus (intro w hSw; clear hSw; go_simp; (try with_reducible rfl); done)); (try simp only [Act.put, List.setIfInBounds_toArray, List.set_cons_zero, List.set_cons_succ]))
                      (refine HeldAll.take (i := 13) (oi := _) (d := some 14) (v := ?_) rfl rfl (by kernel_rfl) (by kernel_rfl) (by kernel_rfl) (fun _ _ _ h => h) (Or.inl ⟨by rfl, ?_⟩) hS0 ?_; rotate_left; (focus (intro w hSw; clear hSw; go_simp; (try with_reducible rfl); done)); (try simp only [Act.put, List.setIfInBounds_toArray, List.set_cons_zero, List.set_cons_succ]))
                      (refine HeldAll.take (i := 14) (oi := _) (d := some 15) (v := ?_) rfl rfl (by kernel_rfl) (by kernel_rfl) (by kernel_rfl) (fun _ _ _ h => h) (Or.inl ⟨by rfl, ?_⟩) hS0 ?_; rotate_left; (focus (intro w hSw; clear hSw; go_simp; (try with_reducible rfl); done)); (try simp only [Act.put, List.setIfInBounds_toArray, List.set_cons_zero, List.set_cons_succ]))
                      refine HeldAll.done (by kernel_rfl) ?_ _
                      clear hS0 hSK hiI hkI
                      have HB8 := Lib.hid (HBD7.out.trans (hb8.mono HBD7.out.size))
                      have hx8 := HXD7.out.next hb8 (by exact HXD7.out.lt)
                      have HX8 := Lib.hid hx8
                      clear hb8
                      have e2 := hx8.at' ix _ (ints_get HV2.out)
                      have z2 := hx8.fz ix
                      have hxn := HILT.out
                      clear hx8
                      by_cases hneg : v2 < 0
                      · skip
                        have hd2 : decide (v2 < 0) = true := decide_eq_true hneg
                        have HM9 := Lib.hid (HW1.out hneg)
                        have hwm : IntKind.i64.wrap ((m : Int) + 1) = (m : Int) + 1 := IntWalk.i64_in _ (by omega)
                        have HX9 : Hid (BoxN g (ints (out.set ix ((m : Int) + 1))) (w8.setCell ⟨g, ix, none⟩ (.int .i64 ((m : Int) + 1)))) := by
                          have h := HX8.out.set ix (.int .i64 ((m : Int) + 1))
                          rw [ints_set] at h
                          exact h
                        have HB9 := Lib.hid (HB8.out.setCell (p := ⟨g, ix, none⟩) hge0 (.int .i64 ((m : Int) + 1)))
                        clear HO0 HW1
                        go_wp2_with fail
                        with_reducible refine (HII.out _).mono ?_
                        rintro e w9 ⟨rfl, rfl⟩
                        go_wp2_with fail
                        with_reducible refine (HII.out _).mono ?_
                        rintro e w9 ⟨rfl, rfl⟩
                        go_wp2_with fail
                        go_roundw
                        case rel => exact ⟨k + 1, out.set ix ((m : Int) + 1), by omega, by go_num, HM9.out, HX9.out, HB9.out⟩
                        case measure => simp [intOf]; omega
                      · skip
                        have hd2 : decide (v2 < 0) = false := decide_eq_false hneg
                        have HM9 := Lib.hid (HO0.out (by omega))
                        clear HO0 HW1
                        go_wp2_with fail
                        with_reducible refine (HII.out _).mono ?_
                        rintro e w9 ⟨rfl, rfl⟩
                        go_wp2_with fail
                        go_roundw
                        case rel => exact ⟨k + 1, out, by omega, by go_num, HM9.out, HX8.out, HB8.out⟩
                        case measure => simp [intOf]; omega
                  · skip
                    have hq0 : (v0 == (m : Int)) = false := by simpa using hvm
                    have HRW : Hid (Mid x A m (i + 1) 0 out) := mid_row hM.out (Or.inr (fun h => hvm (by rw [hv0] at h; injection h)))
                    clear hvm hv0 hM
                    go_wp2_with fail
                    go_roundw
                    case rel => exact ⟨i + 1, out, by omega, by go_num, HRW.out, hX.out, hB.out⟩
                    case measure => simp [intOf]; omega
                · skip
                  have hd : decide ((k : Int) < (K : Int)) = false := decide_eq_false (by omega)
                  have HRW : Hid (Mid x A m (i + 1) 0 out) := mid_row hM.out (Or.inl (by rw [HKK.out]; omega))
                  clear hv0 hM
                  go_wp2_with fail
                  go_roundw
                  case rel => exact ⟨i + 1, out, by omega, by go_num, HRW.out, hX.out, hB.out⟩
                  case measure => simp [intOf]; omega
            · skip
              have HLV2 : Hid (Lv x A (m + 1) out) := mid_end hM.out (by rw [HNN.out]; omega)
              go_wp2_with fail
              go_roundw
              case rel => exact ⟨m + 1, out, by omega, by go_num, HLV2.out, hX.out, hB.out⟩
              case measure => simp [intOf]; omega
        · skip
          have HSO : Hid (SOut x A out) := lv_end hV.out (by rw [HNN.out]; omega)
          go_wp2_with fail
          go_ret
          exact ⟨g, out, rfl, hX.out, HSO.out, Nat.le_trans HB1.out.size (Nat.le_trans HB13.out.size hge0), HB1.out.trans ((HB13.out.trans (hB.out.mono HB13.out.size)).mono HB1.out.size)⟩
end BadP
end Go.Proofs.YtjmmhbmbafjneaaGreatDoor
