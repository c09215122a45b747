/-
  facts.Retract, Active, put, Assume, Lemma.
-/
import Derived.Test.YtgbpoeidpldmkaaFactE
import Derived.Test.YtgbpoeidpldmkaaFactG
namespace Go.Proofs.Ytgbpoeidpldmkaa
open Go.RowKit Base
set_option linter.unusedVariables false
set_option linter.unusedSimpArgs false
namespace Fact
open Vals (srt srt_spec)

def zero : Tb := ⟨0, 0, []⟩
def retract (t : Tb) (id : Int) : Tb × List Int × Int :=
  if tableOk t = true then if (t.facts.any fun f => f.id == id) = true then (⟨t.next, t.depth, rest t.facts (gids (fun f => f.id == id) t.facts)⟩, gids (fun f => f.id == id) t.facts, 0) else (zero, [], 71) else (zero, [], 9)
def putT (t : Tb) (kind : Int) (l : List Int) : Tb × Int × Int :=
  if tableOk t = true then if litsOk (srt l) = true then if t.facts.length = 64 then (zero, 0, 3) else if t.next = 1099511627776 then (zero, 0, 4) else (put t kind (srt l), t.next, 0) else (zero, 0, 23) else (zero, 0, 9)

theorem WfF.fit {t : Tb} (h : tableOk t = true) (hw : WfF t.facts) : Fit t.facts := fun f hf => by
  have h1 := ((ok_of h).each f hf).2.2.2.2.2
  unfold litsOk at h1
  rw [Bool.and_eq_true] at h1
  have h2 := of_decide_eq_true h1.1
  exact ⟨by omega, hw.tags f hf⟩

theorem eg_is : Enters 15 := enters_of Try.func15 (by kernel_rfl) rfl

set_option maxHeartbeats 1000000 in
theorem is_any (w : World) (Bx : Nat) (id : Int) (hlt : Bx < w.heap.size) (hc : w.cell? ⟨Bx, 0, none⟩ = some (.int .i64 id)) (f : Fc) (a1 : Option Addr) (c1 : Nat) (a2 : Option Addr) (c2 : Nat) :
    Calls Try.prog 15 #[fagg f a1 c1 a2 c2, .pointer (some ⟨Bx, 0, none⟩)] w fun e w' => e = .returned (.bool (f.id == id)) ∧ Below w.heap.size w w' := by
  unfold fagg
  obtain ⟨U, hU⟩ : ∃ U, w.alloc (.cells #[.int .i64 f.id, .int .i64 f.kind, .int .i64 f.depth, .slice a1 f.lits.length c1, .slice a2 f.tags.length c2] 31) = U := ⟨_, rfl⟩
  have hb : Below w.heap.size w U := by rw [← hU]; exact (Below.refl _ _).alloc (Nat.le_refl _) _
  have u0 : U.cell? ⟨w.heap.size, 0, none⟩ = some (.int .i64 f.id) := by rw [← hU]; simp [go_sem]
  have hc1 := (hb.cell (p := ⟨Bx, 0, none⟩) hlt).trans hc
  have HB := Lib.hid hb
  clear hc hb hlt
  generalize hq : (f.id == id) = q at *
  go_enter Try.func15, Try.ntmps15
  go_wp2_with fail
  go_ret
  exact ⟨rfl, HB.out⟩

theorem tbox (w : World) (x y : Int) (a : Option Addr) (n c : Nat) (U : World) (h : w.alloc (.cells #[.int .i64 x, .int .i64 y, .slice a n c] 24) = U) : Below w.heap.size w U ∧ BoxN w.heap.size [.int .i64 x, .int .i64 y, .slice a n c] U := by
  subst h
  exact ⟨(Below.refl _ _).alloc (Nat.le_refl _) _, BoxN.new w #[.int .i64 x, .int .i64 y, .slice a n c] 24⟩

theorem FOwn.set3 {w : World} {B : Nat} {a : Option Addr} {n c : Nat} {vs : List (List Value)} {l : List Fc} (h : FOwn w B a n c vs l) {N : Nat} (hN : N < B) (u0 u1 u2 : Value) : FOwn (((w.setCell ⟨N, 0, none⟩ u0).setCell ⟨N, 1, none⟩ u1).setCell ⟨N, 2, none⟩ u2) B a n c vs l :=
  ((h.set (p := ⟨N, 0, none⟩) hN u0).set (p := ⟨N, 1, none⟩) hN u1).set (p := ⟨N, 2, none⟩) hN u2
theorem own_set3 {w : World} {B : Nat} {e : TypeId} {size : Nat} {v : Value} {n : Nat} {vs : List Value} (h : w.ownsRow B e size v n vs) {N : Nat} (hN : N < B) (u0 u1 u2 : Value) : (((w.setCell ⟨N, 0, none⟩ u0).setCell ⟨N, 1, none⟩ u1).setCell ⟨N, 2, none⟩ u2).ownsRow B e size v n vs :=
  ownsRow_setCell_below (a := ⟨N, 2, none⟩) (ownsRow_setCell_below (a := ⟨N, 1, none⟩) (ownsRow_setCell_below (a := ⟨N, 0, none⟩) h hN u0) hN u1) hN u2
theorem below_set3 {B : Nat} {w w' : World} (h : Below B w w') {N : Nat} (hN : B ≤ N) (u0 u1 u2 : Value) : Below B w (((w'.setCell ⟨N, 0, none⟩ u0).setCell ⟨N, 1, none⟩ u1).setCell ⟨N, 2, none⟩ u2) :=
  ((h.setCell (p := ⟨N, 0, none⟩) hN u0).setCell (p := ⟨N, 1, none⟩) hN u1).setCell (p := ⟨N, 2, none⟩) hN u2

set_option maxRecDepth 8000 in
set_option maxHeartbeats 16000000 in
theorem retract_any (w : World) (t : Tb) (a : Option Addr) (c : Nat) (vs : List (List Value)) (hs : SlF w a t.facts.length c vs t.facts) (hw : WfF t.facts) (id : Int) :
    Calls Try.prog 6 #[tagg t a c, .int .i64 id] w fun e w' => ∃ a' c' vs' ai ci, e = .returned (.tuple #[tagg (retract t id).1 a' c', .slice ai (retract t id).2.1.length ci, .int .i64 (retract t id).2.2]) ∧ FOwn w' w.heap.size a' (retract t id).1.facts.length c' vs' (retract t id).1.facts ∧ w'.ownsRow w.heap.size 3 1 (.slice ai (retract t id).2.1.length ci) (retract t id).2.1.length (ints (retract t id).2.1) ∧ Below w.heap.size w w' := by
  have HTA := Lib.hid (fun (U : World) (hU : Below w.heap.size w U) => table_any U t a c vs (hs.next hU) hw)
  have HWO := fun (hok : tableOk t = true) (U : World) (hU : Below w.heap.size w U) (Bx : Nat) (hlt : Bx < U.heap.size) (hc : U.cell? ⟨Bx, 0, none⟩ = some (.int .i64 id)) => without_any U t a c vs (hs.next hU) (by have := (ok_of hok).len; omega) (WfF.fit hok hw) 15 #[] #[.pointer (some ⟨Bx, 0, none⟩)] (fun f => f.id == id) eg_is (fun V hV f a1 c1 a2 c2 => is_any V Bx id (Nat.lt_of_lt_of_le hlt hV.size) ((hV.cell (p := ⟨Bx, 0, none⟩) hlt).trans hc) f a1 c1 a2 c2)
  have HCF := fun (U : World) (hU : Below w.heap.size w U) (Bx : Nat) (hlt : Bx < U.heap.size) (hc : U.cell? ⟨Bx, 0, none⟩ = some (.int .i64 id)) => containsFunc U a t.facts.length c vs t.facts 15 #[] #[.pointer (some ⟨Bx, 0, none⟩)] (t.facts.map fun f => f.id == id) (hs.next hU) (by rw [List.length_map]) eg_is (by
    intro V hV i f a1 c1 a2 c2 b hf hq h1 h2
    rw [List.getElem?_map, hf] at hq
    simp only [Option.map_some, Option.some.injEq] at hq
    subst hq
    exact is_any V Bx id (Nat.lt_of_lt_of_le hlt hV.size) ((hV.cell (p := ⟨Bx, 0, none⟩) hlt).trans hc) f a1 c1 a2 c2)
  have hall : ((t.facts.map fun f => f.id == id).any _root_.id) = t.facts.any fun f => f.id == id := by
    rw [List.any_map]
    rfl
  rw [hall] at HCF
  have HW := Lib.hid HWO
  have HC := Lib.hid HCF
  have hcap := hs.sl.cap
  clear HWO HCF hall hs hw
  unfold tagg at *
  obtain ⟨W1, hW1⟩ : ∃ U, w.alloc (.cells #[.int .i64 t.next, .int .i64 t.depth, .slice a t.facts.length c] 24) = U := ⟨_, rfl⟩
  obtain ⟨W2, hW2⟩ : ∃ U, W1.alloc (.cells #[.int .i64 id] 3) = U := ⟨_, rfl⟩
  obtain ⟨W3, hW3⟩ : ∃ U, W2.alloc (.cells #[.int .i64 0, .int .i64 0, .slice none 0 0] 24) = U := ⟨_, rfl⟩
  obtain ⟨hb1, x1⟩ := tbox _ _ _ _ _ _ _ hW1
  have hb2 : Below W1.heap.size W1 W2 := by rw [← hW2]; exact (Below.refl _ _).alloc (Nat.le_refl _) _
  have x2 : BoxN W1.heap.size [.int .i64 id] W2 := by
    have h := BoxN.new W1 #[.int .i64 id] 3
    rw [hW2] at h
    exact h
  obtain ⟨hb3, x3⟩ := tbox _ _ _ _ _ _ _ hW3
  have x13 := (x1.next hb2 x1.lt).next hb3 (Nat.lt_of_lt_of_le x1.lt hb2.size)
  have x23 := x2.next hb3 x2.lt
  have hbw := (hb1.trans (hb2.mono hb1.size)).trans (hb3.mono (Nat.le_trans hb1.size hb2.size))
  have q0 := x13.at' 0 _ rfl
  have q1 := x13.at' 1 _ rfl
  have q2 := x13.at' 2 _ rfl
  have HB := Lib.hid hbw
  have HX1 := Lib.hid x13
  have HX2 := Lib.hid x23
  have HX3 := Lib.hid x3
  have HLE : Hid (w.heap.size ≤ W2.heap.size) := Nat.le_trans hb1.size hb2.size
  have HTW := Lib.hid (HTA.out W3 hbw)
  have HRR : Hid (retract t id = if tableOk t = true then if (t.facts.any fun f => f.id == id) = true then (⟨t.next, t.depth, rest t.facts (gids (fun f => f.id == id) t.facts)⟩, gids (fun f => f.id == id) t.facts, 0) else (zero, [], 71) else (zero, [], 9)) := rfl
  clear hb1 hb2 hb3 x1 x2 x3 x13 x23 hbw HTA
  generalize retract t id = R at *
  by_cases hok : tableOk t = true
  · rw [if_pos hok] at HTW HRR
    have HOK := Lib.hid hok
    clear hok
    generalize hany : (t.facts.any fun f => f.id == id) = hy at *
    have HAN := Lib.hid hany
    clear hany
    cases hy
    · have HR : Hid (R = (zero, [], 71)) := by show _ = _; rw [HRR.out]; rfl
      go_enter Try.func6, Try.ntmps6
      go_wp2_with fail
      with_reducible refine HTW.out.mono ?_
      rintro e w4 ⟨rfl, hb4⟩
      have HB4 := Lib.hid (HB.out.trans (hb4.mono HB.out.size))
      have r2 := (HX1.out.next hb4 HX1.out.lt).at' 2 _ rfl
      have HC4 := Lib.hid (HC.out w4 HB4.out W1.heap.size (HX2.out.next hb4 HX2.out.lt).lt ((HX2.out.next hb4 HX2.out.lt).at' 0 _ rfl))
      have HX4 := Lib.hid (HX3.out.next hb4 HX3.out.lt)
      clear hb4 q0 q1 q2
      go_wp2_with fail
      with_reducible refine HC4.out.mono ?_
      rintro e w5 ⟨rfl, hb5⟩
      have HB5 := Lib.hid (HB4.out.trans (hb5.mono HB4.out.size))
      have x5 := HX4.out.next hb5 HX4.out.lt
      have s0 := x5.at' 0 _ rfl
      have s1 := x5.at' 1 _ rfl
      have s2 := x5.at' 2 _ rfl
      have f0 := x5.fz 0
      have f1 := x5.fz 1
      have f2 := x5.fz 2
      clear hb5 x5 r2
      go_wp2_with fail
      refine bodyPost_ret (v := .tuple #[.agg #[.int .i64 0, .int .i64 0, .slice none 0 0], .slice none 0 0, .int .i64 71]) (by simp [results, Try.results6, go_sem, s0, s1, s2]) rfl ?_
      rw [HR.out]
      exact ⟨none, 0, [], none, 0, rfl, FOwn.nil _ _, World.ownsRow_nil _ _ _ _, below_set3 HB5.out HLE.out _ _ _⟩
    · have HR : Hid (R = (⟨t.next, t.depth, rest t.facts (gids (fun f => f.id == id) t.facts)⟩, gids (fun f => f.id == id) t.facts, 0)) := by show _ = _; rw [HRR.out]; rfl
      go_enter Try.func6, Try.ntmps6
      go_wp2_with fail
      with_reducible refine HTW.out.mono ?_
      rintro e w4 ⟨rfl, hb4⟩
      have HB4 := Lib.hid (HB.out.trans (hb4.mono HB.out.size))
      have r2 := (HX1.out.next hb4 HX1.out.lt).at' 2 _ rfl
      have HC4 := Lib.hid (HC.out w4 HB4.out W1.heap.size (HX2.out.next hb4 HX2.out.lt).lt ((HX2.out.next hb4 HX2.out.lt).at' 0 _ rfl))
      have HX14 := Lib.hid (HX1.out.next hb4 HX1.out.lt)
      have HX24 := Lib.hid (HX2.out.next hb4 HX2.out.lt)
      have HX4 := Lib.hid (HX3.out.next hb4 HX3.out.lt)
      clear hb4 q0 q1 q2
      go_wp2_with fail
      with_reducible refine HC4.out.mono ?_
      rintro e w5 ⟨rfl, hb5⟩
      have HB5 := Lib.hid (HB4.out.trans (hb5.mono HB4.out.size))
      have x15 := HX14.out.next hb5 HX14.out.lt
      have HW5 := Lib.hid (HW.out HOK.out w5 HB5.out W1.heap.size (HX24.out.next hb5 HX24.out.lt).lt ((HX24.out.next hb5 HX24.out.lt).at' 0 _ rfl))
      have HX5 := Lib.hid (HX4.out.next hb5 HX4.out.lt)
      have q0 := x15.at' 0 _ rfl
      have q1 := x15.at' 1 _ rfl
      have q2 := x15.at' 2 _ rfl
      clear hb5 x15 r2
      generalize hrst : rest t.facts (gids (fun f => f.id == id) t.facts) = L at *
      generalize gids (fun f => f.id == id) t.facts = I at *
      clear hrst
      go_wp2_with fail
      with_reducible refine HW5.out.mono ?_
      rintro e w6 ⟨a6, c6, vs6, ai, ci, rfl, hk6, ho6, hb6⟩
      have HB6 := Lib.hid (HB5.out.trans (hb6.mono HB5.out.size))
      have x6 := HX5.out.next hb6 HX5.out.lt
      obtain ⟨W7, hW7⟩ : ∃ U, w6.alloc (.cells #[.int .i64 t.next, .int .i64 t.depth, .slice a6 L.length c6] 24) = U := ⟨_, rfl⟩
      obtain ⟨hb7, x7⟩ := tbox _ _ _ _ _ _ _ hW7
      have x67 := x6.next hb7 x6.lt
      have HK7 := Lib.hid (hk6.next hb7)
      have HO7 := Lib.hid (own_next ho6 hb7)
      have HB7 := Lib.hid (HB6.out.trans (hb7.mono HB6.out.size))
      have HL7 := Lib.hid HX5.out.lt
      have s0 := x67.at' 0 _ rfl
      have s1 := x67.at' 1 _ rfl
      have s2 := x67.at' 2 _ rfl
      have f0 := x67.fz 0
      have f1 := x67.fz 1
      have f2 := x67.fz 2
      have p0 := x7.at' 0 _ rfl
      have p1 := x7.at' 1 _ rfl
      have p2 := x7.at' 2 _ rfl
      have HWW := Lib.hid hW7
      clear hk6 ho6 hb6 hb7 x6 x7 x67 q0 q1 q2 hW7
      go_upto_region 8 with fail
      rw [HWW.out]
      go_wp2_with fail
      refine bodyPost_ret (v := .tuple #[.agg #[.int .i64 t.next, .int .i64 t.depth, .slice a6 L.length c6], .slice ai I.length ci, .int .i64 0]) (by simp [results, Try.results6, go_sem, s0, s1, s2]) rfl ?_
      rw [HR.out]
      have hle5 : w.heap.size ≤ w5.heap.size := HB5.out.size
      exact ⟨a6, c6, vs6, ai, ci, rfl, (HK7.out.set3 HL7.out _ _ _).mono hle5, own_mono (own_set3 HO7.out HL7.out _ _ _) hle5, below_set3 HB7.out HLE.out _ _ _⟩
  · rw [if_neg hok] at HTW HRR
    have HR : Hid (R = (zero, [], 9)) := HRR.out
    clear hok
    go_enter Try.func6, Try.ntmps6
    go_wp2_with fail
    with_reducible refine HTW.out.mono ?_
    rintro e w4 ⟨rfl, hb4⟩
    have HB4 := Lib.hid (HB.out.trans (hb4.mono HB.out.size))
    have x4 := HX3.out.next hb4 HX3.out.lt
    have s0 := x4.at' 0 _ rfl
    have s1 := x4.at' 1 _ rfl
    have s2 := x4.at' 2 _ rfl
    have f0 := x4.fz 0
    have f1 := x4.fz 1
    have f2 := x4.fz 2
    clear hb4 x4 q0 q1 q2
    go_wp2_with fail
    refine bodyPost_ret (v := .tuple #[.agg #[.int .i64 0, .int .i64 0, .slice none 0 0], .slice none 0 0, .int .i64 9]) (by simp [results, Try.results6, go_sem, s0, s1, s2]) rfl ?_
    rw [HR.out]
    exact ⟨none, 0, [], none, 0, rfl, FOwn.nil _ _, World.ownsRow_nil _ _ _ _, below_set3 HB4.out HLE.out _ _ _⟩
end Fact
end Go.Proofs.Ytgbpoeidpldmkaa
