/-
  Several texts in one (written by merge.py): XMeets XRefAbs XRefIs XPlainInts XCubeAlive
-/
import Derived.Test.YtllbncfcnjmbmaaDoorFill
import Derived.Test.YtllbncfcnjmbmaaDoorAbsP
import Derived.Test.YtllbncfcnjmbmaaDoorIsP
import Derived.Test.YtllbncfcnjmbmaaDoorLaws
import Derived.Deep.QuietTactic
import Derived.BigQuiet
import Derived.Test.YtllbncfcnjmbmaaDoorCube
/-
  cube.Meets, cube.Apart.
-/
namespace Go.Proofs.YtllbncfcnjmbmaaDoor
open Go.RowKit Base
set_option linter.unusedVariables false
set_option linter.unusedSimpArgs false
namespace Fill
open Circuit MeetsP First

set_option maxRecDepth 8000 in
set_option maxHeartbeats 4000000 in
theorem meets_any (w : World) (x : Circ) (p : At) (hin : InCirc w x p) (hw : WfC x) (a : Option Addr) (c : Nat) (l : List Int) (hs : Sl w a l.length c (ints l)) (hl : Clause.Wf l) :
    Calls Tryd.prog 7 #[.agg (cells x p), .slice a l.length c] w fun e w' => e = .returned (.bool (fillE x l == 0)) ∧ Below w.heap.size w w' := by
  obtain ⟨W1, hW1⟩ : ∃ U, w.alloc (.cells (cells x p) 27) = U := ⟨_, rfl⟩
  obtain ⟨hb1, hx1⟩ := cbox_new w x p W1 hW1
  have HF := Lib.hid (fill_any W1 x p (hin.next hb1) hw a c l (hs.next hb1) hl)
  obtain ⟨_, c0, c1, c2, c3, c4, c5, c6, c7⟩ := hx1
  have HB1 := Lib.hid hb1
  clear hin hb1 hs
  generalize fillE x l = FE at *
  generalize fillS x l = FS at *
  unfold cells at *
  go_enter Tryd.func7, Tryd.ntmps7
  go_wp2_with fail
  with_reducible refine HF.out.mono ?_
  rintro e w2 ⟨rfl, hb2⟩
  have HB2 := Lib.hid (HB1.out.trans (hb2.mono HB1.out.size))
  clear hb2
  go_wp2_with fail
  go_ret
  exact ⟨rfl, HB2.out⟩

/-- What no first state has. -/
noncomputable def apartL (x : Circ) (l : List Int) : Int := if tt (CheckOk x) then (l.find? (Strange.strangeB x.lats)).getD 0 else 0

theorem idx_find {f : Int → Bool} : ∀ (l : List Int) (k : Nat), (l.any f = false → idx id (l.map f) k = -1 ∧ l.find? f = none) ∧ (l.any f = true → ∃ i, ∃ hi : i < l.length, idx id (l.map f) k = ((k + i : Nat) : Int) ∧ l.find? f = some l[i])
  | [], k => ⟨fun _ => ⟨rfl, rfl⟩, fun h => by simp at h⟩
  | y :: r, k => by
    obtain ⟨h1, h2⟩ := idx_find r (k + 1)
    by_cases hy : f y = true
    · refine ⟨fun h => ?_, fun _ => ⟨0, by simp, ?_, ?_⟩⟩
      · simp [hy] at h
      · simp [idx, hy]
      · simp [hy]
    · have hy' : f y = false := by simpa using hy
      refine ⟨fun h => ?_, fun h => ?_⟩
      · obtain ⟨g1, g2⟩ := h1 (by simpa [hy'] using h)
        exact ⟨by simp [idx, hy']; exact g1, by simp [hy']; simpa using g2⟩
      · obtain ⟨i, hi, g1, g2⟩ := h2 (by simpa [hy'] using h)
        refine ⟨i + 1, by simpa using hi, ?_, ?_⟩
        · have e : idx id ((y :: r).map f) k = idx id (r.map f) (k + 1) := by simp [idx, hy']
          rw [e, g1]; congr 1; omega
        · simp [hy', g2]

set_option maxRecDepth 8000 in
set_option maxHeartbeats 4000000 in
theorem apart_any (w : World) (x : Circ) (p : At) (hin : InCirc w x p) (hw : WfC x) (a : Option Addr) (c : Nat) (l : List Int) (hs : Sl w a l.length c (ints l)) (hl : Clause.Wf l) :
    Calls Tryd.prog 8 #[.agg (cells x p), .slice a l.length c] w fun e w' => e = .returned (.int .i64 (apartL x l)) ∧ Below w.heap.size w w' := by
  obtain ⟨W1, hW1⟩ : ∃ U, w.alloc (.cells (cells x p) 27) = U := ⟨_, rfl⟩
  obtain ⟨hb1, hx1⟩ := cbox_new w x p W1 hW1
  have HC := check_any W1 x p (hin.next hb1) hw.ins hw.outs hw.bads hw.invs hw.lats hw.ands hw.mx
  have HX1 := Lib.hid hx1
  have HB1 := Lib.hid hb1
  have hlc := hs.cap
  have hlb := hs.big
  obtain ⟨_, c0, c1, c2, c3, c4, c5, c6, c7⟩ := hx1
  by_cases hk : CheckOk x
  · rw [chk_pos hk] at HC
    have HC := Lib.hid HC
    have HMK := Lib.hid (fun W => SimReset.make_any W x p)
    have HAN := Lib.hid (fun (W : World) (N : Nat) (hB : CBox N x p W) (hb : Below w.heap.size w W) =>
      SlfI.indexFunc W a l.length c (ints l) 37 #[] #[.pointer (some ⟨N, 0, none⟩)] (l.map (Strange.strangeB x.lats)) (hs.next hb) (by rw [List.length_map]) Strange.eg_str (Strange.gives W x p N hB (hin.next hb).lats l hl))
    have HS := Lib.hid (fun (W : World) (hb : Below w.heap.size w W) => hs.next hb)
    have HE : Hid (apartL x l = (l.find? (Strange.strangeB x.lats)).getD 0) := by
      show _ = _
      unfold apartL; rw [tt_pos hk, if_pos rfl]
    have HIX := Lib.hid (idx_find (f := Strange.strangeB x.lats) l 0)
    clear hk hw hin hb1 hs
    generalize apartL x l = AP at *
    unfold cells at *
    go_enter Tryd.func8, Tryd.ntmps8
    go_wp2_with fail
    with_reducible refine HC.out.mono ?_
    rintro e w2 ⟨rfl, hb2⟩
    have HX2 := Lib.hid (HX1.out.next hb2 (Nat.le_refl _))
    have HB2 := Lib.hid (HB1.out.trans (hb2.mono HB1.out.size))
    obtain ⟨_, q0, q1, q2, q3, q4, q5, q6, q7⟩ := HX2.out
    have HMK2 := Lib.hid (HMK.out w2)
    clear hb2 c0 c1 c2 c3 c4 c5 c6 c7 HMK
    go_wp2_with fail
    with_reducible refine HMK2.out.mono ?_
    rintro e w3 ⟨rfl, hx3, hb3⟩
    have HB3 := Lib.hid (HB2.out.trans (hb3.mono HB2.out.size))
    have HAN3 := Lib.hid (HAN.out w3 _ hx3 HB3.out)
    clear hb3 hx3 q0 q1 q2 q3 q4 q5 q6 q7 HAN
    go_wp2_with fail
    with_reducible refine HAN3.out.mono ?_
    rintro e w4 ⟨rfl, hb4⟩
    have HB4 := Lib.hid (HB3.out.trans (hb4.mono HB3.out.size))
    clear hb4
    by_cases hany : l.any (Strange.strangeB x.lats) = true
    · obtain ⟨i, hi, g1, g2⟩ := HIX.out.2 hany
      obtain ⟨bl, ol, hy, rfl, hbs, hcy⟩ := (HS.out w4 HB4.out).int (k := i) hi
      have HEE : Hid (AP = l[i]) := by
        show _ = _
        rw [HE.out, g2]; rfl
      rw [Nat.zero_add] at g1
      rw [g1]
      clear hany g1 g2
      generalize l[i] = y at *
      go_wp2_with fail
      go_ret
      exact ⟨by rw [HEE.out]; rfl, HB4.out⟩
    · have hany' : l.any (Strange.strangeB x.lats) = false := Bool.eq_false_iff.2 hany
      obtain ⟨g1, g2⟩ := HIX.out.1 hany'
      have HEE : Hid (AP = 0) := by
        show _ = _
        rw [HE.out, g2]; rfl
      rw [g1]
      clear hany hany' g1 g2
      go_wp2_with fail
      go_ret
      exact ⟨by rw [HEE.out]; rfl, HB4.out⟩
  · rw [chk_neg hk] at HC
    have HC := Lib.hid HC
    have HE : Hid (apartL x l = 0) := by
      show _ = _
      unfold apartL; rw [tt_neg hk]; rfl
    clear hk hw hin hb1 hs
    generalize apartL x l = AP at *
    unfold cells at *
    go_enter Tryd.func8, Tryd.ntmps8
    go_wp2_with fail
    with_reducible refine HC.out.mono ?_
    rintro e w2 ⟨rfl, hb2⟩
    have HB2 := Lib.hid (HB1.out.trans (hb2.mono HB1.out.size))
    clear hb2
    go_wp2_with fail
    go_ret
    exact ⟨by rw [HE.out]; rfl, HB2.out⟩
end Fill
end Go.Proofs.YtllbncfcnjmbmaaDoor

/-
  max(x, -x): the reference's function that reckons a literal's variable.
-/
namespace Go.Proofs.YtllbncfcnjmbmaaDoor
open Go.RowKit Base
set_option linter.unusedVariables false
namespace Clause

set_option maxHeartbeats 400000 in
theorem refAbs_any (x : Int) (h0 : -9223372036854775808 ≤ x) (h1 : x ≤ 9223372036854775807) (w : World) :
    Calls Tryd.prog 27 #[.int .i64 x] w fun e w' => e = .returned (.int .i64 (absI x)) ∧ w = w' := by
  by_cases hm : x = -9223372036854775808
  · subst hm
    go_enter Tryd.func27, Tryd.ntmps27
    go_wp2
    all_goals
      go_ret
      exact ⟨ret_int (by unfold absI; first | rfl | (unfold wrap64; rfl)), rfl⟩
  · have e : absI x = max x (-x) := if_neg hm
    have E := Lib.hid e
    have hm' : -9223372036854775807 ≤ x := by omega
    clear e hm
    go_enter Tryd.func27, Tryd.ntmps27
    go_wp2
    all_goals
      go_ret
      exact ⟨ret_int (by rw [E.out] <;> omega), rfl⟩

end Clause
end Go.Proofs.YtllbncfcnjmbmaaDoor

/-
  Is a literal true in a text of bits: the reference's.
-/
namespace Go.Proofs.YtllbncfcnjmbmaaDoor
open Go.RowKit Base
set_option linter.unusedVariables false
namespace True

theorem any_take_more {α : Type} {xs : List α} {p : α → Bool} {k : Nat} (hk : k < xs.length) (h : (xs.take k).any p = false) (hp : p xs[k] = false) : (xs.take (k + 1)).any p = false := by
  rw [List.take_succ_eq_append_getElem hk, List.any_append, h]; simp [hp]

theorem any_hit {α : Type} {xs : List α} {p : α → Bool} {k : Nat} (hk : k < xs.length) (hp : p xs[k] = true) : xs.any p = true :=
  List.any_eq_true.2 ⟨_, List.getElem_mem hk, hp⟩

set_option maxHeartbeats 1000000 in
theorem refIs_any (s : ByteArray) (hs : s.size ≤ 9223372036854775807) (l : Int) (h0 : -9223372036854775808 ≤ l) (h1 : l ≤ 9223372036854775807) (w : World) :
    Calls Tryd.prog 12 #[.string s, .int .i64 l] w fun e w' => e = .returned (.bool (CubeP.is s.data.toList l)) ∧ w = w' := by
  have HA := Lib.hid (Clause.refAbs_any l h0 h1 w)
  by_cases hr : 1 ≤ Clause.absI l ∧ Clause.absI l ≤ s.size
  · obtain ⟨k, hk⟩ : ∃ k : Nat, Clause.absI l = (k : Int) + 1 := ⟨(Clause.absI l - 1).toNat, by omega⟩
    have hks : k < s.size := by omega
    have hab : Clause.absI l = max l (-l) := by unfold Clause.absI at hr ⊢; split at hr <;> rename_i h; omega; rw [if_neg h]
    rw [hk] at HA
    by_cases hp : 0 < l
    · obtain rfl : l = (k : Int) + 1 := by omega
      have HI := Lib.hid (IsP.is_pos s k hks)
      clear h0 h1 hp hr hk hab
      go_enter Tryd.func12, Tryd.ntmps12
      go_wp2_with fail
      refine HA.out.mono ?_; rintro e w1 ⟨rfl, rfl⟩
      go_wp2_with fail
      refine HA.out.mono ?_; rintro e w1 ⟨rfl, rfl⟩
      go_wp2_with fail
      refine HA.out.mono ?_; rintro e w1 ⟨rfl, rfl⟩
      go_wp2_with fail
      go_ret
      exact ⟨ret_bool HI.out.symm, rfl⟩
    · obtain rfl : l = -((k : Int) + 1) := by omega
      have HI := Lib.hid (IsP.is_neg s k hks)
      clear h0 h1 hp hr hk hab
      go_enter Tryd.func12, Tryd.ntmps12
      go_wp2_with fail
      refine HA.out.mono ?_; rintro e w1 ⟨rfl, rfl⟩
      go_wp2_with fail
      refine HA.out.mono ?_; rintro e w1 ⟨rfl, rfl⟩
      go_wp2_with fail
      refine HA.out.mono ?_; rintro e w1 ⟨rfl, rfl⟩
      go_wp2_with fail
      go_ret
      exact ⟨ret_bool (by rw [HI.out, decide_eq_false (by omega)]; cases ((s[k].toNat : Int) == 49) <;> rfl), rfl⟩
  · have hout : max l (-l) < 1 ∨ (s.size : Int) < max l (-l) := by unfold Clause.absI at hr; split at hr <;> omega
    have HI := Lib.hid (IsP.is_out s l hout)
    generalize Clause.absI l = q at *
    by_cases hq : 1 ≤ q
    · have hq2 : (s.size : Int) < q := by omega
      clear hr hout h0 h1
      go_enter Tryd.func12, Tryd.ntmps12
      go_wp2_with fail
      refine HA.out.mono ?_; rintro e w1 ⟨rfl, rfl⟩
      go_wp2_with fail
      refine HA.out.mono ?_; rintro e w1 ⟨rfl, rfl⟩
      go_wp2_with fail
      go_ret
      exact ⟨ret_bool HI.out.symm, rfl⟩
    · clear hr hout h0 h1
      go_enter Tryd.func12, Tryd.ntmps12
      go_wp2_with fail
      refine HA.out.mono ?_; rintro e w1 ⟨rfl, rfl⟩
      go_wp2_with fail
      go_ret
      exact ⟨ret_bool HI.out.symm, rfl⟩
end True
end Go.Proofs.YtllbncfcnjmbmaaDoor

/-
  interlockplain.Ints: are two lists of integers one?
-/
namespace Go.Proofs.YtllbncfcnjmbmaaDoor
open Go.RowKit Base
set_option linter.unusedVariables false
namespace Plain

theorem take_all {xs ys : List Int} (h : xs.length = ys.length) : xs.take xs.length = ys.take xs.length → xs = ys := by
  intro e
  rw [List.take_length, h, List.take_length] at e
  exact e

theorem take_more {xs ys : List Int} {k : Nat} (hx : k < xs.length) (hy : k < ys.length) (h : xs.take k = ys.take k) (e : xs[k] = ys[k]) : xs.take (k + 1) = ys.take (k + 1) := by
  rw [List.take_succ_eq_append_getElem hx, List.take_succ_eq_append_getElem hy, h, e]

set_option maxHeartbeats 1000000 in
theorem ints_any (w : World) (a1 a2 : Option Addr) (n1 n2 c1 c2 : Nat) (xs ys : List Int) (h1 : Sl w a1 n1 c1 (ints xs)) (h2 : Sl w a2 n2 c2 (ints ys)) :
    Calls Tryd.prog 13 #[.slice a1 n1 c1, .slice a2 n2 c2] w fun e w' => e = .returned (.bool (decide (xs = ys))) ∧ Below w.heap.size w w' := by
  have l1 : xs.length = n1 := by have := h1.len; rw [ints_len] at this; exact this
  have l2 : ys.length = n2 := by have := h2.len; rw [ints_len] at this; exact this
  have hb1 := h1.cap
  have hb2 := h1.big
  by_cases hn : n1 = n2
  · subst hn
    subst l1
    have L2 := Lib.hid l2
    have l2' : ys.length ≤ xs.length := by omega
    have l2'' : xs.length ≤ ys.length := by omega
    clear l2
    go_enter Tryd.func13, Tryd.ntmps13
    go_wp2
    go_loopw [5] (fun i wr => ∃ k : Nat, k ≤ xs.length ∧ i = .int .i64 k ∧ Hid (xs.take k = ys.take k) ∧ Below w.heap.size w wr) (fun i _ => xs.length - (intOf i).toNat)
    case atStart => exact ⟨0, Nat.zero_le _, rfl, rfl, Below.refl _ _⟩
    case round =>
      obtain ⟨k, hk, rfl, hI, hbr⟩ := hrel
      by_cases hlt : k < xs.length
      · obtain ⟨b, o, hx, rfl, hbs, hc⟩ := h1.int hlt
        obtain ⟨b', o', hy, rfl, hbs', hc'⟩ := h2.int hlt
        have hcr : wr.cell? ⟨b, o + k, none⟩ = some (.int .i64 xs[k]) := (hbr.cell (p := ⟨b, o + k, none⟩) hbs).trans hc
        have hcr' : wr.cell? ⟨b', o' + k, none⟩ = some (.int .i64 ys[k]) := (hbr.cell (p := ⟨b', o' + k, none⟩) hbs').trans hc'
        clear hc hc'
        generalize hp : xs[k] = p at *
        generalize hq : ys[k] = q at *
        have HP := Lib.hid hp
        have HQ := Lib.hid hq
        clear hp hq
        by_cases hpq : p = q
        · have hv : (p != q) = false := by simp [hpq]
          have E := Lib.hid hpq
          clear hpq
          go_wp2_with fail
          go_quiet (fail)
          go_wp2
          go_roundw
          case rel => exact ⟨k + 1, by omega, by go_num, take_more hx hy hI.out (by rw [HP.out, HQ.out, E.out]), below_drewN hbr _⟩
          case measure => simp [intOf]; omega
        · have hv : (p != q) = true := by simp [hpq]
          have E := Lib.hid hpq
          clear hpq
          go_wp2_with fail
          go_quiet (fail)
          go_wp2
          go_ret
          refine ⟨ret_bool ?_, below_drewN hbr _⟩
          symm
          apply decide_eq_false
          intro h
          apply E.out
          rw [← HP.out, ← HQ.out]
          subst h
          rfl
      · go_wp2
        go_ret
        refine ⟨ret_bool ?_, hbr⟩
        symm
        apply decide_eq_true
        have hk' : k = xs.length := by omega
        subst hk'
        exact take_all L2.out.symm hI.out
  · have hne : ((n1 : Int) != (n2 : Int)) = true := by simp; omega
    have hne' : ((n1 : Int) == (n2 : Int)) = false := by simp; omega
    have hd : decide (xs = ys) = false := decide_eq_false (fun h => hn (by rw [← l1, ← l2, h]))
    have HD := Lib.hid hd
    clear hd
    go_enter Tryd.func13, Tryd.ntmps13
    go_wp2
    go_ret
    exact ⟨ret_bool HD.out.symm, Below.refl _ _⟩
end Plain
end Go.Proofs.YtllbncfcnjmbmaaDoor

/-
  interlocklaw21.alive: the page's example.
-/
namespace Go.Proofs.YtllbncfcnjmbmaaDoor
open Go.RowKit Base
set_option linter.unusedVariables false
namespace cubeIn

set_option maxHeartbeats 1000000 in
theorem alive (w : World) : Calls Tryd.prog 4 #[] w fun e w' => e = .returned (.bool true) ∧ Below w.heap.size w w' := by
  go_enter Tryd.func4, Tryd.ntmps4
  go_wp2_with fail
  refine (Cube.of_any _ (by decide) w).mono ?_
  rintro e w1 ⟨a, c, rfl, hown, hb⟩
  obtain ⟨a', c', ev, hsl⟩ := own_sl hown
  simp only [Value.slice.injEq] at ev
  obtain ⟨rfl, _, rfl⟩ := ev
  go_wp2_with fail
  refine (Plain.ints_any _ _ _ _ _ _ _ _ [-2, 3] (hsl.next ((Below.refl _ _).alloc (Nat.le_refl _) _)) (sl_new w1 #[.int .i64 (-2), .int .i64 3] 3 2 rfl (by decide))).mono ?_
  rintro e w2 ⟨rfl, hb2⟩
  go_wp2_with fail
  go_ret
  have hb1 := hb.alloc hb.size (.cells #[.int .i64 (-2), .int .i64 3] 3)
  exact ⟨ret_bool (by decide), hb1.trans (hb2.mono hb1.size)⟩
end cubeIn
end Go.Proofs.YtllbncfcnjmbmaaDoor
