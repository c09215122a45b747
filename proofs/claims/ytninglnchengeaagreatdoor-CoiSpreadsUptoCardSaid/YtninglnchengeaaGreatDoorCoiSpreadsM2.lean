/-
  Several texts in one (written by merge2.py): XLitsCheck XSlfR XCoiAsk XCloneLA XRowsK XDelN XSlfL XDelL XSlfA XDelA XCoiRed XSortedN XPlainInts XCoiNeed XCoiAlive XTellsH XLawAsk XSprN XLayT XRepeatT XCont
-/
import Derived.Test.YtninglnchengeaaGreatDoorGateP
import Derived.Test.YtninglnchengeaaGreatDoorSlfI
import Derived.Test.YtninglnchengeaaGreatDoorLex
import Derived.Laws.EntriesVeiled
import Derived.Deep.DeepCutAuto
import Derived.Test.YtninglnchengeaaGreatDoorBase
import Derived.Shelf.Abstract
import Derived.Test.YtninglnchengeaaGreatDoorCheckC
import Derived.Test.YtninglnchengeaaGreatDoorWfC
import Derived.Test.YtninglnchengeaaGreatDoorCoiSpreadsM1
import Derived.Lib.SliceRun
import Derived.Test.YtninglnchengeaaGreatDoorCirc
import Derived.Shelf.SlIterI.Nil
import Derived.Shelf.SortM.Plain
import Derived.Shelf.SortM.SortNone
import Derived.Ground.GgzProg
import Derived.Ground.SlgmProg
import Derived.Test.YtninglnchengeaaGreatDoorLaws
import Derived.Deep.QuietTactic
import Derived.BigQuiet
import Derived.Test.YtninglnchengeaaGreatDoorRefCheck
import Derived.Test.YtninglnchengeaaGreatDoorCheckP
import Derived.Shelf.Lay
import Derived.Shelf.Strings.SlTrimAscii
import Derived.Shelf.Bits.Mul64
import Derived.Laws.CopyOwn
import Derived.Deep.RegionLaw
/-
  lits.Check, at whatever greatest variable may be.
-/
namespace Go.Proofs.YtninglnchengeaaGreatDoor
open Go.RowKit Base
set_option linter.unusedVariables false
set_option linter.unusedSimpArgs false
namespace LitsC
open Circuit

def oddM (mx l : Int) : Bool := decide (l < 0) || decide (mx < var l)
theorem eg_chk : SlfI.Enters 83 := enters_of Tryz.func83 (by kernel_rfl) rfl
set_option maxHeartbeats 4000000 in
theorem chk1_any (w : World) (Bw Bm : Nat) (hw : w.cell? ⟨Bw, 0, none⟩ = some (.bool false)) (mx : Int) (hm : w.cell? ⟨Bm, 0, none⟩ = some (.int .i64 mx)) (hlw : Bw < w.heap.size) (hlm : Bm < w.heap.size) (x : Int) (hx0 : -9223372036854775808 ≤ x) (hx1 : x ≤ 9223372036854775807) :
    Calls Tryz.prog 83 #[.int .i64 x, .pointer (some ⟨Bw, 0, none⟩), .pointer (some ⟨Bm, 0, none⟩)] w fun e w' => e = .returned (.bool (oddM mx x)) ∧ Below w.heap.size w w' := by
  have HS := fun (U : World) (hU : Below w.heap.size w U) => (⟨hU, (hU.cell (p := ⟨Bw, 0, none⟩) hlw).trans hw, (hU.cell (p := ⟨Bm, 0, none⟩) hlm).trans hm⟩ : Below w.heap.size w U ∧ U.cell? ⟨Bw, 0, none⟩ = some (.bool false) ∧ U.cell? ⟨Bm, 0, none⟩ = some (.int .i64 mx))
  have LC1 := Lib.hid (fun (U : World) (hU : Below w.heap.size w U ∧ U.cell? ⟨Bw, 0, none⟩ = some (.bool false) ∧ U.cell? ⟨Bm, 0, none⟩ = some (.int .i64 mx)) => (var_any x hx0 hx1 U).mono (fun e w' h => (⟨h.1, h.2 ▸ hU⟩ : e = .returned (.int .i64 (var x)) ∧ Below w.heap.size w w' ∧ w'.cell? ⟨Bw, 0, none⟩ = some (.bool false) ∧ w'.cell? ⟨Bm, 0, none⟩ = some (.int .i64 mx))))
  have HF := Lib.hid (HS w.drew (Below.refl _ _).drew)
  have HOD : Hid (oddM mx x = (decide (x < 0) || decide (mx < var x))) := rfl
  clear HS hw hm hlw hlm hx0 hx1
  generalize hv : var x = v at *
  clear hv
  by_cases hx : x < 0
  · have hd : decide (x < 0) = true := decide_eq_true hx
    have HR : Hid (oddM mx x = true) := by show _ = _; rw [HOD.out, hd]; rfl
    clear hx
    go_enter Tryz.func83, Tryz.ntmps83
    go_upto_region 1 with fail
    refine Lex.region (fun w' => Below w.heap.size w w' ∧ w'.cell? ⟨Bw, 0, none⟩ = some (.bool false) ∧ w'.cell? ⟨Bm, 0, none⟩ = some (.int .i64 mx)) (by kernel_rfl) (by kernel_rfl) HF.out ?_
    repeat (first
      | (refine Lex.step_val (v := ?_) ?_ (fun w' hSw => ?_) ?_; rotate_left; (focus (go_simp; done)); (focus ((try dsimp only at hSw); go_simp; (try with_reducible rfl); done)); (try simp only [Act.put, List.setIfInBounds_toArray, List.set_cons_zero, List.set_cons_succ]))
      | (refine Lex.step_call (v := ?_) (f := ?_) (args := ?_) ?_ (fun w' hSw => ?_) ?_ ?_; rotate_left 3; (focus (go_simp; done)); (focus ((try dsimp only at hSw); go_simp; (refine And.intro ?_ ?_ <;> with_reducible rfl); done)); (focus (first | with_reducible exact LC1.out)); (try simp only [Act.put, List.setIfInBounds_toArray, List.set_cons_zero, List.set_cons_succ]))
      | (refine Lex.step_off ?_ ?_; (focus (first | (go_simp; done) | (simp [Region.wanted, yielded, undef]; done) | rfl)); (try simp only [Act.put, List.setIfInBounds_toArray, List.set_cons_zero, List.set_cons_succ]))
      | fail)
    refine Lex.step_nil ?_
    intro wz hz
    go_wp2_with fail
    go_ret
    exact ⟨ret_bool HR.out.symm, hz.1⟩
  · have hd : decide (x < 0) = false := decide_eq_false hx
    have HR : Hid (oddM mx x = decide (mx < v)) := by show _ = _; rw [HOD.out, hd]; rfl
    clear hx
    generalize hq : decide (mx < v) = q at *
    go_enter Tryz.func83, Tryz.ntmps83
    go_upto_region 1 with fail
    refine Lex.region (fun w' => Below w.heap.size w w' ∧ w'.cell? ⟨Bw, 0, none⟩ = some (.bool false) ∧ w'.cell? ⟨Bm, 0, none⟩ = some (.int .i64 mx)) (by kernel_rfl) (by kernel_rfl) HF.out ?_
    repeat (first
      | (refine Lex.step_val (v := ?_) ?_ (fun w' hSw => ?_) ?_; rotate_left; (focus (go_simp; done)); (focus ((try dsimp only at hSw); go_simp; (try with_reducible rfl); done)); (try simp only [Act.put, List.setIfInBounds_toArray, List.set_cons_zero, List.set_cons_succ]))
      | (refine Lex.step_call (v := ?_) (f := ?_) (args := ?_) ?_ (fun w' hSw => ?_) ?_ ?_; rotate_left 3; (focus (go_simp; done)); (focus ((try dsimp only at hSw); go_simp; (refine And.intro ?_ ?_ <;> with_reducible rfl); done)); (focus (first | with_reducible exact LC1.out)); (try simp only [Act.put, List.setIfInBounds_toArray, List.set_cons_zero, List.set_cons_succ]))
      | (refine Lex.step_off ?_ ?_; (focus (first | (go_simp; done) | (simp [Region.wanted, yielded, undef]; done) | rfl)); (try simp only [Act.put, List.setIfInBounds_toArray, List.set_cons_zero, List.set_cons_succ]))
      | fail)
    refine Lex.step_nil ?_
    intro wz hz
    go_wp2_with fail
    go_ret
    exact ⟨ret_bool HR.out.symm, hz.1⟩

set_option maxHeartbeats 2000000 in
theorem check_any (w : World) (a : Option Addr) (n c : Nat) (l : List Int) (hsl : Sl w a n c (ints l)) (hw : ∀ y ∈ l, Circuit.I64 y) (mx : Int) (hm0 : 0 ≤ mx) (hm1 : mx ≤ 2048) :
    Calls Tryz.prog 54 #[.int .i64 mx, .slice a n c] w fun e w' => e = .returned (.int .i64 (if l.any (oddM mx) = true then 4 else 0)) ∧ Below w.heap.size w w' := by
  have hlm : l.length = n := by have := hsl.len; rwa [ints_len] at this
  obtain ⟨W1, hW1⟩ : ∃ U, w.alloc (.cells #[.int .i64 mx] 3) = U := ⟨_, rfl⟩
  obtain ⟨U, hU⟩ : ∃ U, W1.alloc (.cells #[.bool false] 4) = U := ⟨_, rfl⟩
  have hb1 : Below w.heap.size w W1 := by rw [← hW1]; exact (Below.refl _ _).alloc (Nat.le_refl _) _
  have hb2 : Below W1.heap.size W1 U := by rw [← hU]; exact (Below.refl _ _).alloc (Nat.le_refl _) _
  have hz1 : w.heap.size < W1.heap.size := by rw [← hW1]; simp
  have hz2 : W1.heap.size < U.heap.size := by rw [← hU]; simp
  have u0 : U.cell? ⟨w.heap.size, 0, none⟩ = some (.int .i64 mx) := (hb2.cell (p := ⟨w.heap.size, 0, none⟩) hz1).trans (by rw [← hW1]; simp)
  have u1 : U.cell? ⟨W1.heap.size, 0, none⟩ = some (.bool false) := by rw [← hU]; simp
  have w0 : W1.cell? ⟨w.heap.size, 0, none⟩ = some (.int .i64 mx) := by rw [← hW1]; simp
  have hb := hb1.trans (hb2.mono hb1.size)
  have CF := SlfI.containsFunc U a n c (ints l) 83 #[] #[.pointer (some ⟨W1.heap.size, 0, none⟩), .pointer (some ⟨w.heap.size, 0, none⟩)] (l.map (oddM mx)) (hsl.next hb) (by rw [List.length_map, hlm]) eg_chk (by
    intro V hV j y q hy hq
    obtain ⟨hj, rfl⟩ := Base.ints_at hy
    rw [List.getElem?_map, List.getElem?_eq_getElem hj] at hq
    simp only [Option.map_some, Option.some.injEq] at hq
    subst hq
    have hzV := hV.size
    exact chk1_any V W1.heap.size w.heap.size ((hV.cell (p := ⟨W1.heap.size, 0, none⟩) hz2).trans u1) mx ((hV.cell (p := ⟨w.heap.size, 0, none⟩) (Nat.lt_trans hz1 hz2)).trans u0) (by omega) (by omega) l[j] (hw _ (List.getElem_mem hj)).1 (hw _ (List.getElem_mem hj)).2)
  have hall : ((l.map (oddM mx)).any id) = l.any (oddM mx) := by
    rw [List.any_map]
    rfl
  rw [hall] at CF
  have HCF := Lib.hid CF
  have HB := Lib.hid hb
  have HU := Lib.hid hU
  have HWR : Hid ((decide (mx < 0) || decide (2048 < mx)) = false) := by show _ = _; rw [decide_eq_false (by omega), decide_eq_false (by omega)]; rfl
  clear CF hall hb hb1 hb2 hz1 hz2 u0 u1 hsl hw hU
  generalize l.any (oddM mx) = q at *
  cases q
  all_goals
    go_enter Tryz.func54, Tryz.ntmps54
    go_wp2_with fail
    rw [HWR.out, HU.out]
    with_reducible refine HCF.out.mono ?_
    rintro e w3 ⟨rfl, hb3⟩
    have HB3 := Lib.hid (HB.out.trans (hb3.mono HB.out.size))
    clear hb3
    go_wp2_with fail
    go_ret
    exact ⟨rfl, HB3.out⟩

end LitsC
end Go.Proofs.YtninglnchengeaaGreatDoor

/-
  slices.IndexFunc and slices.ContainsFunc at one instance (elements of one cell), whatever predicate is handed over: ps says of each element what the predicate gives.
-/
namespace Go.Proofs.YtninglnchengeaaGreatDoor
open Go.RowKit Base
set_option linter.unusedVariables false
namespace SlfR

/-- A function value gives ps of the elements, and turns nothing that is there. -/
def Gives (w : World) (g : FuncId) (fs lb : Array Value) (vs : List Value) (ps : List Bool) : Prop :=
  ∀ W, Below w.heap.size w W → ∀ (k : Nat) (v : Value) (b : Bool), vs[k]? = some v → ps[k]? = some b → Calls Tryz.prog g (fs.push v ++ lb) W fun e w' => e = .returned (.bool b) ∧ Below W.heap.size W w'

def Enters (g : FuncId) : Prop := ∀ args w, (callFunc g args).run Tryz.prog w = .ok (.enter g args) w

theorem idx_hit (ps : List Bool) (k : Nat) (h : ps[k]? = some true) : idx id (ps.drop k) k = k := by
  obtain ⟨hk, e⟩ := List.getElem?_eq_some_iff.1 h
  rw [List.drop_eq_getElem_cons hk]; unfold idx; rw [e]; rfl
theorem idx_miss (ps : List Bool) (k : Nat) (h : ps[k]? = some false) : idx id (ps.drop k) k = idx id (ps.drop (k + 1)) (k + 1) := by
  obtain ⟨hk, e⟩ := List.getElem?_eq_some_iff.1 h
  rw [List.drop_eq_getElem_cons hk]
  show (if id ps[k] = true then _ else _) = _
  rw [e]; rfl

set_option maxHeartbeats 1000000 in
theorem indexFunc (w : World) (a : Option Addr) (n c : Nat) (vs : List Value) (g : FuncId) (fs lb : Array Value) (ps : List Bool)
    (hs : Sl w a n c vs) (hps : ps.length = n) (eg : Enters g) (hg : Gives w g fs lb vs ps) :
    Calls Tryz.prog 84 #[.slice a n c, .func (.func g) fs lb] w fun e w' => e = .returned (.int .i64 (idx id ps 0)) ∧ Below w.heap.size w w' := by
  have hcap := hs.cap
  have hbig := hs.big
  have HPS := Lib.hid hps
  have HG := Lib.hid hg
  clear hg hps
  unfold Enters at eg
  go_enter Tryz.func84, Tryz.ntmps84
  go_wp2
  go_loopw [5, 8] (fun _ i wr => ∃ k : Nat, k ≤ n ∧ i = .int .i64 k ∧ Below w.heap.size w wr ∧ Hid (idx id ps 0 = idx id (ps.drop k) k)) (fun _ i _ => n - (intOf i).toNat)
  case atStart => exact ⟨0, Nat.zero_le _, rfl, Below.refl _ _, rfl⟩
  case round =>
    obtain ⟨k, hk, rfl, hb, hI⟩ := hrel
    by_cases hlt : k < n
    · obtain ⟨b, o, v, rfl, hbs, hv, hc⟩ := hs.at hlt
      have hcr : wr.cell? ⟨b, o + k, none⟩ = some v := (hb.cell (p := ⟨b, o + k, none⟩) hbs).trans hc
      have HV := Lib.hid hv
      clear hc hv
      obtain ⟨q, hq⟩ : ∃ q, ps[k]? = some q := ⟨_, List.getElem?_eq_getElem (by have := HPS.out; omega)⟩
      have HQ := Lib.hid hq
      clear hq
      cases q
      all_goals
        go_wp2_with fail
        refine (HG.out wr hb k v _ HV.out HQ.out).mono ?_
        rintro e w1 ⟨rfl, hb1⟩
        go_wp2_with fail
      · go_roundw
        case rel => exact ⟨k + 1, by omega, by go_num, hb.trans (hb1.mono hb.size), hI.out.trans (idx_miss ps k HQ.out)⟩
        case measure => simp [intOf]; omega
      · go_ret
        exact ⟨ret_int (by rw [hI.out, idx_hit ps k HQ.out]), hb.trans (hb1.mono hb.size)⟩
    · go_wp2
      go_ret
      exact ⟨ret_int (by rw [hI.out, List.drop_of_length_le (by rw [HPS.out]; omega)]; rfl), hb⟩

set_option maxHeartbeats 400000 in
theorem containsFunc (w : World) (a : Option Addr) (n c : Nat) (vs : List Value) (g : FuncId) (fs lb : Array Value) (ps : List Bool)
    (hs : Sl w a n c vs) (hps : ps.length = n) (eg : Enters g) (hg : Gives w g fs lb vs ps) :
    Calls Tryz.prog 55 #[.slice a n c, .func (.func g) fs lb] w fun e w' => e = .returned (.bool (ps.any id)) ∧ Below w.heap.size w w' := by
  have H := Lib.hid (indexFunc w a n c vs g fs lb ps hs hps eg hg)
  clear hg hs eg hps
  go_enter Tryz.func55, Tryz.ntmps55
  go_wp2_with fail
  refine H.out.mono ?_
  rintro e w1 ⟨rfl, hb1⟩
  generalize hq : idx id ps 0 = q
  have HQ := Lib.hid hq
  clear hq
  go_wp2_with fail
  go_ret
  exact ⟨ret_bool (by rw [← idx_nn id ps 0, HQ.out]), hb1⟩
end SlfR
end Go.Proofs.YtninglnchengeaaGreatDoor

/-
  coi.asked: may it be asked what counts?
-/
namespace Go.Proofs.YtninglnchengeaaGreatDoor
open Go.RowKit Base
set_option linter.unusedVariables false
set_option linter.unusedSimpArgs false
namespace Coi
open Circuit LitsC

theorem eg_ask : SlfR.Enters 53 := enters_of Tryz.func53 (by kernel_rfl) rfl
def strangeL (mx : Int) (l : List Int) : Bool := l.any (oddM mx)

set_option maxHeartbeats 1000000 in
theorem ask1_any (w : World) (N : Nat) (mx : Int) (hm : w.cell? ⟨N, 0, none⟩ = some (.int .i64 mx)) (h0 : 0 ≤ mx) (h1 : mx ≤ 2048) (a : Option Addr) (n c : Nat) (l : List Int) (hsl : Sl w a n c (ints l)) (hl : ∀ y ∈ l, Circuit.I64 y) :
    Calls Tryz.prog 53 #[.slice a n c, .pointer (some ⟨N, 0, none⟩)] w fun e w' => e = .returned (.bool (strangeL mx l)) ∧ Below w.heap.size w w' := by
  have HC := Lib.hid (check_any w a n c l hsl hl mx h0 h1)
  unfold strangeL
  generalize l.any (oddM mx) = q at *
  clear hsl hl h0 h1
  cases q
  all_goals
    go_enter Tryz.func53, Tryz.ntmps53
    go_wp2_with fail
    with_reducible refine HC.out.mono ?_
    rintro e w2 ⟨rfl, hb2⟩
    go_wp2_with fail
    go_ret
    exact ⟨rfl, hb2⟩

/-- What asked tells. -/
noncomputable def askE (x : Circ) (A : List (List Int)) (bad : Int) : Int :=
  if tt (CheckOk x) = true then (if bad < 0 ∨ (x.bads.length : Int) ≤ bad then 4 else if A.any (strangeL x.max) = true then 23 else 0) else 9
theorem askE_no {x : Circ} (h : ¬ CheckOk x) (A : List (List Int)) (bad : Int) : askE x A bad = 9 := by unfold askE; rw [tt_neg h]; rfl
theorem askE_bad {x : Circ} (h : CheckOk x) (A : List (List Int)) {bad : Int} (hb : bad < 0 ∨ (x.bads.length : Int) ≤ bad) : askE x A bad = 4 := by unfold askE; rw [tt_pos h, if_pos rfl, if_pos hb]
theorem askE_kind {x : Circ} (h : CheckOk x) {A : List (List Int)} {bad : Int} (hb : ¬ (bad < 0 ∨ (x.bads.length : Int) ≤ bad)) (hA : A.any (strangeL x.max) = true) : askE x A bad = 23 := by unfold askE; rw [tt_pos h, if_pos rfl, if_neg hb, if_pos hA]
theorem askE_ok {x : Circ} (h : CheckOk x) {A : List (List Int)} {bad : Int} (hb : ¬ (bad < 0 ∨ (x.bads.length : Int) ≤ bad)) (hA : A.any (strangeL x.max) = false) : askE x A bad = 0 := by unfold askE; rw [tt_pos h, if_pos rfl, if_neg hb, if_neg (by rw [hA]; decide)]
theorem askE_zero {x : Circ} {A : List (List Int)} {bad : Int} (h : askE x A bad = 0) : CheckOk x ∧ 0 ≤ bad ∧ bad < x.bads.length ∧ A.any (strangeL x.max) = false := by
  by_cases hc : CheckOk x
  · by_cases hb : bad < 0 ∨ (x.bads.length : Int) ≤ bad
    · rw [askE_bad hc A hb] at h; omega
    · cases hA : A.any (strangeL x.max)
      · exact ⟨hc, by omega, by omega, rfl⟩
      · rw [askE_kind hc hb hA] at h; omega
  · rw [askE_no hc] at h; omega

set_option maxRecDepth 8000 in
set_option maxHeartbeats 4000000 in
theorem asked_any (w : World) (x : Circ) (p : At) (hin : InCirc w x p) (hw : WfC x) (aA : Option Addr) (n cA : Nat) (vals : List Value) (A : List (List Int)) (hA : Sl2 w aA n cA vals A) (hA64 : ∀ y ∈ A.flatten, Circuit.I64 y) (bad : Int) (hb0 : -9223372036854775808 ≤ bad) (hb1 : bad ≤ 9223372036854775807) :
    Calls Tryz.prog 23 #[.agg (cells x p), .slice aA n cA, .int .i64 bad] w fun e w' => e = .returned (.int .i64 (askE x A bad)) ∧ Below w.heap.size w w' := by
  obtain ⟨W1, hW1⟩ : ∃ W1, w.alloc (.cells (cells x p) 27) = W1 := ⟨_, rfl⟩
  obtain ⟨hb1', hc1⟩ := cbox_new w x p W1 hW1
  have HB1 := Lib.hid hb1'
  have HC := Lib.hid (check_any W1 x p (hin.next hb1') hw.ins hw.outs hw.bads hw.invs hw.lats hw.ands hw.mx)
  have HCB := Lib.hid (fun (U : World) (hU : Below W1.heap.size W1 U) => hc1.next hU (Nat.le_refl _))
  have HA := Lib.hid (fun (U : World) (hU : Below W1.heap.size W1 U) => (hA.next hb1').next hU)
  have HA64 := Lib.hid hA64
  have HAL := Lib.hid (hA.len)
  have HLB := Lib.hid (hin.bads.big)
  have k0 := hc1.k0
  have k1 := hc1.k1
  have k2 := hc1.k2
  have k3 := hc1.k3
  have k4 := hc1.k4
  have k5 := hc1.k5
  have k6 := hc1.k6
  have k7 := hc1.k7
  obtain ⟨a1, c1, a2, c2, a3, c3, a4, c4, a5, c5, a6, c6, a7, c7⟩ := p
  simp only [cells] at *
  by_cases hok : CheckOk x
  · rw [chk_pos hok] at HC
    have HOK := Lib.hid hok
    clear hin hw hA hA64 hb1' hc1 hok
    by_cases hlo : bad < 0
    · have HE : Hid (askE x A bad = 4) := askE_bad HOK.out A (Or.inl hlo)
      go_enter Tryz.func23, Tryz.ntmps23
      go_wp2_with fail
      with_reducible refine HC.out.mono ?_
      rintro e w2 ⟨rfl, hb2⟩
      have HB2 := Lib.hid hb2
      clear hb2 k0 k1 k2 k3 k4 k5 k6 k7 hW1
      go_wp2_with fail
      go_ret
      exact ⟨ret_int HE.out.symm, HB1.out.trans (HB2.out.mono HB1.out.size)⟩
    · by_cases hhi : (x.bads.length : Int) ≤ bad
      · have HE : Hid (askE x A bad = 4) := askE_bad HOK.out A (Or.inr hhi)
        go_enter Tryz.func23, Tryz.ntmps23
        go_wp2_with fail
        with_reducible refine HC.out.mono ?_
        rintro e w2 ⟨rfl, hb2⟩
        have HB2 := Lib.hid hb2
        have m4 := (HCB.out w2 hb2).k4
        clear hb2 k0 k1 k2 k3 k4 k5 k6 k7 hW1
        go_wp2_with fail
        go_ret
        exact ⟨ret_int HE.out.symm, HB1.out.trans (HB2.out.mono HB1.out.size)⟩
      · have HN : Hid (¬ (bad < 0 ∨ (x.bads.length : Int) ≤ bad)) := fun h => h.elim hlo hhi
        have HGV := Lib.hid (fun (U : World) (hU : Below W1.heap.size W1 U) => SlfR.containsFunc U aA n cA vals 53 #[] #[.pointer (some ⟨w.heap.size, 0, none⟩)] (A.map (strangeL x.max)) (HA.out U hU).sl (by rw [List.length_map, HAL.out]) eg_ask (by
          intro V hV j v q hv hq
          rw [List.getElem?_map, Option.map_eq_some_iff] at hq
          obtain ⟨l, hl, rfl⟩ := hq
          have hVU := hU.trans (hV.mono hU.size)
          obtain ⟨a', c', rfl, hs⟩ := (HA.out V hVU).row j v l hv hl
          exact ask1_any V w.heap.size x.max (HCB.out V hVU).k0 HOK.out.1.1 HOK.out.1.2.1 a' l.length c' l hs (fun y hy => HA64.out y (List.mem_flatten.2 ⟨l, List.mem_of_getElem? hl, hy⟩))))
        have hany : ((A.map (strangeL x.max)).any id) = A.any (strangeL x.max) := by rw [List.any_map]; rfl
        rw [hany] at HGV
        have hhi2 : bad < (x.bads.length : Int) := by omega
        clear hany
        cases hq : A.any (strangeL x.max)
        · have HE : Hid (askE x A bad = 0) := askE_ok HOK.out HN.out hq
          rw [hq] at HGV
          clear hq
          go_enter Tryz.func23, Tryz.ntmps23
          go_wp2_with fail
          with_reducible refine HC.out.mono ?_
          rintro e w2 ⟨rfl, hb2⟩
          have HB2 := Lib.hid hb2
          have m4 := (HCB.out w2 hb2).k4
          have HG2 := Lib.hid (HGV.out w2 hb2)
          clear hb2 k0 k1 k2 k3 k4 k5 k6 k7 hW1
          go_wp2_with fail
          with_reducible refine HG2.out.mono ?_
          rintro e w3 ⟨rfl, hb3⟩
          go_wp2_with fail
          go_ret
          exact ⟨ret_int HE.out.symm, HB1.out.trans ((HB2.out.trans (hb3.mono HB2.out.size)).mono HB1.out.size)⟩
        · have HE : Hid (askE x A bad = 23) := askE_kind HOK.out HN.out hq
          rw [hq] at HGV
          clear hq
          go_enter Tryz.func23, Tryz.ntmps23
          go_wp2_with fail
          with_reducible refine HC.out.mono ?_
          rintro e w2 ⟨rfl, hb2⟩
          have HB2 := Lib.hid hb2
          have m4 := (HCB.out w2 hb2).k4
          have HG2 := Lib.hid (HGV.out w2 hb2)
          clear hb2 k0 k1 k2 k3 k4 k5 k6 k7 hW1
          go_wp2_with fail
          with_reducible refine HG2.out.mono ?_
          rintro e w3 ⟨rfl, hb3⟩
          go_wp2_with fail
          go_ret
          exact ⟨ret_int HE.out.symm, HB1.out.trans ((HB2.out.trans (hb3.mono HB2.out.size)).mono HB1.out.size)⟩
  · rw [chk_neg hok] at HC
    have HE : Hid (askE x A bad = 9) := askE_no hok A bad
    clear hin hw hA hA64 hb1' hc1 hok
    go_enter Tryz.func23, Tryz.ntmps23
    go_wp2_with fail
    with_reducible refine HC.out.mono ?_
    rintro e w2 ⟨rfl, hb2⟩
    have HB2 := Lib.hid hb2
    clear hb2 k0 k1 k2 k3 k4 k5 k6 k7 hW1
    go_wp2_with fail
    go_ret
    exact ⟨ret_int HE.out.symm, HB1.out.trans (HB2.out.mono HB1.out.size)⟩
end Coi
end Go.Proofs.YtninglnchengeaaGreatDoor

/-
  slices.Clone of slices of structs of three cells.
-/
namespace Go.Proofs.YtninglnchengeaaGreatDoor
open Go.RowKit Base
set_option linter.unusedVariables false
set_option linter.unusedSimpArgs false
namespace CloneT
theorem info_latch : (Tryz.prog.info? 37).map (fun i => (i.zero, i.size, i.bytes)) = some (some (.agg #[.int .i64 0, .int .i64 0, .int .i64 0]), 3, 24) := by kernel_rfl
theorem info_and : (Tryz.prog.info? 62).map (fun i => (i.zero, i.size, i.bytes)) = some (some (.agg #[.int .i64 0, .int .i64 0, .int .i64 0]), 3, 24) := by kernel_rfl


set_option maxHeartbeats 1000000 in
theorem latches (w : World) (a : Option Addr) (n c : Nat) (vs : List (List Value)) (hsl : SlT w 3 a n c vs) (h1 : ∀ u ∈ vs.flatten, u.oneCell' = true) (hr : ∀ r ∈ vs, r.length = 3) (hn : n * 24 ≤ 140737488355328) :
    Calls Tryz.prog 30 #[.slice a n c] w fun e w' => ∃ a' c', e = .returned (.slice a' n c') ∧ w'.ownsRow w.heap.size 37 3 (.slice a' n c') n vs.flatten ∧ Below w.heap.size w w' := by
  have heq := fun (W : World) (x : Option Addr) => Lib.run_eql_slice_nil (P := Tryz.prog) W 23 37 x n c 0 0 Tryz.underlying23
  cases a with
  | none =>
    obtain ⟨rfl, rfl⟩ := hsl.bare rfl
    have hv : vs = [] := List.eq_nil_of_length_eq_zero hsl.len
    subst hv
    go_enter Tryz.func30, Tryz.ntmps30
    go_wp2_with fail
    go_ret
    exact ⟨none, 0, rfl, World.ownsRow_nil _ _ _ _, Below.refl _ _⟩
  | some ad =>
    have hal : Below w.heap.size w (w.alloc (.cells #[] 37)) := (Below.refl _ _).alloc (Nat.le_refl _) _
    have hsl' := hsl.next hal
    have hown : (w.alloc (.cells #[] 37)).ownsRow w.heap.size 37 3 (.slice (some ⟨w.heap.size, 0, none⟩) 0 0) 0 ([] : List (List Value)).flatten := World.ownsRow_lit w #[] 0 (Nat.le_refl _) (by unfold maxLen; omega) rfl
    have H1 := Lib.hid h1
    have HR := Lib.hid hr
    clear h1 hsl hr
    go_enter Tryz.func30, Tryz.ntmps30
    go_wp2_with ((with_reducible refine wpL_appK (k := 3) (by decide) (B := w.heap.size) (W := w) _ 0 [] _ n c vs info_latch Tryz.underlying23 ?_ ?_ ?_ H1.out HR.out hown hsl' ?_ ?_ ?_ hal ?_); rfl; rfl; rfl; exact hal.size; omega; omega; (rw [Nat.zero_add, List.nil_append]; intro a2 c2 w2 hown2 hb2 _))
    go_ret
    exact ⟨a2, c2, rfl, hown2, hb2⟩


set_option maxHeartbeats 1000000 in
theorem ands (w : World) (a : Option Addr) (n c : Nat) (vs : List (List Value)) (hsl : SlT w 3 a n c vs) (h1 : ∀ u ∈ vs.flatten, u.oneCell' = true) (hr : ∀ r ∈ vs, r.length = 3) (hn : n * 24 ≤ 140737488355328) :
    Calls Tryz.prog 33 #[.slice a n c] w fun e w' => ∃ a' c', e = .returned (.slice a' n c') ∧ w'.ownsRow w.heap.size 62 3 (.slice a' n c') n vs.flatten ∧ Below w.heap.size w w' := by
  have heq := fun (W : World) (x : Option Addr) => Lib.run_eql_slice_nil (P := Tryz.prog) W 24 62 x n c 0 0 Tryz.underlying24
  cases a with
  | none =>
    obtain ⟨rfl, rfl⟩ := hsl.bare rfl
    have hv : vs = [] := List.eq_nil_of_length_eq_zero hsl.len
    subst hv
    go_enter Tryz.func33, Tryz.ntmps33
    go_wp2_with fail
    go_ret
    exact ⟨none, 0, rfl, World.ownsRow_nil _ _ _ _, Below.refl _ _⟩
  | some ad =>
    have hal : Below w.heap.size w (w.alloc (.cells #[] 62)) := (Below.refl _ _).alloc (Nat.le_refl _) _
    have hsl' := hsl.next hal
    have hown : (w.alloc (.cells #[] 62)).ownsRow w.heap.size 62 3 (.slice (some ⟨w.heap.size, 0, none⟩) 0 0) 0 ([] : List (List Value)).flatten := World.ownsRow_lit w #[] 0 (Nat.le_refl _) (by unfold maxLen; omega) rfl
    have H1 := Lib.hid h1
    have HR := Lib.hid hr
    clear h1 hsl hr
    go_enter Tryz.func33, Tryz.ntmps33
    go_wp2_with ((with_reducible refine wpL_appK (k := 3) (by decide) (B := w.heap.size) (W := w) _ 0 [] _ n c vs info_and Tryz.underlying24 ?_ ?_ ?_ H1.out HR.out hown hsl' ?_ ?_ ?_ hal ?_); rfl; rfl; rfl; exact hal.size; omega; omega; (rw [Nat.zero_add, List.nil_append]; intro a2 c2 w2 hown2 hb2 _))
    go_ret
    exact ⟨a2, c2, rfl, hown2, hb2⟩


end CloneT
end Go.Proofs.YtninglnchengeaaGreatDoor

/-
  Rows of k cells in a block of one's own: read, written, cleared. No program's function.
-/
namespace Go.Proofs.YtninglnchengeaaGreatDoor
open Go.RowKit Base
set_option linter.unusedVariables false
set_option linter.unusedSimpArgs false
namespace RowsK

theorem grown_below {w w1 w2 : World} {ob : Option Nat} (h : w.grownBy w1 ob) (hb : Below w1.heap.size w1 w2) : w.grownBy w2 ob :=
  ⟨hb.os.trans h.os, hb.tape.trans h.tape, hb.output.trans h.output, Nat.le_trans h.size hb.size, fun k hk hne => (hb.block k (Nat.lt_of_lt_of_le hk h.size)).trans (h.block k hk hne)⟩

theorem grown_of_below {w w1 : World} {ob : Option Nat} (hb : Below w.heap.size w w1) : w.grownBy w1 ob :=
  ⟨hb.os, hb.tape, hb.output, hb.size, fun k hk _ => hb.block k hk⟩

theorem grown_set {w w1 : World} {G : Nat} (h : w.grownBy w1 (some G)) (i : Nat) (u : Value) : w.grownBy (w1.setCell ⟨G, i, none⟩ u) (some G) := by
  refine ⟨h.os, h.tape, h.output, by simpa [World.setCell] using h.size, fun k hk hne => ?_⟩
  have hk' : G ≠ k := fun e => hne (by rw [e])
  rw [← h.block k hk hne]
  simp [World.setCell, Array.getElem?_modify, hk']

theorem grown_sets {w : World} {G : Nat} : ∀ (vs : List Value) (w1 : World) (o : Nat), w.grownBy w1 (some G) → w.grownBy (w1.setCells G o vs) (some G) := by
  intro vs
  induction vs with
  | nil => intro w1 o h; exact h
  | cons v r ih => intro w1 o h; exact ih _ _ (grown_set h o v)

def chunk (k : Nat) : Nat → List Value → List (List Value)
  | 0, _ => []
  | c + 1, l => l.take k :: chunk k c (l.drop k)

theorem chunk_len (k c : Nat) (l : List Value) : (chunk k c l).length = c := by
  induction c generalizing l with
  | zero => rfl
  | succ c ih => simp [chunk, ih]

theorem chunk_row {k c : Nat} {l : List Value} (h : l.length = c * k) : ∀ r ∈ chunk k c l, r.length = k := by
  induction c generalizing l with
  | zero => intro r hr; cases hr
  | succ c ih =>
    rw [Nat.succ_mul] at h
    intro r hr
    rcases List.mem_cons.1 hr with rfl | hr
    · rw [List.length_take]; omega
    · exact ih (by rw [List.length_drop]; omega) r hr

theorem chunk_flat {k c : Nat} {l : List Value} (h : l.length = c * k) : (chunk k c l).flatten = l := by
  induction c generalizing l with
  | zero => rw [Nat.zero_mul] at h; rw [List.eq_nil_of_length_eq_zero h]; rfl
  | succ c ih =>
    rw [Nat.succ_mul] at h
    show l.take k ++ (chunk k c (l.drop k)).flatten = l
    rw [ih (by rw [List.length_drop]; omega), List.take_append_drop]

theorem chunk_take {k c n : Nat} {l : List Value} {vs : List (List Value)} (h : l.length = c * k) (hn : n ≤ c) (hr : ∀ r ∈ vs, r.length = k) (hv : vs.length = n) (ht : l.take (n * k) = vs.flatten) : (chunk k c l).take n = vs := by
  induction vs generalizing n c l with
  | nil => subst hv; rfl
  | cons x r ih =>
    cases n with
    | zero => simp at hv
    | succ n =>
      cases c with
      | zero => omega
      | succ c =>
        have hx := hr x List.mem_cons_self
        rw [Nat.succ_mul] at h ht
        rw [List.flatten_cons] at ht
        have h1 : l.take k = x := by
          have h2 := congrArg (List.take k) ht
          rw [List.take_take, Nat.min_eq_left (Nat.le_add_left _ _)] at h2
          rw [h2, List.take_append_of_le_length (Nat.le_of_eq hx.symm), List.take_of_length_le (Nat.le_of_eq hx)]
        have h3 : (l.drop k).take (n * k) = r.flatten := by
          have h2 := congrArg (List.drop k) ht
          rw [List.drop_take, Nat.add_sub_cancel] at h2
          rw [h2, List.drop_append_of_le_length (Nat.le_of_eq hx.symm), List.drop_of_length_le (Nat.le_of_eq hx), List.nil_append]
        show l.take k :: (chunk k c (l.drop k)).take n = x :: r
        rw [h1, ih (by rw [List.length_drop]; omega) (by omega) (fun y hy => hr y (List.mem_cons_of_mem _ hy)) (by simpa using hv) h3]

theorem flat_take {k : Nat} {vs : List (List Value)} (h : ∀ r ∈ vs, r.length = k) (i : Nat) (hi : i ≤ vs.length) : (vs.take i).flatten = vs.flatten.take (i * k) := by
  induction vs generalizing i with
  | nil => simp
  | cons x r ih =>
    have hx := h x List.mem_cons_self
    cases i with
    | zero => simp
    | succ i =>
      rw [List.take_succ_cons, List.flatten_cons, List.flatten_cons, ih (fun y hy => h y (List.mem_cons_of_mem _ hy)) i (by simpa using hi), List.take_append, hx, Nat.succ_mul, Nat.add_sub_cancel, List.take_of_length_le (l := x) (by omega)]

/-- Cells written, one behind another. -/
def write : List Value → Nat → List Value → List Value
  | l, _, [] => l
  | l, o, v :: r => write (l.set o v) (o + 1) r

theorem write_len (u : List Value) : ∀ (l : List Value) (o : Nat), (write l o u).length = l.length := by
  induction u with
  | nil => intro l o; rfl
  | cons v r ih => intro l o; show (write (l.set o v) (o + 1) r).length = _; rw [ih]; simp

theorem write_take (u : List Value) : ∀ (l : List Value) (o p : Nat), p ≤ o → (write l o u).take p = l.take p := by
  induction u with
  | nil => intro l o p h; rfl
  | cons v r ih =>
    intro l o p h
    show (write (l.set o v) (o + 1) r).take p = _
    rw [ih _ _ _ (by omega), List.take_set_of_le h]

theorem write_pre (u : List Value) : ∀ (pre x rest : List Value), x.length = u.length → write (pre ++ x ++ rest) pre.length u = pre ++ u ++ rest := by
  induction u with
  | nil =>
    intro pre x rest h
    rw [List.eq_nil_of_length_eq_zero h]
    rfl
  | cons v r ih =>
    intro pre x rest h
    cases x with
    | nil => simp at h
    | cons y x =>
      show write ((pre ++ (y :: x) ++ rest).set pre.length v) (pre.length + 1) r = _
      have e : (pre ++ (y :: x) ++ rest).set pre.length v = (pre ++ [v]) ++ x ++ rest := by
        rw [List.append_assoc, List.set_append_right _ _ (Nat.le_refl _), Nat.sub_self]
        simp
      have h2 := ih (pre ++ [v]) x rest (by simpa using h)
      rw [List.length_append] at h2
      rw [e]
      refine h2.trans ?_
      simp

theorem write_row {k : Nat} {u : List Value} (hu : u.length = k) : ∀ (arr : List (List Value)) (i : Nat), (∀ r ∈ arr, r.length = k) → i < arr.length → write arr.flatten (i * k) u = (arr.set i u).flatten := by
  intro arr i hr hi
  have h1 : arr.flatten = (arr.take i).flatten ++ arr[i] ++ (arr.drop (i + 1)).flatten := by
    conv => lhs; rw [← List.take_append_drop i arr, List.drop_eq_getElem_cons hi, List.flatten_append, List.flatten_cons, ← List.append_assoc]
  have h2 : (arr.take i).flatten.length = i * k := by
    rw [flat_len (k := k) (fun r h => hr r (List.mem_of_mem_take h)), List.length_take, Nat.min_eq_left (Nat.le_of_lt hi)]
  have h3 := write_pre u (arr.take i).flatten arr[i] (arr.drop (i + 1)).flatten (by rw [hr _ (List.getElem_mem hi), hu])
  rw [h2, ← h1] at h3
  rw [h3, List.set_eq_take_append_cons_drop, if_pos hi, List.flatten_append, List.flatten_cons, List.append_assoc]

/-- A block that is a row of rows. -/
def RowsAt (w : World) (G : Nat) (e : TypeId) (k c : Nat) (arr : List (List Value)) : Prop :=
  ∃ cur : Array Value, w.heap[G]? = some (.cells cur e (0, 0)) ∧ cur.toList = arr.flatten ∧ arr.length = c ∧ ∀ r ∈ arr, r.length = k

theorem RowsAt.len {w : World} {G : Nat} {e : TypeId} {k c : Nat} {arr : List (List Value)} (h : RowsAt w G e k c arr) : arr.length = c := by
  obtain ⟨_, _, _, h, _⟩ := h; exact h
theorem RowsAt.row {w : World} {G : Nat} {e : TypeId} {k c : Nat} {arr : List (List Value)} (h : RowsAt w G e k c arr) : ∀ r ∈ arr, r.length = k := by
  obtain ⟨_, _, _, _, h⟩ := h; exact h
theorem RowsAt.lt {w : World} {G : Nat} {e : TypeId} {k c : Nat} {arr : List (List Value)} (h : RowsAt w G e k c arr) : G < w.heap.size := by
  obtain ⟨cur, hh, _⟩ := h
  exact (Array.getElem?_eq_some_iff.1 hh).1
theorem RowsAt.cell {w : World} {G : Nat} {e : TypeId} {k c : Nat} {arr : List (List Value)} (h : RowsAt w G e k c arr) {i : Nat} {r : List Value} (hr : arr[i]? = some r) {j : Nat} {x : Value} (hx : r[j]? = some x) : w.cell? ⟨G, i * k + j, none⟩ = some x := by
  obtain ⟨cur, hh, hf, hl, hk⟩ := h
  have hj : j < k := by
    have h1 := (List.getElem?_eq_some_iff.1 hx).1
    rw [hk r (List.mem_of_getElem? hr)] at h1
    exact h1
  rw [cell_of_row _ G (i * k + j) cur e _ hh, ← Array.getElem?_toList, hf, flat_at hk i j hj, hr]
  exact hx
theorem RowsAt.isSome {w : World} {G : Nat} {e : TypeId} {k c : Nat} {arr : List (List Value)} (h : RowsAt w G e k c arr) {t : Nat} (ht : t < c * k) : (w.cell? ⟨G, t, none⟩).isSome = true := by
  obtain ⟨cur, hh, hf, hl, hk⟩ := h
  rw [cell_of_row _ G t cur e _ hh, ← Array.getElem?_toList, hf, List.getElem?_eq_getElem (by rw [flat_len hk, hl]; exact ht)]
  rfl
theorem RowsAt.frozen {w : World} {G : Nat} {e : TypeId} {k c : Nat} {arr : List (List Value)} (h : RowsAt w G e k c arr) (i : Nat) : w.frozen? ⟨G, i, none⟩ = false := by
  obtain ⟨cur, hh, _⟩ := h
  simp [World.frozen?, hh]
theorem RowsAt.next {w w' : World} {G : Nat} {e : TypeId} {k c : Nat} {arr : List (List Value)} (h : RowsAt w G e k c arr) (hb : Below w.heap.size w w') : RowsAt w' G e k c arr := by
  have hl := h.lt
  obtain ⟨cur, hh, h2⟩ := h
  exact ⟨cur, by rw [hb.block G hl]; exact hh, h2⟩

theorem sets_block {G : Nat} {e : TypeId} : ∀ (u : List Value) (w : World) (o : Nat) (cur : Array Value), w.heap[G]? = some (.cells cur e (0, 0)) → ∃ cur', (w.setCells G o u).heap[G]? = some (.cells cur' e (0, 0)) ∧ cur'.toList = write cur.toList o u := by
  intro u
  induction u with
  | nil => intro w o cur h; exact ⟨cur, h, rfl⟩
  | cons v r ih =>
    intro w o cur h
    have h1 : (w.setCell ⟨G, o, none⟩ v).heap[G]? = .some (.cells (cur.setIfInBounds o v) e (0, 0)) := by
      simp [World.setCell, Array.getElem?_modify, h]
    obtain ⟨cur', h2, h3⟩ := ih (w.setCell ⟨G, o, none⟩ v) (o + 1) _ h1
    refine ⟨cur', h2, ?_⟩
    rw [h3]
    simp [write]

theorem RowsAt.set {w : World} {G : Nat} {e : TypeId} {k c : Nat} {arr : List (List Value)} (h : RowsAt w G e k c arr) {i : Nat} (hi : i < c) {u : List Value} (hu : u.length = k) : RowsAt (w.setCells G (i * k) u) G e k c (arr.set i u) := by
  obtain ⟨cur, hh, hf, hl, hk⟩ := h
  obtain ⟨cur', h1, h2⟩ := sets_block u w (i * k) cur hh
  refine ⟨cur', h1, ?_, by simpa using hl, fun r hr => ?_⟩
  · rw [h2, hf, write_row hu arr i hk (by omega)]
  · rcases List.mem_or_eq_of_mem_set hr with hr | rfl
    · exact hk r hr
    · exact hu

theorem RowsAt.wipe {w : World} {G : Nat} {e : TypeId} {k c : Nat} {arr : List (List Value)} (h : RowsAt w G e k c arr) {i : Nat} (hi : i ≤ c) (u : List Value) : ∃ arr', RowsAt (w.setCells G (i * k) u) G e k c arr' ∧ arr'.take i = arr.take i := by
  obtain ⟨cur, hh, hf, hl, hk⟩ := h
  obtain ⟨cur', h1, h2⟩ := sets_block u w (i * k) cur hh
  have hlen : cur'.toList.length = c * k := by rw [h2, write_len, hf, flat_len hk, hl]
  refine ⟨chunk k c cur'.toList, ⟨cur', h1, (chunk_flat hlen).symm, chunk_len _ _ _, chunk_row hlen⟩, ?_⟩
  refine chunk_take hlen hi (fun r hr => hk r (List.mem_of_mem_take hr)) (by rw [List.length_take, hl]; omega) ?_
  rw [h2, write_take _ _ _ _ (Nat.le_refl _), hf, flat_take hk i (by omega)]

/-- What is owned, as rows. -/
theorem of_own {w : World} {B : Nat} {e : TypeId} {k : Nat} {a : Option Addr} {n c : Nat} {vs : List (List Value)} (h : w.ownsRow B e k (.slice a n c) n vs.flatten) (hr : ∀ r ∈ vs, r.length = k) (hv : vs.length = n) :
    (a = none ∧ n = 0 ∧ c = 0) ∨ ∃ G arr, a = some ⟨G, 0, none⟩ ∧ B ≤ G ∧ n ≤ c ∧ c ≤ maxLen ∧ RowsAt w G e k c arr ∧ arr.take n = vs := by
  rcases h.2 with ⟨hv', hnil⟩ | ⟨g, cap, cur, hv', hgB, hh, q1, q2, q3, q4⟩
  · simp only [Value.slice.injEq] at hv'
    exact .inl hv'
  · simp only [Value.slice.injEq, true_and] at hv'
    obtain ⟨rfl, rfl⟩ := hv'
    have hlen : cur.toList.length = c * k := by rw [Array.length_toList, q3]
    exact .inr ⟨g, chunk k c cur.toList, rfl, hgB, q1, q2, ⟨cur, hh, (chunk_flat hlen).symm, chunk_len _ _ _, chunk_row hlen⟩, chunk_take hlen q1 hr hv q4⟩

theorem RowsAt.own {w : World} {G : Nat} {e : TypeId} {k c : Nat} {arr : List (List Value)} (h : RowsAt w G e k c arr) {B i : Nat} (hB : B ≤ G) (hi : i ≤ c) (hc : c ≤ maxLen) : w.ownsRow B e k (.slice (some ⟨G, 0, none⟩) i c) i (arr.take i).flatten := by
  obtain ⟨cur, hh, hf, hl, hk⟩ := h
  have h1 := flat_take hk i (by omega)
  refine ⟨?_, .inr ⟨G, c, cur, rfl, hB, hh, hi, hc, ?_, ?_⟩⟩
  · rw [flat_len (k := k) (fun r hr => hk r (List.mem_of_mem_take hr)), List.length_take, hl, Nat.min_eq_left hi]
  · rw [← Array.length_toList, hf, flat_len hk, hl]
  · rw [hf, h1]

/-- 'clear' of a slice of structs. -/
theorem run_clear {P : Program} (w : World) (t e ty : TypeId) (z : Value) (ht : P.underlying t = some (.slice e)) (hv : ∀ w, (zeroValue e).run P w = .ok z w) (k : Nat) (hz : z.cells.size = k) (h1 : ∀ v ∈ z.cells.toList, v.oneCell' = true) (hk : 0 < k) (b o n c : Nat) (hn : 0 < n)
    (hc : ∀ j, j < n * k → (w.cell? ⟨b, o + j, none⟩).isSome = true) (hf : ∀ j, j < n * k → w.frozen? ⟨b, o + j, none⟩ = false) :
    (Builtin.clear_ #[t] ty #[.slice (some ⟨b, o, none⟩) n c]).run P w = .ok (.tuple #[]) (w.setCells b o (Builtin.zeroCells z.cells n).toList) := by
  have hlen : (Builtin.zeroCells z.cells n).toList.length = n * k := by simp [Builtin.zeroCells, hz]
  have hst := run_storeCells_cells (P := P) b o (Builtin.zeroCells z.cells n).toList 0 w (by rw [hlen]; simpa using hc) (by rw [hlen]; simpa using hf) (by
    intro v hv'
    simp only [Builtin.zeroCells, Array.toList_map, List.mem_map] at hv'
    obtain ⟨i, _, rfl⟩ := hv'
    have hi : i % z.cells.size < z.cells.size := Nat.mod_lt _ (by omega)
    rw [getElem!_pos z.cells (i % z.cells.size) hi]
    exact h1 _ (Array.getElem_mem_toList hi))
  simp only [Nat.add_zero] at hst
  obtain ⟨m, rfl⟩ : ∃ m, n = m + 1 := ⟨n - 1, by omega⟩
  simp [Builtin.clear_, run_underlying ht, hv, hst]

/-! ### What is kept. -/
/-- What is kept of the first j. -/
def kp {α : Type} (p : α → Bool) (ps : List (List Value × α)) (j : Nat) : List (List Value × α) := (ps.take j).filter fun q => !p q.2

theorem kp_more {α : Type} {p : α → Bool} {ps : List (List Value × α)} {j : Nat} (hj : j < ps.length) : kp p ps (j + 1) = kp p ps j ++ (if p ps[j].2 = true then [] else [ps[j]]) := by
  unfold kp
  rw [List.take_succ_eq_append_getElem hj, List.filter_append]
  cases h : p ps[j].2 <;> simp [h]

theorem kp_len {α : Type} (p : α → Bool) (ps : List (List Value × α)) (j : Nat) : (kp p ps j).length ≤ j := by
  have := List.length_filter_le (fun q : List Value × α => !p q.2) (ps.take j)
  rw [List.length_take] at this
  unfold kp
  omega

theorem kp_snd {α : Type} {p : α → Bool} {vals : List (List Value)} {xs : List α} (h : vals.length = xs.length) : (kp p (vals.zip xs) xs.length).map Prod.snd = xs.filter fun x => !p x := by
  unfold kp
  rw [List.take_of_length_le (by rw [List.length_zip]; omega)]
  induction vals generalizing xs with
  | nil => cases xs with
    | nil => rfl
    | cons y r => simp at h
  | cons x r ih =>
    cases xs with
    | nil => simp at h
    | cons y q =>
      have := ih (xs := q) (by simpa using h)
      cases hp : p y <;> simp [List.filter_cons, hp, this]

theorem kp_first {α : Type} {p : α → Bool} {vals : List (List Value)} {xs : List α} {k0 : Nat} (h : vals.length = xs.length) (hk0 : k0 < xs.length) (ht : p xs[k0] = true) (hall : ∀ b ∈ (xs.map p).take k0, b = false) : kp p (vals.zip xs) (k0 + 1) = (vals.zip xs).take k0 := by
  have hkz : k0 < (vals.zip xs).length := by rw [List.length_zip]; omega
  rw [kp_more hkz]
  have hp0 : p (vals.zip xs)[k0].2 = true := by
    rw [List.getElem_zip]
    simpa using ht
  rw [if_pos hp0, List.append_nil]
  unfold kp
  rw [List.filter_eq_self]
  intro q hq
  obtain ⟨i, hi, rfl⟩ := List.getElem_of_mem hq
  rw [List.length_take] at hi
  rw [List.getElem_take, List.getElem_zip]
  have hm : p (xs[i]'(by omega)) ∈ (xs.map p).take k0 := by
    refine List.mem_iff_getElem.2 ⟨i, by rw [List.length_take, List.length_map]; omega, ?_⟩
    rw [List.getElem_take, List.getElem_map]
  rw [hall _ hm]
  rfl

theorem idx_cases (ps : List Bool) : ∀ k, (idx id ps k = -1 ∧ ∀ b ∈ ps, b = false) ∨ ∃ i, ∃ h : i < ps.length, idx id ps k = ((k + i : Nat) : Int) ∧ ps[i] = true ∧ ∀ b ∈ ps.take i, b = false := by
  induction ps with
  | nil => intro k; exact .inl ⟨rfl, by simp⟩
  | cons b r ih =>
    intro k
    cases hb : b
    · rcases ih (k + 1) with ⟨h1, h2⟩ | ⟨i, hi, h1, h2, h3⟩
      · exact .inl ⟨by unfold idx; simpa using h1, by intro c hc; rcases List.mem_cons.1 hc with rfl | hc; rfl; exact h2 c hc⟩
      · refine .inr ⟨i + 1, by simpa using hi, ?_, by simpa using h2, ?_⟩
        · unfold idx
          simp only [id_eq, Bool.false_eq_true, if_false]
          rw [h1]; congr 1; omega
        · intro c hc
          rw [List.take_succ_cons] at hc
          rcases List.mem_cons.1 hc with rfl | hc
          · rfl
          · exact h3 c hc
    · exact .inr ⟨0, by simp, by unfold idx; simp, rfl, by simp⟩

theorem kp_all {α : Type} {p : α → Bool} {xs : List α} (hall : ∀ b ∈ xs.map p, b = false) : xs.filter (fun x => !p x) = xs := by
  rw [List.filter_eq_self]
  intro x hx
  rw [hall (p x) (List.mem_map.2 ⟨x, hx, rfl⟩)]
  rfl

/-- A row that was kept is one of those that were there. -/
theorem kp_mem {α : Type} {p : α → Bool} {vals : List (List Value)} {xs : List α} {j k : Nat} {v : List Value} {x : α} (hv : ((kp p (vals.zip xs) j).map Prod.fst)[k]? = some v) (hx : ((kp p (vals.zip xs) j).map Prod.snd)[k]? = some x) : ∃ i : Nat, vals[i]? = some v ∧ xs[i]? = some x := by
  rw [List.getElem?_map, Option.map_eq_some_iff] at hv hx
  obtain ⟨q, hq, rfl⟩ := hv
  obtain ⟨q', hq', rfl⟩ := hx
  rw [hq] at hq'
  simp only [Option.some.injEq] at hq'
  subst hq'
  have hm : q ∈ vals.zip xs := List.mem_of_mem_take (List.mem_filter.1 (List.mem_of_getElem? hq)).1
  obtain ⟨i, hi, hqe⟩ := List.getElem_of_mem hm
  rw [List.getElem_zip] at hqe
  rw [List.length_zip] at hi
  refine ⟨i, ?_, ?_⟩
  · rw [List.getElem?_eq_getElem (by omega), ← hqe]
  · rw [List.getElem?_eq_getElem (by omega), ← hqe]
end RowsK
end Go.Proofs.YtninglnchengeaaGreatDoor

/-
  slices.DeleteFunc of []int, on a slice of the call's own; the predicate is told of its elements alone.
-/
namespace Go.Proofs.YtninglnchengeaaGreatDoor
open Go.RowKit Base RowsK
set_option linter.unusedVariables false
set_option linter.unusedSimpArgs false
namespace DelN

def tris (l : List Int) : List (List Value) := l.map fun x => [.int .i64 x]
theorem tris_row (l : List Int) : ∀ r ∈ tris l, r.length = 1 := by
  intro r hr
  obtain ⟨x, _, rfl⟩ := List.mem_map.1 hr
  rfl
theorem tris_flat (l : List Int) : (tris l).flatten = ints l := by
  induction l with
  | nil => rfl
  | cons x r ih => show _ :: (tris r).flatten = _; rw [ih]; rfl

def fl (p : Int → Bool) (l : List Int) : List Int := l.filter fun x => !p x
theorem fl_more {p : Int → Bool} {l : List Int} {j : Nat} (hj : j < l.length) : fl p (l.take (j + 1)) = fl p (l.take j) ++ (if p l[j] = true then [] else [l[j]]) := by
  unfold fl
  rw [List.take_succ_eq_append_getElem hj, List.filter_append]
  cases h : p l[j] <;> simp [h]
theorem fl_all {p : Int → Bool} {l : List Int} (hall : ∀ b ∈ l.map p, b = false) : fl p l = l := kp_all hall

set_option maxRecDepth 4000 in
set_option maxHeartbeats 8000000 in
theorem del_own (w : World) (B : Nat) (a : Option Addr) (n c : Nat) (l : List Int) (hn : l.length = n) (hown : w.ownsRow B 3 1 (.slice a n c) n (tris l).flatten) (hB : B ≤ w.heap.size)
    (g : FuncId) (lb : Array Value) (p : Int → Bool) (eg : SlfI.Enters g)
    (hg : ∀ W, w.grownBy W (Value.slice a n c).ownBlock → ∀ t ∈ l, Calls Tryz.prog g (#[.int .i64 t] ++ lb) W fun e w' => e = .returned (.bool (p t)) ∧ Below W.heap.size W w') :
    Calls Tryz.prog 26 #[.slice a n c, .func (.func g) #[] lb] w fun e w' => ∃ n', e = .returned (.slice a n' c) ∧ n' = (fl p l).length ∧ w'.ownsRow B 3 1 (.slice a n' c) n' (tris (fl p l)).flatten ∧ w.grownBy w' (Value.slice a n c).ownBlock := by
  have hsl : Sl w a n c (ints l) := Circuit.own_sl' (by rw [← tris_flat]; exact hown)
  have IF := SlfI.indexFunc w a n c (ints l) g #[] lb (l.map p) hsl (by rw [List.length_map]; exact hn) eg (by
    intro W hW k v b hv hb
    obtain ⟨hk, rfl⟩ := Base.ints_at hv
    rw [List.getElem?_map, List.getElem?_eq_getElem hk] at hb
    simp only [Option.map_some, Option.some.injEq] at hb
    subst hb
    exact hg W (grown_of_below hW) _ (List.getElem_mem hk))
  have hcap := hsl.cap
  have hbig := hsl.big
  have HOW := Lib.hid hown
  have HG := Lib.hid hg
  have HL := Lib.hid hn
  have hmf : ∀ args W, (callFunc g args).run Tryz.prog W = .ok (.enter g args) W := eg
  rcases idx_cases (l.map p) 0 with ⟨h1, hall⟩ | ⟨k0, hk0, h1, ht, hall⟩
  · rw [h1] at IF
    have HF := Lib.hid IF
    have HE : Hid (fl p l = l) := fl_all hall
    clear hown hg hsl hn IF h1 hall
    go_enter Tryz.func26, Tryz.ntmps26
    go_wp2_with fail
    refine HF.out.mono ?_
    rintro e w1 ⟨rfl, hb1⟩
    have HB := Lib.hid hb1
    clear hb1
    go_wp2_with fail
    go_ret
    exact ⟨n, rfl, by rw [HE.out, HL.out], by rw [HE.out]; exact own_next HOW.out HB.out, grown_of_below HB.out⟩
  · rw [h1, Nat.zero_add] at IF
    have HF := Lib.hid IF
    have hk0n : k0 < n := by rw [List.length_map] at hk0; omega
    rcases of_own hown (tris_row l) (by unfold tris; rw [List.length_map]; exact hn) with ⟨_, hv, _⟩ | ⟨G, arr0, rfl, hGB, q1, q2, hR, htk0⟩
    · omega
    · have HR := Lib.hid hR
      have HQ := Lib.hid (And.intro hGB (And.intro q1 q2))
      have hcv : ∀ k, k < n → arr0[k]? = (tris l)[k]? := by
        intro k hk
        have := congrArg (fun l : List (List Value) => l[k]?) htk0
        rwa [List.getElem?_take_of_lt hk] at this
      have HCV := Lib.hid hcv
      have HK0 : Hid (fl p (l.take (k0 + 1)) = l.take k0) := by
        show _ = _
        rw [List.length_map] at hk0
        rw [fl_more hk0]
        have hp0 : p l[k0] = true := by simpa using ht
        rw [if_pos hp0, List.append_nil]
        exact fl_all (by rw [List.map_take]; exact hall)
      have hob : (Value.slice (some ⟨G, 0, none⟩) n c).ownBlock = some G := rfl
      rw [hob] at HG
      clear hown hg hsl IF h1 hall ht hR hGB q1 q2 hcv hob
      go_enter Tryz.func26, Tryz.ntmps26
      clear hn
      have HT0 := Lib.hid htk0
      clear htk0
      go_wp2_with fail
      refine HF.out.mono ?_
      rintro e w1 ⟨rfl, hb1⟩
      have HB := Lib.hid hb1
      clear hb1
      have hkm : ((k0 : Int) == -1) = false := beq_eq_false_iff_ne.2 (by omega)
      go_wp2_with fail
      go_loopw [5, 6] (fun s5 s6 wr => ∃ (i j : Nat) (arr : List (List Value)), s5 = .int .i64 i ∧ s6 = .int .i64 j ∧ j ≤ n ∧ i < j ∧ Hid ((fl p (l.take j)).length = i) ∧ Hid (RowsAt wr G 3 1 c arr) ∧ Hid (arr.take i = tris (fl p (l.take j))) ∧
        Hid (∀ k, j ≤ k → k < n → arr[k]? = (tris l)[k]?) ∧ Hid (w.grownBy wr (some G))) (fun _ s6 _ => n - (intOf s6).toNat)
      case atStart =>
        refine ⟨k0, k0 + 1, arr0, rfl, by go_num, by omega, by omega, ?_, HR.out.next HB.out, ?_, fun k h1 h2 => HCV.out k h2, grown_of_below HB.out⟩
        · show _ = _
          rw [HK0.out, List.length_take, HL.out]; omega
        · show _ = _
          rw [HK0.out]
          have := congrArg (fun l : List (List Value) => l.take k0) HT0.out
          rw [List.take_take, Nat.min_eq_left (Nat.le_of_lt hk0n)] at this
          rw [this]
          unfold tris
          rw [List.map_take]
      case round =>
        obtain ⟨i, j, arr, rfl, rfl, hjn, hij, hlen, hrow, htk, hrest, hgr⟩ := hrel
        by_cases hlt : j < n
        · have hjl : j < l.length := by rw [HL.out]; exact hlt
          have hvt : (tris l)[j]? = some [.int .i64 l[j]] := by unfold tris; rw [List.getElem?_map, List.getElem?_eq_getElem hjl]; rfl
          have hvj := (hrest.out j (Nat.le_refl _) hlt).trans hvt
          have d0 := hrow.out.cell hvj (j := 0) rfl
          rw [Nat.add_zero, Nat.mul_one] at d0
          have HKM := Lib.hid (fl_more (p := p) hjl)
          have HMEM : Hid (l[j] ∈ l) := List.getElem_mem _
          generalize l[j] = t at *
          have CALL := Lib.hid (HG.out wr hgr.out t HMEM.out)
          have hal := hrow.out.len
          have HAL := Lib.hid hal
          have HR5 := hrow
          have HG5 := hgr
          clear hvt hvj hal hjl
          have hjlt : (j : Int) < (n : Int) := by omega
          cases hp : p t
          · rw [hp] at CALL HKM
            clear hp
            go_wp2_with fail
            refine CALL.out.mono ?_
            rintro e w2 ⟨rfl, hb2⟩
            have hr2 := HR5.out.next hb2
            have hic : i < c := by omega
            obtain ⟨y0, hy0⟩ := Option.isSome_iff_exists.1 (hr2.isSome (t := i) (by omega))
            have f0 := hr2.frozen i
            have hst := hr2.set hic (u := [.int .i64 t]) rfl
            rw [Nat.mul_one] at hst
            have HR2 := Lib.hid hst
            have HG2 := Lib.hid (grown_sets [.int .i64 t] w2 i (grown_below HG5.out hb2))
            clear hb2 hr2 d0 hst
            go_wp2_with fail
            go_roundw
            case rel =>
              refine ⟨i + 1, j + 1, arr.set i [.int .i64 t], by go_num, by go_num, by omega, by omega, ?_, HR2.out, ?_, ?_, HG2.out⟩
              · show _ = _
                rw [HKM.out]; simp [hlen.out]
              · show _ = _
                rw [HKM.out]
                simp only [Bool.false_eq_true, if_false]
                rw [List.take_succ_eq_append_getElem (by rw [List.length_set, HAL.out]; exact hic), List.getElem_set_self, List.take_set_of_le (Nat.le_refl _), htk.out]
                unfold tris
                rw [List.map_append]
                rfl
              · intro k h1 h2
                rw [List.getElem?_set_ne (by omega)]
                exact hrest.out k (by omega) h2
            case measure => simp [intOf]; omega
          · rw [hp] at CALL HKM
            clear hp
            go_wp2_with fail
            refine CALL.out.mono ?_
            rintro e w2 ⟨rfl, hb2⟩
            have HR2 := Lib.hid (HR5.out.next hb2)
            have HG2 := Lib.hid (grown_below HG5.out hb2)
            clear hb2 d0
            go_wp2_with fail
            go_roundw
            case rel =>
              refine ⟨i, j + 1, arr, rfl, by go_num, by omega, by omega, ?_, HR2.out, ?_, fun k h1 h2 => hrest.out k (by omega) h2, HG2.out⟩
              · show _ = _
                rw [HKM.out]; simp [hlen.out]
              · show _ = _
                rw [HKM.out]; simp [htk.out]
            case measure => simp [intOf]; omega
        · obtain rfl : j = n := by omega
          have hal := hrow.out.len
          have hjc := HQ.out.2.1
          have hci : ¬ c = i := by omega
          have hin : i ≤ j := by omega
          have hcl : ∀ ty, (Builtin.clear_ #[22] ty #[.slice (some ⟨G, i, none⟩) (j - i) (c - i)]).run Tryz.prog wr = .ok (.tuple #[]) (wr.setCells G i (Builtin.zeroCells (Value.int .i64 0).cells (j - i)).toList) :=
            fun ty => RowsK.run_clear wr _ _ ty _ Tryz.underlying22 Tryz.zeroValue3 1 rfl (by intro v hv; simp [Value.cells] at hv; subst hv; rfl) (by decide) G i _ _ (by omega) (fun t ht => hrow.out.isSome (by omega)) (fun t ht => hrow.out.frozen _)
          obtain ⟨arr', hR', hT'⟩ := hrow.out.wipe (i := i) (by omega) (Builtin.zeroCells (Value.int .i64 0).cells (j - i)).toList
          rw [Nat.mul_one] at hR'
          have HRR := Lib.hid hR'
          have HTT := Lib.hid (hT'.trans htk.out)
          have HGG := Lib.hid (grown_sets (Builtin.zeroCells (Value.int .i64 0).cells (j - i)).toList wr i hgr.out)
          have HLI := hlen
          clear hR' hT' hrow htk hrest hgr hlen hal
          have hji : ¬ (j : Int) < (j : Int) := by omega
          go_wp2_with fail
          go_ret
          have hfin : l.take j = l := List.take_of_length_le (Nat.le_of_eq HL.out)
          have h1 := HLI.out
          have h2 := HTT.out
          rw [hfin] at h1 h2
          exact ⟨i, rfl, h1.symm, by rw [← h2]; exact HRR.out.own HQ.out.1 (by omega) HQ.out.2.2, HGG.out⟩

end DelN
end Go.Proofs.YtninglnchengeaaGreatDoor

/-
  slices.IndexFunc at one instance (elements of three integers), whatever predicate is handed over: ps says of each element what the predicate gives.
-/
namespace Go.Proofs.YtninglnchengeaaGreatDoor
open Go.RowKit Base
set_option linter.unusedVariables false
namespace SlfL

/-- A function value gives ps of the elements, and turns nothing that is there. -/
def Gives (w : World) (g : FuncId) (fs lb : Array Value) (vs : List Tri) (ps : List Bool) : Prop :=
  ∀ W, Below w.heap.size w W → ∀ (k : Nat) (v : Tri) (b : Bool), vs[k]? = some v → ps[k]? = some b → Calls Tryz.prog g (fs.push (.agg #[.int .i64 v.1, .int .i64 v.2.1, .int .i64 v.2.2]) ++ lb) W fun e w' => e = .returned (.bool b) ∧ Below W.heap.size W w'

def Enters (g : FuncId) : Prop := ∀ args w, (callFunc g args).run Tryz.prog w = .ok (.enter g args) w

theorem idx_hit (ps : List Bool) (k : Nat) (h : ps[k]? = some true) : idx id (ps.drop k) k = k := by
  obtain ⟨hk, e⟩ := List.getElem?_eq_some_iff.1 h
  rw [List.drop_eq_getElem_cons hk]; unfold idx; rw [e]; rfl
theorem idx_miss (ps : List Bool) (k : Nat) (h : ps[k]? = some false) : idx id (ps.drop k) k = idx id (ps.drop (k + 1)) (k + 1) := by
  obtain ⟨hk, e⟩ := List.getElem?_eq_some_iff.1 h
  rw [List.drop_eq_getElem_cons hk]
  show (if id ps[k] = true then _ else _) = _
  rw [e]; rfl

set_option maxHeartbeats 1000000 in
theorem indexFunc (w : World) (a : Option Addr) (n c : Nat) (vs : List Tri) (g : FuncId) (fs lb : Array Value) (ps : List Bool)
    (hs : SlT w 3 a n c (tris vs)) (hps : ps.length = n) (eg : Enters g) (hg : Gives w g fs lb vs ps) :
    Calls Tryz.prog 61 #[.slice a n c, .func (.func g) fs lb] w fun e w' => e = .returned (.int .i64 (idx id ps 0)) ∧ Below w.heap.size w w' := by
  have hcap := hs.cap
  have hbig := hs.big
  have HPS := Lib.hid hps
  have HG := Lib.hid hg
  clear hg hps
  unfold Enters at eg
  go_enter Tryz.func61, Tryz.ntmps61
  go_wp2
  go_loopw [5, 8] (fun _ i wr => ∃ k : Nat, k ≤ n ∧ i = .int .i64 k ∧ Below w.heap.size w wr ∧ Hid (idx id ps 0 = idx id (ps.drop k) k)) (fun _ i _ => n - (intOf i).toNat)
  case atStart => exact ⟨0, Nat.zero_le _, rfl, Below.refl _ _, rfl⟩
  case round =>
    obtain ⟨k, hk, rfl, hb, hI⟩ := hrel
    by_cases hlt : k < n
    · obtain ⟨b, o, hx, rfl, hbs, hc0, hc1, hc2⟩ := hs.tri hlt
      have d0 := (hb.cell (p := ⟨b, o + k * 3, none⟩) hbs).trans hc0
      have d1 := (hb.cell (p := ⟨b, o + k * 3 + 1, none⟩) hbs).trans hc1
      have d2 := (hb.cell (p := ⟨b, o + k * 3 + 2, none⟩) hbs).trans hc2
      have HV := Lib.hid (List.getElem?_eq_getElem hx)
      clear hc0 hc1 hc2
      generalize vs[k] = t at *
      obtain ⟨t0, t1, t2⟩ := t
      simp only at d0 d1 d2
      obtain ⟨q, hq⟩ : ∃ q, ps[k]? = some q := ⟨_, List.getElem?_eq_getElem (by have := HPS.out; omega)⟩
      have HQ := Lib.hid hq
      clear hq
      cases q
      all_goals
        go_wp2_with fail
        refine (HG.out wr hb k (t0, t1, t2) _ HV.out HQ.out).mono ?_
        rintro e w1 ⟨rfl, hb1⟩
        go_wp2_with fail
      · go_roundw
        case rel => exact ⟨k + 1, by omega, by go_num, hb.trans (hb1.mono hb.size), hI.out.trans (idx_miss ps k HQ.out)⟩
        case measure => simp [intOf]; omega
      · go_ret
        exact ⟨ret_int (by rw [hI.out, idx_hit ps k HQ.out]), hb.trans (hb1.mono hb.size)⟩
    · go_wp2
      go_ret
      exact ⟨ret_int (by rw [hI.out, List.drop_of_length_le (by rw [HPS.out]; omega)]; rfl), hb⟩

end SlfL
end Go.Proofs.YtninglnchengeaaGreatDoor

/-
  slices.DeleteFunc of []api.Latch, on a slice of the call's own.
-/
namespace Go.Proofs.YtninglnchengeaaGreatDoor
open Go.RowKit Base RowsK
set_option linter.unusedVariables false
set_option linter.unusedSimpArgs false
namespace DelL

def fl (p : Tri → Bool) (l : List Tri) : List Tri := l.filter fun x => !p x
theorem fl_more {p : Tri → Bool} {l : List Tri} {j : Nat} (hj : j < l.length) : fl p (l.take (j + 1)) = fl p (l.take j) ++ (if p l[j] = true then [] else [l[j]]) := by
  unfold fl
  rw [List.take_succ_eq_append_getElem hj, List.filter_append]
  cases h : p l[j] <;> simp [h]
theorem fl_all {p : Tri → Bool} {l : List Tri} (hall : ∀ b ∈ l.map p, b = false) : fl p l = l := kp_all hall

set_option maxRecDepth 4000 in
set_option maxHeartbeats 8000000 in
theorem del_own (w : World) (B : Nat) (a : Option Addr) (n c : Nat) (l : List Tri) (hn : l.length = n) (hown : w.ownsRow B 37 3 (.slice a n c) n (tris l).flatten) (hB : B ≤ w.heap.size)
    (g : FuncId) (lb : Array Value) (p : Tri → Bool) (eg : SlfL.Enters g)
    (hg : ∀ W, w.grownBy W (Value.slice a n c).ownBlock → ∀ t ∈ l, Calls Tryz.prog g (#[.agg #[.int .i64 t.1, .int .i64 t.2.1, .int .i64 t.2.2]] ++ lb) W fun e w' => e = .returned (.bool (p t)) ∧ Below W.heap.size W w') :
    Calls Tryz.prog 29 #[.slice a n c, .func (.func g) #[] lb] w fun e w' => ∃ n', e = .returned (.slice a n' c) ∧ n' = (fl p l).length ∧ w'.ownsRow B 37 3 (.slice a n' c) n' (tris (fl p l)).flatten ∧ w.grownBy w' (Value.slice a n c).ownBlock := by
  have hsl := Circuit.own_slT' (tris_row l) (by unfold tris; rw [List.length_map]; exact hn) hown
  have IF := SlfL.indexFunc w a n c l g #[] lb (l.map p) hsl (by rw [List.length_map]; exact hn) eg (by
    intro W hW k v b hv hb
    rw [List.getElem?_map, hv] at hb
    simp only [Option.map_some, Option.some.injEq] at hb
    subst hb
    exact hg W (grown_of_below hW) v (List.mem_of_getElem? hv))
  have hcap := hsl.cap
  have hbig := hsl.big
  have HOW := Lib.hid hown
  have HG := Lib.hid hg
  have HL := Lib.hid hn
  have hmf : ∀ args W, (callFunc g args).run Tryz.prog W = .ok (.enter g args) W := eg
  rcases idx_cases (l.map p) 0 with ⟨h1, hall⟩ | ⟨k0, hk0, h1, ht, hall⟩
  · rw [h1] at IF
    have HF := Lib.hid IF
    have HE : Hid (fl p l = l) := fl_all hall
    clear hown hg hsl hn IF h1 hall
    go_enter Tryz.func29, Tryz.ntmps29
    go_wp2_with fail
    refine HF.out.mono ?_
    rintro e w1 ⟨rfl, hb1⟩
    have HB := Lib.hid hb1
    clear hb1
    go_wp2_with fail
    go_ret
    exact ⟨n, rfl, by rw [HE.out, HL.out], by rw [HE.out]; exact own_next HOW.out HB.out, grown_of_below HB.out⟩
  · rw [h1, Nat.zero_add] at IF
    have HF := Lib.hid IF
    have hk0n : k0 < n := by rw [List.length_map] at hk0; omega
    rcases of_own hown (tris_row l) (by unfold tris; rw [List.length_map]; exact hn) with ⟨_, hv, _⟩ | ⟨G, arr0, rfl, hGB, q1, q2, hR, htk0⟩
    · omega
    · have HR := Lib.hid hR
      have HQ := Lib.hid (And.intro hGB (And.intro q1 q2))
      have hcv : ∀ k, k < n → arr0[k]? = (tris l)[k]? := by
        intro k hk
        have := congrArg (fun l : List (List Value) => l[k]?) htk0
        rwa [List.getElem?_take_of_lt hk] at this
      have HCV := Lib.hid hcv
      have HK0 : Hid (fl p (l.take (k0 + 1)) = l.take k0) := by
        show _ = _
        rw [List.length_map] at hk0
        rw [fl_more hk0]
        have hp0 : p l[k0] = true := by simpa using ht
        rw [if_pos hp0, List.append_nil]
        exact fl_all (by rw [List.map_take]; exact hall)
      have hob : (Value.slice (some ⟨G, 0, none⟩) n c).ownBlock = some G := rfl
      rw [hob] at HG
      clear hown hg hsl IF h1 hall ht hR hGB q1 q2 hcv hob
      go_enter Tryz.func29, Tryz.ntmps29
      clear hn
      have HT0 := Lib.hid htk0
      clear htk0
      go_wp2_with fail
      refine HF.out.mono ?_
      rintro e w1 ⟨rfl, hb1⟩
      have HB := Lib.hid hb1
      clear hb1
      have hkm : ((k0 : Int) == -1) = false := beq_eq_false_iff_ne.2 (by omega)
      go_wp2_with fail
      go_loopw [5, 6] (fun s5 s6 wr => ∃ (i j : Nat) (arr : List (List Value)), s5 = .int .i64 i ∧ s6 = .int .i64 j ∧ j ≤ n ∧ i < j ∧ Hid ((fl p (l.take j)).length = i) ∧ Hid (RowsAt wr G 37 3 c arr) ∧ Hid (arr.take i = tris (fl p (l.take j))) ∧
        Hid (∀ k, j ≤ k → k < n → arr[k]? = (tris l)[k]?) ∧ Hid (w.grownBy wr (some G))) (fun _ s6 _ => n - (intOf s6).toNat)
      case atStart =>
        refine ⟨k0, k0 + 1, arr0, rfl, by go_num, by omega, by omega, ?_, HR.out.next HB.out, ?_, fun k h1 h2 => HCV.out k h2, grown_of_below HB.out⟩
        · show _ = _
          rw [HK0.out, List.length_take, HL.out]; omega
        · show _ = _
          rw [HK0.out]
          have := congrArg (fun l : List (List Value) => l.take k0) HT0.out
          rw [List.take_take, Nat.min_eq_left (Nat.le_of_lt hk0n)] at this
          rw [this]
          unfold tris
          rw [List.map_take]
      case round =>
        obtain ⟨i, j, arr, rfl, rfl, hjn, hij, hlen, hrow, htk, hrest, hgr⟩ := hrel
        by_cases hlt : j < n
        · have hjl : j < l.length := by rw [HL.out]; exact hlt
          have hvt : (tris l)[j]? = some [.int .i64 l[j].1, .int .i64 l[j].2.1, .int .i64 l[j].2.2] := by unfold tris; rw [List.getElem?_map, List.getElem?_eq_getElem hjl]; rfl
          have hvj := (hrest.out j (Nat.le_refl _) hlt).trans hvt
          have d0 := hrow.out.cell hvj (j := 0) rfl
          have d1 := hrow.out.cell hvj (j := 1) rfl
          have d2 := hrow.out.cell hvj (j := 2) rfl
          rw [Nat.add_zero] at d0
          have HKM := Lib.hid (fl_more (p := p) hjl)
          have HMEM : Hid (l[j] ∈ l) := List.getElem_mem _
          generalize l[j] = t at *
          obtain ⟨t0, t1, t2⟩ := t
          simp only at d0 d1 d2
          obtain ⟨W5, hW5⟩ : ∃ U, wr.alloc (.cells #[.int .i64 t0, .int .i64 t1, .int .i64 t2] 37) = U := ⟨_, rfl⟩
          have hb5 : Below wr.heap.size wr W5 := by rw [← hW5]; exact (Below.refl _ _).alloc (Nat.le_refl _) _
          have x5 := Circuit.BoxN.new wr #[.int .i64 t0, .int .i64 t1, .int .i64 t2] 37
          rw [hW5] at x5
          have q0 := x5.at' 0 _ rfl
          have q1 := x5.at' 1 _ rfl
          have q2 := x5.at' 2 _ rfl
          have hg5 := grown_below hgr.out hb5
          have CALL := Lib.hid (HG.out W5 hg5 (t0, t1, t2) HMEM.out)
          have hal := hrow.out.len
          have HAL := Lib.hid hal
          have HX5 := Lib.hid x5
          have HR5 := Lib.hid (hrow.out.next hb5)
          have HG5 := Lib.hid hg5
          clear hvt hvj hal x5 hb5 hg5 hjl
          have hjlt : (j : Int) < (n : Int) := by omega
          cases hp : p (t0, t1, t2)
          · rw [hp] at CALL HKM
            clear hp
            go_wp2_with fail
            refine CALL.out.mono ?_
            rintro e w2 ⟨rfl, hb2⟩
            have hr2 := HR5.out.next hb2
            have x2 := HX5.out.next hb2 HX5.out.lt
            have m0 := x2.at' 0 _ rfl
            have m1 := x2.at' 1 _ rfl
            have m2 := x2.at' 2 _ rfl
            have hic : i < c := by omega
            have hi2 : i * 3 + 2 < c * 3 := by omega
            obtain ⟨y0, hy0⟩ := Option.isSome_iff_exists.1 (hr2.isSome (t := i * 3) (by omega))
            obtain ⟨y1, hy1⟩ := Option.isSome_iff_exists.1 (hr2.isSome (t := i * 3 + 1) (by omega))
            obtain ⟨y2, hy2⟩ := Option.isSome_iff_exists.1 (hr2.isSome (t := i * 3 + 2) (by omega))
            have f0 := hr2.frozen (i * 3)
            have f1 := hr2.frozen (i * 3 + 1)
            have f2 := hr2.frozen (i * 3 + 2)
            have HR2 := Lib.hid (hr2.set hic (u := [.int .i64 t0, .int .i64 t1, .int .i64 t2]) rfl)
            have HG2 := Lib.hid (grown_sets [.int .i64 t0, .int .i64 t1, .int .i64 t2] w2 (i * 3) (grown_below HG5.out hb2))
            clear hb2 hr2 x2 d0 d1 d2 q0 q1 q2 hi2 hW5
            go_wp2_with fail
            go_roundw
            case rel =>
              refine ⟨i + 1, j + 1, arr.set i [.int .i64 t0, .int .i64 t1, .int .i64 t2], by go_num, by go_num, by omega, by omega, ?_, HR2.out, ?_, ?_, HG2.out⟩
              · show _ = _
                rw [HKM.out]; simp [hlen.out]
              · show _ = _
                rw [HKM.out]
                simp only [Bool.false_eq_true, if_false]
                rw [List.take_succ_eq_append_getElem (by rw [List.length_set, HAL.out]; exact hic), List.getElem_set_self, List.take_set_of_le (Nat.le_refl _), htk.out]
                unfold tris
                rw [List.map_append]
                rfl
              · intro k h1 h2
                rw [List.getElem?_set_ne (by omega)]
                exact hrest.out k (by omega) h2
            case measure => simp [intOf]; omega
          · rw [hp] at CALL HKM
            clear hp
            go_wp2_with fail
            refine CALL.out.mono ?_
            rintro e w2 ⟨rfl, hb2⟩
            have HR2 := Lib.hid (HR5.out.next hb2)
            have HG2 := Lib.hid (grown_below HG5.out hb2)
            clear hb2 d0 d1 d2 q0 q1 q2 hW5
            go_wp2_with fail
            go_roundw
            case rel =>
              refine ⟨i, j + 1, arr, rfl, by go_num, by omega, by omega, ?_, HR2.out, ?_, fun k h1 h2 => hrest.out k (by omega) h2, HG2.out⟩
              · show _ = _
                rw [HKM.out]; simp [hlen.out]
              · show _ = _
                rw [HKM.out]; simp [htk.out]
            case measure => simp [intOf]; omega
        · obtain rfl : j = n := by omega
          have hal := hrow.out.len
          have hjc := HQ.out.2.1
          have hci : ¬ c = i := by omega
          have hin : i ≤ j := by omega
          have hcl : ∀ ty, (Builtin.clear_ #[23] ty #[.slice (some ⟨G, i * 3, none⟩) (j - i) (c - i)]).run Tryz.prog wr = .ok (.tuple #[]) (wr.setCells G (i * 3) (Builtin.zeroCells (Value.agg #[.int .i64 0, .int .i64 0, .int .i64 0]).cells (j - i)).toList) :=
            fun ty => RowsK.run_clear wr _ _ ty _ Tryz.underlying23 Tryz.zeroValue37 3 rfl (by intro v hv; simp [Value.cells] at hv; subst hv; rfl) (by decide) G (i * 3) _ _ (by omega) (fun t ht => hrow.out.isSome (by omega)) (fun t ht => hrow.out.frozen _)
          obtain ⟨arr', hR', hT'⟩ := hrow.out.wipe (i := i) (by omega) (Builtin.zeroCells (Value.agg #[.int .i64 0, .int .i64 0, .int .i64 0]).cells (j - i)).toList
          have HRR := Lib.hid hR'
          have HTT := Lib.hid (hT'.trans htk.out)
          have HGG := Lib.hid (grown_sets (Builtin.zeroCells (Value.agg #[.int .i64 0, .int .i64 0, .int .i64 0]).cells (j - i)).toList wr (i * 3) hgr.out)
          have HLI := hlen
          clear hR' hT' hrow htk hrest hgr hlen hal
          have hji : ¬ (j : Int) < (j : Int) := by omega
          go_wp2_with fail
          go_ret
          have hfin : l.take j = l := List.take_of_length_le (Nat.le_of_eq HL.out)
          have h1 := HLI.out
          have h2 := HTT.out
          rw [hfin] at h1 h2
          exact ⟨i, rfl, h1.symm, by rw [← h2]; exact HRR.out.own HQ.out.1 (by omega) HQ.out.2.2, HGG.out⟩

end DelL
end Go.Proofs.YtninglnchengeaaGreatDoor

/-
  slices.IndexFunc at one instance (elements of three integers), whatever predicate is handed over: ps says of each element what the predicate gives.
-/
namespace Go.Proofs.YtninglnchengeaaGreatDoor
open Go.RowKit Base
set_option linter.unusedVariables false
namespace SlfA

/-- A function value gives ps of the elements, and turns nothing that is there. -/
def Gives (w : World) (g : FuncId) (fs lb : Array Value) (vs : List Tri) (ps : List Bool) : Prop :=
  ∀ W, Below w.heap.size w W → ∀ (k : Nat) (v : Tri) (b : Bool), vs[k]? = some v → ps[k]? = some b → Calls Tryz.prog g (fs.push (.agg #[.int .i64 v.1, .int .i64 v.2.1, .int .i64 v.2.2]) ++ lb) W fun e w' => e = .returned (.bool b) ∧ Below W.heap.size W w'

def Enters (g : FuncId) : Prop := ∀ args w, (callFunc g args).run Tryz.prog w = .ok (.enter g args) w

theorem idx_hit (ps : List Bool) (k : Nat) (h : ps[k]? = some true) : idx id (ps.drop k) k = k := by
  obtain ⟨hk, e⟩ := List.getElem?_eq_some_iff.1 h
  rw [List.drop_eq_getElem_cons hk]; unfold idx; rw [e]; rfl
theorem idx_miss (ps : List Bool) (k : Nat) (h : ps[k]? = some false) : idx id (ps.drop k) k = idx id (ps.drop (k + 1)) (k + 1) := by
  obtain ⟨hk, e⟩ := List.getElem?_eq_some_iff.1 h
  rw [List.drop_eq_getElem_cons hk]
  show (if id ps[k] = true then _ else _) = _
  rw [e]; rfl

set_option maxHeartbeats 1000000 in
theorem indexFunc (w : World) (a : Option Addr) (n c : Nat) (vs : List Tri) (g : FuncId) (fs lb : Array Value) (ps : List Bool)
    (hs : SlT w 3 a n c (tris vs)) (hps : ps.length = n) (eg : Enters g) (hg : Gives w g fs lb vs ps) :
    Calls Tryz.prog 62 #[.slice a n c, .func (.func g) fs lb] w fun e w' => e = .returned (.int .i64 (idx id ps 0)) ∧ Below w.heap.size w w' := by
  have hcap := hs.cap
  have hbig := hs.big
  have HPS := Lib.hid hps
  have HG := Lib.hid hg
  clear hg hps
  unfold Enters at eg
  go_enter Tryz.func62, Tryz.ntmps62
  go_wp2
  go_loopw [5, 8] (fun _ i wr => ∃ k : Nat, k ≤ n ∧ i = .int .i64 k ∧ Below w.heap.size w wr ∧ Hid (idx id ps 0 = idx id (ps.drop k) k)) (fun _ i _ => n - (intOf i).toNat)
  case atStart => exact ⟨0, Nat.zero_le _, rfl, Below.refl _ _, rfl⟩
  case round =>
    obtain ⟨k, hk, rfl, hb, hI⟩ := hrel
    by_cases hlt : k < n
    · obtain ⟨b, o, hx, rfl, hbs, hc0, hc1, hc2⟩ := hs.tri hlt
      have d0 := (hb.cell (p := ⟨b, o + k * 3, none⟩) hbs).trans hc0
      have d1 := (hb.cell (p := ⟨b, o + k * 3 + 1, none⟩) hbs).trans hc1
      have d2 := (hb.cell (p := ⟨b, o + k * 3 + 2, none⟩) hbs).trans hc2
      have HV := Lib.hid (List.getElem?_eq_getElem hx)
      clear hc0 hc1 hc2
      generalize vs[k] = t at *
      obtain ⟨t0, t1, t2⟩ := t
      simp only at d0 d1 d2
      obtain ⟨q, hq⟩ : ∃ q, ps[k]? = some q := ⟨_, List.getElem?_eq_getElem (by have := HPS.out; omega)⟩
      have HQ := Lib.hid hq
      clear hq
      cases q
      all_goals
        go_wp2_with fail
        refine (HG.out wr hb k (t0, t1, t2) _ HV.out HQ.out).mono ?_
        rintro e w1 ⟨rfl, hb1⟩
        go_wp2_with fail
      · go_roundw
        case rel => exact ⟨k + 1, by omega, by go_num, hb.trans (hb1.mono hb.size), hI.out.trans (idx_miss ps k HQ.out)⟩
        case measure => simp [intOf]; omega
      · go_ret
        exact ⟨ret_int (by rw [hI.out, idx_hit ps k HQ.out]), hb.trans (hb1.mono hb.size)⟩
    · go_wp2
      go_ret
      exact ⟨ret_int (by rw [hI.out, List.drop_of_length_le (by rw [HPS.out]; omega)]; rfl), hb⟩

end SlfA
end Go.Proofs.YtninglnchengeaaGreatDoor

/-
  slices.DeleteFunc of []api.And, on a slice of the call's own.
-/
namespace Go.Proofs.YtninglnchengeaaGreatDoor
open Go.RowKit Base RowsK
set_option linter.unusedVariables false
set_option linter.unusedSimpArgs false
namespace DelA

def fl (p : Tri → Bool) (l : List Tri) : List Tri := l.filter fun x => !p x
theorem fl_more {p : Tri → Bool} {l : List Tri} {j : Nat} (hj : j < l.length) : fl p (l.take (j + 1)) = fl p (l.take j) ++ (if p l[j] = true then [] else [l[j]]) := by
  unfold fl
  rw [List.take_succ_eq_append_getElem hj, List.filter_append]
  cases h : p l[j] <;> simp [h]
theorem fl_all {p : Tri → Bool} {l : List Tri} (hall : ∀ b ∈ l.map p, b = false) : fl p l = l := kp_all hall

set_option maxRecDepth 4000 in
set_option maxHeartbeats 8000000 in
theorem del_own (w : World) (B : Nat) (a : Option Addr) (n c : Nat) (l : List Tri) (hn : l.length = n) (hown : w.ownsRow B 62 3 (.slice a n c) n (tris l).flatten) (hB : B ≤ w.heap.size)
    (g : FuncId) (lb : Array Value) (p : Tri → Bool) (eg : SlfA.Enters g)
    (hg : ∀ W, w.grownBy W (Value.slice a n c).ownBlock → ∀ t ∈ l, Calls Tryz.prog g (#[.agg #[.int .i64 t.1, .int .i64 t.2.1, .int .i64 t.2.2]] ++ lb) W fun e w' => e = .returned (.bool (p t)) ∧ Below W.heap.size W w') :
    Calls Tryz.prog 32 #[.slice a n c, .func (.func g) #[] lb] w fun e w' => ∃ n', e = .returned (.slice a n' c) ∧ n' = (fl p l).length ∧ w'.ownsRow B 62 3 (.slice a n' c) n' (tris (fl p l)).flatten ∧ w.grownBy w' (Value.slice a n c).ownBlock := by
  have hsl := Circuit.own_slT' (tris_row l) (by unfold tris; rw [List.length_map]; exact hn) hown
  have IF := SlfA.indexFunc w a n c l g #[] lb (l.map p) hsl (by rw [List.length_map]; exact hn) eg (by
    intro W hW k v b hv hb
    rw [List.getElem?_map, hv] at hb
    simp only [Option.map_some, Option.some.injEq] at hb
    subst hb
    exact hg W (grown_of_below hW) v (List.mem_of_getElem? hv))
  have hcap := hsl.cap
  have hbig := hsl.big
  have HOW := Lib.hid hown
  have HG := Lib.hid hg
  have HL := Lib.hid hn
  have hmf : ∀ args W, (callFunc g args).run Tryz.prog W = .ok (.enter g args) W := eg
  rcases idx_cases (l.map p) 0 with ⟨h1, hall⟩ | ⟨k0, hk0, h1, ht, hall⟩
  · rw [h1] at IF
    have HF := Lib.hid IF
    have HE : Hid (fl p l = l) := fl_all hall
    clear hown hg hsl hn IF h1 hall
    go_enter Tryz.func32, Tryz.ntmps32
    go_wp2_with fail
    refine HF.out.mono ?_
    rintro e w1 ⟨rfl, hb1⟩
    have HB := Lib.hid hb1
    clear hb1
    go_wp2_with fail
    go_ret
    exact ⟨n, rfl, by rw [HE.out, HL.out], by rw [HE.out]; exact own_next HOW.out HB.out, grown_of_below HB.out⟩
  · rw [h1, Nat.zero_add] at IF
    have HF := Lib.hid IF
    have hk0n : k0 < n := by rw [List.length_map] at hk0; omega
    rcases of_own hown (tris_row l) (by unfold tris; rw [List.length_map]; exact hn) with ⟨_, hv, _⟩ | ⟨G, arr0, rfl, hGB, q1, q2, hR, htk0⟩
    · omega
    · have HR := Lib.hid hR
      have HQ := Lib.hid (And.intro hGB (And.intro q1 q2))
      have hcv : ∀ k, k < n → arr0[k]? = (tris l)[k]? := by
        intro k hk
        have := congrArg (fun l : List (List Value) => l[k]?) htk0
        rwa [List.getElem?_take_of_lt hk] at this
      have HCV := Lib.hid hcv
      have HK0 : Hid (fl p (l.take (k0 + 1)) = l.take k0) := by
        show _ = _
        rw [List.length_map] at hk0
        rw [fl_more hk0]
        have hp0 : p l[k0] = true := by simpa using ht
        rw [if_pos hp0, List.append_nil]
        exact fl_all (by rw [List.map_take]; exact hall)
      have hob : (Value.slice (some ⟨G, 0, none⟩) n c).ownBlock = some G := rfl
      rw [hob] at HG
      clear hown hg hsl IF h1 hall ht hR hGB q1 q2 hcv hob
      go_enter Tryz.func32, Tryz.ntmps32
      clear hn
      have HT0 := Lib.hid htk0
      clear htk0
      go_wp2_with fail
      refine HF.out.mono ?_
      rintro e w1 ⟨rfl, hb1⟩
      have HB := Lib.hid hb1
      clear hb1
      have hkm : ((k0 : Int) == -1) = false := beq_eq_false_iff_ne.2 (by omega)
      go_wp2_with fail
      go_loopw [5, 6] (fun s5 s6 wr => ∃ (i j : Nat) (arr : List (List Value)), s5 = .int .i64 i ∧ s6 = .int .i64 j ∧ j ≤ n ∧ i < j ∧ Hid ((fl p (l.take j)).length = i) ∧ Hid (RowsAt wr G 62 3 c arr) ∧ Hid (arr.take i = tris (fl p (l.take j))) ∧
        Hid (∀ k, j ≤ k → k < n → arr[k]? = (tris l)[k]?) ∧ Hid (w.grownBy wr (some G))) (fun _ s6 _ => n - (intOf s6).toNat)
      case atStart =>
        refine ⟨k0, k0 + 1, arr0, rfl, by go_num, by omega, by omega, ?_, HR.out.next HB.out, ?_, fun k h1 h2 => HCV.out k h2, grown_of_below HB.out⟩
        · show _ = _
          rw [HK0.out, List.length_take, HL.out]; omega
        · show _ = _
          rw [HK0.out]
          have := congrArg (fun l : List (List Value) => l.take k0) HT0.out
          rw [List.take_take, Nat.min_eq_left (Nat.le_of_lt hk0n)] at this
          rw [this]
          unfold tris
          rw [List.map_take]
      case round =>
        obtain ⟨i, j, arr, rfl, rfl, hjn, hij, hlen, hrow, htk, hrest, hgr⟩ := hrel
        by_cases hlt : j < n
        · have hjl : j < l.length := by rw [HL.out]; exact hlt
          have hvt : (tris l)[j]? = some [.int .i64 l[j].1, .int .i64 l[j].2.1, .int .i64 l[j].2.2] := by unfold tris; rw [List.getElem?_map, List.getElem?_eq_getElem hjl]; rfl
          have hvj := (hrest.out j (Nat.le_refl _) hlt).trans hvt
          have d0 := hrow.out.cell hvj (j := 0) rfl
          have d1 := hrow.out.cell hvj (j := 1) rfl
          have d2 := hrow.out.cell hvj (j := 2) rfl
          rw [Nat.add_zero] at d0
          have HKM := Lib.hid (fl_more (p := p) hjl)
          have HMEM : Hid (l[j] ∈ l) := List.getElem_mem _
          generalize l[j] = t at *
          obtain ⟨t0, t1, t2⟩ := t
          simp only at d0 d1 d2
          obtain ⟨W5, hW5⟩ : ∃ U, wr.alloc (.cells #[.int .i64 t0, .int .i64 t1, .int .i64 t2] 62) = U := ⟨_, rfl⟩
          have hb5 : Below wr.heap.size wr W5 := by rw [← hW5]; exact (Below.refl _ _).alloc (Nat.le_refl _) _
          have x5 := Circuit.BoxN.new wr #[.int .i64 t0, .int .i64 t1, .int .i64 t2] 62
          rw [hW5] at x5
          have q0 := x5.at' 0 _ rfl
          have q1 := x5.at' 1 _ rfl
          have q2 := x5.at' 2 _ rfl
          have hg5 := grown_below hgr.out hb5
          have CALL := Lib.hid (HG.out W5 hg5 (t0, t1, t2) HMEM.out)
          have hal := hrow.out.len
          have HAL := Lib.hid hal
          have HX5 := Lib.hid x5
          have HR5 := Lib.hid (hrow.out.next hb5)
          have HG5 := Lib.hid hg5
          clear hvt hvj hal x5 hb5 hg5 hjl
          have hjlt : (j : Int) < (n : Int) := by omega
          cases hp : p (t0, t1, t2)
          · rw [hp] at CALL HKM
            clear hp
            go_wp2_with fail
            refine CALL.out.mono ?_
            rintro e w2 ⟨rfl, hb2⟩
            have hr2 := HR5.out.next hb2
            have x2 := HX5.out.next hb2 HX5.out.lt
            have m0 := x2.at' 0 _ rfl
            have m1 := x2.at' 1 _ rfl
            have m2 := x2.at' 2 _ rfl
            have hic : i < c := by omega
            have hi2 : i * 3 + 2 < c * 3 := by omega
            obtain ⟨y0, hy0⟩ := Option.isSome_iff_exists.1 (hr2.isSome (t := i * 3) (by omega))
            obtain ⟨y1, hy1⟩ := Option.isSome_iff_exists.1 (hr2.isSome (t := i * 3 + 1) (by omega))
            obtain ⟨y2, hy2⟩ := Option.isSome_iff_exists.1 (hr2.isSome (t := i * 3 + 2) (by omega))
            have f0 := hr2.frozen (i * 3)
            have f1 := hr2.frozen (i * 3 + 1)
            have f2 := hr2.frozen (i * 3 + 2)
            have HR2 := Lib.hid (hr2.set hic (u := [.int .i64 t0, .int .i64 t1, .int .i64 t2]) rfl)
            have HG2 := Lib.hid (grown_sets [.int .i64 t0, .int .i64 t1, .int .i64 t2] w2 (i * 3) (grown_below HG5.out hb2))
            clear hb2 hr2 x2 d0 d1 d2 q0 q1 q2 hi2 hW5
            go_wp2_with fail
            go_roundw
            case rel =>
              refine ⟨i + 1, j + 1, arr.set i [.int .i64 t0, .int .i64 t1, .int .i64 t2], by go_num, by go_num, by omega, by omega, ?_, HR2.out, ?_, ?_, HG2.out⟩
              · show _ = _
                rw [HKM.out]; simp [hlen.out]
              · show _ = _
                rw [HKM.out]
                simp only [Bool.false_eq_true, if_false]
                rw [List.take_succ_eq_append_getElem (by rw [List.length_set, HAL.out]; exact hic), List.getElem_set_self, List.take_set_of_le (Nat.le_refl _), htk.out]
                unfold tris
                rw [List.map_append]
                rfl
              · intro k h1 h2
                rw [List.getElem?_set_ne (by omega)]
                exact hrest.out k (by omega) h2
            case measure => simp [intOf]; omega
          · rw [hp] at CALL HKM
            clear hp
            go_wp2_with fail
            refine CALL.out.mono ?_
            rintro e w2 ⟨rfl, hb2⟩
            have HR2 := Lib.hid (HR5.out.next hb2)
            have HG2 := Lib.hid (grown_below HG5.out hb2)
            clear hb2 d0 d1 d2 q0 q1 q2 hW5
            go_wp2_with fail
            go_roundw
            case rel =>
              refine ⟨i, j + 1, arr, rfl, by go_num, by omega, by omega, ?_, HR2.out, ?_, fun k h1 h2 => hrest.out k (by omega) h2, HG2.out⟩
              · show _ = _
                rw [HKM.out]; simp [hlen.out]
              · show _ = _
                rw [HKM.out]; simp [htk.out]
            case measure => simp [intOf]; omega
        · obtain rfl : j = n := by omega
          have hal := hrow.out.len
          have hjc := HQ.out.2.1
          have hci : ¬ c = i := by omega
          have hin : i ≤ j := by omega
          have hcl : ∀ ty, (Builtin.clear_ #[24] ty #[.slice (some ⟨G, i * 3, none⟩) (j - i) (c - i)]).run Tryz.prog wr = .ok (.tuple #[]) (wr.setCells G (i * 3) (Builtin.zeroCells (Value.agg #[.int .i64 0, .int .i64 0, .int .i64 0]).cells (j - i)).toList) :=
            fun ty => RowsK.run_clear wr _ _ ty _ Tryz.underlying24 Tryz.zeroValue62 3 rfl (by intro v hv; simp [Value.cells] at hv; subst hv; rfl) (by decide) G (i * 3) _ _ (by omega) (fun t ht => hrow.out.isSome (by omega)) (fun t ht => hrow.out.frozen _)
          obtain ⟨arr', hR', hT'⟩ := hrow.out.wipe (i := i) (by omega) (Builtin.zeroCells (Value.agg #[.int .i64 0, .int .i64 0, .int .i64 0]).cells (j - i)).toList
          have HRR := Lib.hid hR'
          have HTT := Lib.hid (hT'.trans htk.out)
          have HGG := Lib.hid (grown_sets (Builtin.zeroCells (Value.agg #[.int .i64 0, .int .i64 0, .int .i64 0]).cells (j - i)).toList wr (i * 3) hgr.out)
          have HLI := hlen
          clear hR' hT' hrow htk hrest hgr hlen hal
          have hji : ¬ (j : Int) < (j : Int) := by omega
          go_wp2_with fail
          go_ret
          have hfin : l.take j = l := List.take_of_length_le (Nat.le_of_eq HL.out)
          have h1 := HLI.out
          have h2 := HTT.out
          rw [hfin] at h1 h2
          exact ⟨i, rfl, h1.symm, by rw [← h2]; exact HRR.out.own HQ.out.1 (by omega) HQ.out.2.2, HGG.out⟩

end DelA
end Go.Proofs.YtninglnchengeaaGreatDoor

/-
  coi.Reduce.
-/
namespace Go.Proofs.YtninglnchengeaaGreatDoor
open Go.RowKit Base Go.Maps
set_option linter.unusedVariables false
set_option linter.unusedSimpArgs false
namespace Coi
open Circuit StrashP

theorem eg_r1 : SlfI.Enters 27 := enters_of Tryz.func27 (by kernel_rfl) rfl
theorem eg_r2 : SlfL.Enters 31 := enters_of Tryz.func31 (by kernel_rfl) rfl
theorem eg_r3 : SlfA.Enters 34 := enters_of Tryz.func34 (by kernel_rfl) rfl

theorem red1_any (w : World) (N b n : Nat) (X : List Int) (hc : w.cell? ⟨N, 0, none⟩ = some (.map (some b))) (hs : SetK w b n X) (l : Int) (h0 : -9223372036854775808 ≤ l) (h1 : l ≤ 9223372036854775807) :
    Calls Tryz.prog 27 #[.int .i64 l, .pointer (some ⟨N, 0, none⟩)] w fun e w' => e = .returned (.bool (!SetI.inX X (var l))) ∧ w = w' := by
  have HH := Lib.hid (has_any w hs l h0 h1)
  generalize SetI.inX X (var l) = q at *
  clear hs h0 h1
  cases q
  all_goals
    go_enter Tryz.func27, Tryz.ntmps27
    go_wp2_with fail
    with_reducible refine HH.out.mono ?_
    rintro e w2 ⟨rfl, rfl⟩
    go_wp2_with fail
    go_ret
    exact ⟨rfl, rfl⟩
theorem red2_any (w : World) (N b n : Nat) (X : List Int) (hlt : N < w.heap.size) (hc : w.cell? ⟨N, 0, none⟩ = some (.map (some b))) (hs : SetK w b n X) (t : Tri) (h0 : -9223372036854775808 ≤ t.1) (h1 : t.1 ≤ 9223372036854775807) :
    Calls Tryz.prog 31 #[.agg #[.int .i64 t.1, .int .i64 t.2.1, .int .i64 t.2.2], .pointer (some ⟨N, 0, none⟩)] w fun e w' => e = .returned (.bool (!SetI.inX X (var t.1))) ∧ Below w.heap.size w w' := by
  obtain ⟨t0, t1, t2⟩ := t
  simp only at *
  obtain ⟨W1, hW1⟩ : ∃ U, w.alloc (.cells #[.int .i64 t0, .int .i64 t1, .int .i64 t2] 37) = U := ⟨_, rfl⟩
  have hb1 : Below w.heap.size w W1 := by rw [← hW1]; exact (Below.refl _ _).alloc (Nat.le_refl _) _
  have x1 : BoxN w.heap.size [.int .i64 t0, .int .i64 t1, .int .i64 t2] W1 := by rw [← hW1]; exact BoxN.new w _ _
  have y0 := x1.at' 0 _ rfl
  have hc1 := (hb1.cell (p := ⟨N, 0, none⟩) hlt).trans hc
  have HH := Lib.hid (has_any W1 (hs.next hb1) t0 h0 h1)
  have HB := Lib.hid hb1
  generalize SetI.inX X (var t0) = q at *
  clear hs h0 h1 hb1 x1 hc
  cases q
  all_goals
    go_enter Tryz.func31, Tryz.ntmps31
    go_wp2_with fail
    with_reducible refine HH.out.mono ?_
    rintro e w2 ⟨rfl, rfl⟩
    go_wp2_with fail
    go_ret
    exact ⟨rfl, HB.out⟩
theorem red3_any (w : World) (N b n : Nat) (X : List Int) (hlt : N < w.heap.size) (hc : w.cell? ⟨N, 0, none⟩ = some (.map (some b))) (hs : SetK w b n X) (t : Tri) (h0 : -9223372036854775808 ≤ t.1) (h1 : t.1 ≤ 9223372036854775807) :
    Calls Tryz.prog 34 #[.agg #[.int .i64 t.1, .int .i64 t.2.1, .int .i64 t.2.2], .pointer (some ⟨N, 0, none⟩)] w fun e w' => e = .returned (.bool (!SetI.inX X (var t.1))) ∧ Below w.heap.size w w' := by
  obtain ⟨t0, t1, t2⟩ := t
  simp only at *
  obtain ⟨W1, hW1⟩ : ∃ U, w.alloc (.cells #[.int .i64 t0, .int .i64 t1, .int .i64 t2] 62) = U := ⟨_, rfl⟩
  have hb1 : Below w.heap.size w W1 := by rw [← hW1]; exact (Below.refl _ _).alloc (Nat.le_refl _) _
  have x1 : BoxN w.heap.size [.int .i64 t0, .int .i64 t1, .int .i64 t2] W1 := by rw [← hW1]; exact BoxN.new w _ _
  have y0 := x1.at' 0 _ rfl
  have hc1 := (hb1.cell (p := ⟨N, 0, none⟩) hlt).trans hc
  have HH := Lib.hid (has_any W1 (hs.next hb1) t0 h0 h1)
  have HB := Lib.hid hb1
  generalize SetI.inX X (var t0) = q at *
  clear hs h0 h1 hb1 x1 hc
  cases q
  all_goals
    go_enter Tryz.func34, Tryz.ntmps34
    go_wp2_with fail
    with_reducible refine HH.out.mono ?_
    rintro e w2 ⟨rfl, rfl⟩
    go_wp2_with fail
    go_ret
    exact ⟨rfl, HB.out⟩

theorem box_set8 {N : Nat} {w : World} {c0 c1 c2 c3 c4 c5 c6 c7 : Value} (h : BoxN N [c0, c1, c2, c3, c4, c5, c6, c7] w) (v0 v1 v2 v3 v4 v5 v6 v7 : Value) : BoxN N [v0, v1, v2, v3, v4, v5, v6, v7] ((((((((w.setCell ⟨N, 0, none⟩ v0).setCell ⟨N, 1, none⟩ v1).setCell ⟨N, 2, none⟩ v2).setCell ⟨N, 3, none⟩ v3).setCell ⟨N, 4, none⟩ v4).setCell ⟨N, 5, none⟩ v5).setCell ⟨N, 6, none⟩ v6).setCell ⟨N, 7, none⟩ v7) := ((((((((h.set 0 v0).set 1 v1).set 2 v2).set 3 v3).set 4 v4).set 5 v5).set 6 v6).set 7 v7)
theorem own_set8 {w : World} {B : Nat} {e : TypeId} {size : Nat} {v : Value} {n : Nat} {us : List Value} (h : w.ownsRow B e size v n us) {N : Nat} (hne : v.ownBlock ≠ some N) (v0 v1 v2 v3 v4 v5 v6 v7 : Value) : ((((((((w.setCell ⟨N, 0, none⟩ v0).setCell ⟨N, 1, none⟩ v1).setCell ⟨N, 2, none⟩ v2).setCell ⟨N, 3, none⟩ v3).setCell ⟨N, 4, none⟩ v4).setCell ⟨N, 5, none⟩ v5).setCell ⟨N, 6, none⟩ v6).setCell ⟨N, 7, none⟩ v7).ownsRow B e size v n us := (ownsRow_setCell_other (ownsRow_setCell_other (ownsRow_setCell_other (ownsRow_setCell_other (ownsRow_setCell_other (ownsRow_setCell_other (ownsRow_setCell_other (ownsRow_setCell_other h (a := ⟨N, 0, none⟩) (fun e => hne (by first | exact e | exact e.symm)) v0) (a := ⟨N, 1, none⟩) (fun e => hne (by first | exact e | exact e.symm)) v1) (a := ⟨N, 2, none⟩) (fun e => hne (by first | exact e | exact e.symm)) v2) (a := ⟨N, 3, none⟩) (fun e => hne (by first | exact e | exact e.symm)) v3) (a := ⟨N, 4, none⟩) (fun e => hne (by first | exact e | exact e.symm)) v4) (a := ⟨N, 5, none⟩) (fun e => hne (by first | exact e | exact e.symm)) v5) (a := ⟨N, 6, none⟩) (fun e => hne (by first | exact e | exact e.symm)) v6) (a := ⟨N, 7, none⟩) (fun e => hne (by first | exact e | exact e.symm)) v7)
theorem below_set8 {w w0 : World} {B N : Nat} (h : Below B w0 w) (hN : B ≤ N) (v0 v1 v2 v3 v4 v5 v6 v7 : Value) : Below B w0 ((((((((w.setCell ⟨N, 0, none⟩ v0).setCell ⟨N, 1, none⟩ v1).setCell ⟨N, 2, none⟩ v2).setCell ⟨N, 3, none⟩ v3).setCell ⟨N, 4, none⟩ v4).setCell ⟨N, 5, none⟩ v5).setCell ⟨N, 6, none⟩ v6).setCell ⟨N, 7, none⟩ v7) := ((((((((h.setCell (p := ⟨N, 0, none⟩) hN v0).setCell (p := ⟨N, 1, none⟩) hN v1).setCell (p := ⟨N, 2, none⟩) hN v2).setCell (p := ⟨N, 3, none⟩) hN v3).setCell (p := ⟨N, 4, none⟩) hN v4).setCell (p := ⟨N, 5, none⟩) hN v5).setCell (p := ⟨N, 6, none⟩) hN v6).setCell (p := ⟨N, 7, none⟩) hN v7)

theorem slT_none (w : World) (k : Nat) : SlT w k none 0 0 [] := ⟨rfl, Nat.le_refl _, by omega, fun _ => ⟨rfl, rfl⟩, fun i r h => by simp at h⟩
theorem fl_cnt {α : Type} {x : Circ} {l X : List Int} (h : ∀ v, v ∈ X ↔ v ≠ 0 ∧ NR x l v) (f : α → Int) (L : List α) : (L.filter fun a => !(!SetI.inX X (var (f a)))) = L.filter fun a => cnt x l (f a) := by
  congr 1
  funext a
  rw [Bool.not_not, Bool.eq_iff_iff, SetI.inX_iff, cnt_iff, h]

set_option maxRecDepth 8000 in
set_option maxHeartbeats 4000000 in
theorem reduce_no (w : World) (x : Circ) (p : At) (hin : InCirc w x p) (hw : WfC x) (aA : Option Addr) (n cA : Nat) (vals : List Value) (A : List (List Int)) (hA : Sl2 w aA n cA vals A) (hA64 : ∀ y ∈ A.flatten, Circuit.I64 y) (bad : Int) (hb0 : -9223372036854775808 ≤ bad) (hb1' : bad ≤ 9223372036854775807) (hno : askE x A bad ≠ 0) :
    Calls Tryz.prog 10 #[.agg (cells x p), .slice aA n cA, .int .i64 bad] w fun e w' => e = .returned (.tuple #[.agg #[.int .i64 0, .slice none 0 0, .slice none 0 0, .slice none 0 0, .slice none 0 0, .slice none 0 0, .slice none 0 0, .slice none 0 0], .int .i64 (askE x A bad)]) ∧ Below w.heap.size w w' := by
  obtain ⟨W1, hW1⟩ : ∃ W1, w.alloc (.cells (cells x p) 27) = W1 := ⟨_, rfl⟩
  obtain ⟨hb1, hc1⟩ := cbox_new w x p W1 hW1
  obtain ⟨W2, hW2⟩ : ∃ W2, W1.alloc (.cells #[.int .i64 0, .slice none 0 0, .slice none 0 0, .slice none 0 0, .slice none 0 0, .slice none 0 0, .slice none 0 0, .slice none 0 0] 27) = W2 := ⟨_, rfl⟩
  have hb2 : Below W1.heap.size W1 W2 := by rw [← hW2]; exact (Below.refl _ _).alloc (Nat.le_refl _) _
  have hx2 : BoxN W1.heap.size [.int .i64 0, .slice none 0 0, .slice none 0 0, .slice none 0 0, .slice none 0 0, .slice none 0 0, .slice none 0 0, .slice none 0 0] W2 := by rw [← hW2]; exact BoxN.new W1 _ _
  have hb12 : Below w.heap.size w W2 := hb1.trans (hb2.mono hb1.size)
  have hlt1 : w.heap.size < W1.heap.size := hc1.lt
  have HB12 := Lib.hid hb12
  have HX2 := Lib.hid hx2
  have HAS := Lib.hid (asked_any W2 x p (hin.next hb12) hw aA n cA vals A (hA.next hb12) hA64 bad hb0 hb1')
  have hcw := hc1.next hb2 (Nat.le_refl _)
  have k0 := hcw.k0
  have k1 := hcw.k1
  have k2 := hcw.k2
  have k3 := hcw.k3
  have k4 := hcw.k4
  have k5 := hcw.k5
  have k6 := hcw.k6
  have k7 := hcw.k7
  obtain ⟨a1, c1, a2, c2, a3, c3, a4, c4, a5, c5, a6, c6, a7, c7⟩ := p
  simp only [cells] at *
  generalize askE x A bad = er at *
  have HNE : Hid ((er != 0) = true) := by show _ = _; simpa using hno
  have hne := HNE.out
  clear hin hw hA hA64 hb1 hb2 hb12 hx2 hc1 hcw hno hb0 hb1'
  go_enter Tryz.func10, Tryz.ntmps10
  go_wp2_with fail
  clear hW1 hW2
  with_reducible refine HAS.out.mono ?_
  rintro e w3 ⟨rfl, hb3⟩
  have HB3 := Lib.hid hb3
  have hx3 := HX2.out.next hb3 HX2.out.lt
  have z := hx3.fz
  have y0 := hx3.at' 0 _ rfl
  have y1 := hx3.at' 1 _ rfl
  have y2 := hx3.at' 2 _ rfl
  have y3 := hx3.at' 3 _ rfl
  have y4 := hx3.at' 4 _ rfl
  have y5 := hx3.at' 5 _ rfl
  have y6 := hx3.at' 6 _ rfl
  have y7 := hx3.at' 7 _ rfl
  clear hb3 k0 k1 k2 k3 k4 k5 k6 k7 hx3
  go_wp2_with fail
  refine bodyPost_ret (v := .tuple #[.agg #[.int .i64 0, .slice none 0 0, .slice none 0 0, .slice none 0 0, .slice none 0 0, .slice none 0 0, .slice none 0 0, .slice none 0 0], .int .i64 er]) (by simp [results, Tryz.results10, go_sem, y0, y1, y2, y3, y4, y5, y6, y7]) rfl ?_
  refine ⟨rfl, ?_⟩
  have ob : OffB W1.heap.size w3 _ := ((((((((OffB.refl W1.heap.size w3).set 0 (.int .i64 0)).set 1 (.slice none 0 0)).set 2 (.slice none 0 0)).set 3 (.slice none 0 0)).set 4 (.slice none 0 0)).set 5 (.slice none 0 0)).set 6 (.slice none 0 0)).set 7 (.slice none 0 0)
  exact ob.base (HB12.out.trans (HB3.out.mono HB12.out.size)) (Nat.le_trans HB12.out.size HB3.out.size) (Nat.le_of_lt hlt1)

set_option maxRecDepth 8000 in
set_option maxHeartbeats 8000000 in
theorem reduce_ok (w : World) (x : Circ) (p : At) (hin : InCirc w x p) (hw : WfC x) (aA : Option Addr) (n cA : Nat) (vals : List Value) (A : List (List Int)) (hA : Sl2 w aA n cA vals A) (hA64 : ∀ y ∈ A.flatten, Circuit.I64 y) (k : Nat) (hk : k < x.bads.length) (hok : askE x A k = 0)
    (hz1 : n ≤ 4000000) (hz2 : A.flatten.length ≤ 4000000) (hz3 : x.ands.length ≤ 4000000) :
    Calls Tryz.prog 10 #[.agg (cells x p), .slice aA n cA, .int .i64 k] w fun e w' => ∃ p', e = .returned (.tuple #[.agg (cells (reduced x (A.flatten ++ x.invs ++ [x.bads[k]]) x.bads[k]) p'), .int .i64 0]) ∧ InCirc w' (reduced x (A.flatten ++ x.invs ++ [x.bads[k]]) x.bads[k]) p' ∧ Below w.heap.size w w' := by
  obtain ⟨W1, hW1⟩ : ∃ W1, w.alloc (.cells (cells x p) 27) = W1 := ⟨_, rfl⟩
  obtain ⟨hb1, hc1⟩ := cbox_new w x p W1 hW1
  obtain ⟨W2, hW2⟩ : ∃ W2, W1.alloc (.cells #[.int .i64 0, .slice none 0 0, .slice none 0 0, .slice none 0 0, .slice none 0 0, .slice none 0 0, .slice none 0 0, .slice none 0 0] 27) = W2 := ⟨_, rfl⟩
  have hb2 : Below W1.heap.size W1 W2 := by rw [← hW2]; exact (Below.refl _ _).alloc (Nat.le_refl _) _
  have hx2 : BoxN W1.heap.size [.int .i64 0, .slice none 0 0, .slice none 0 0, .slice none 0 0, .slice none 0 0, .slice none 0 0, .slice none 0 0, .slice none 0 0] W2 := by rw [← hW2]; exact BoxN.new W1 _ _
  have hb12 : Below w.heap.size w W2 := hb1.trans (hb2.mono hb1.size)
  have hlt1 : w.heap.size < W1.heap.size := hc1.lt
  have HB12 := Lib.hid hb12
  have HX2 := Lib.hid hx2
  have hck := (askE_zero hok).1
  have has := asked_any W2 x p (hin.next hb12) hw aA n cA vals A (hA.next hb12) hA64 k (by omega) (by have := hck.1.2.2.2.2.2.1; omega)
  rw [hok] at has
  have HAS := Lib.hid has
  have hsz : x.invs.length ≤ 64 ∧ x.lats.length ≤ 64 ∧ x.ins.length ≤ 64 ∧ x.bads.length ≤ 64 := ⟨hck.1.2.2.2.2.2.2, hck.1.2.2.2.1, hck.1.2.2.1, hck.1.2.2.2.2.2.1⟩
  have HSZ := Lib.hid hsz
  have HZ3 := Lib.hid hz3
  have HCN := Lib.hid (fun (U : World) (hU : Below w.heap.size w U) => counted_any U x p (hin.next hU) hw aA n cA vals A (hA.next hU) hA64 k hk hz1 hz2 hz3 (by omega) (by omega))
  have HIN := Lib.hid (fun (U : World) (hU : Below w.heap.size w U) => hin.next hU)
  have HC2 := Lib.hid (hc1.next hb2 (Nat.le_refl _))
  have HW := Lib.hid hw
  have HKL := Lib.hid hk
  generalize hbl : x.bads[k] = bl at *
  have HBL : Hid (∃ h : k < x.bads.length, x.bads[k] = bl) := ⟨hk, hbl⟩
  obtain ⟨l, hl⟩ : ∃ l, A.flatten ++ x.invs ++ [bl] = l := ⟨_, rfl⟩
  simp only [hl] at HCN ⊢
  obtain ⟨a1, c1, a2, c2, a3, c3, a4, c4, a5, c5, a6, c6, a7, c7⟩ := p
  simp only [cells] at *
  have HLT1 := Lib.hid hlt1
  have hcw := HC2.out
  have k0 := hcw.k0
  have k1 := hcw.k1
  have k2 := hcw.k2
  have k3 := hcw.k3
  have k4 := hcw.k4
  have k5 := hcw.k5
  have k6 := hcw.k6
  have k7 := hcw.k7
  clear hin hw hA hA64 hb1 hb2 hb12 hx2 hc1 hcw hok hck has hsz hz1 hz2 hz3 hbl hl
  go_enter Tryz.func10, Tryz.ntmps10
  go_wp2_with fail
  clear hW1 hW2
  with_reducible refine HAS.out.mono ?_
  rintro e w3 ⟨rfl, hb3⟩
  have hb23 := HB12.out.trans (hb3.mono HB12.out.size)
  have HB3 := Lib.hid hb3
  have HCN3 := Lib.hid (HCN.out w3 hb23)
  have hcw := HC2.out.next hb3 (Nat.le_refl _)
  clear k0 k1 k2 k3 k4 k5 k6 k7
  have k0 := hcw.k0
  have k1 := hcw.k1
  have k2 := hcw.k2
  have k3 := hcw.k3
  have k4 := hcw.k4
  have k5 := hcw.k5
  have k6 := hcw.k6
  have k7 := hcw.k7
  clear hb3 hb23 hcw
  go_wp2_with fail
  with_reducible refine HCN3.out.mono ?_
  rintro e w4 ⟨mb, X, rfl, hmb, hset, hnd, hX, hb4⟩
  obtain ⟨W5, hW5⟩ : ∃ U, w4.alloc (.cells #[.map (some mb)] 66) = U := ⟨_, rfl⟩
  have hb5 : Below w4.heap.size w4 W5 := by rw [← hW5]; exact (Below.refl _ _).alloc (Nat.le_refl _) _
  have hx5 : BoxN w4.heap.size [.map (some mb)] W5 := by rw [← hW5]; exact BoxN.new w4 _ _
  have hb35 : Below w3.heap.size w3 W5 := hb4.trans (hb5.mono hb4.size)
  have hb25 : Below W2.heap.size W2 W5 := HB3.out.trans (hb35.mono HB3.out.size)
  have HB5 := Lib.hid hb25
  have HX5 := Lib.hid hx5
  have HSET := Lib.hid (hset.next hb5)
  have HX := Lib.hid hX
  have HMB : Hid (mb < w4.heap.size) := by obtain ⟨D, ho, _⟩ := hset; exact ho.lt
  clear hmb hset hnd hX hb4 hb5 hx5 hb35 hb25 k0 k1 k2 k3 k4 k5 k6 k7
  go_upto_region 5 with fail
  have hbs := (HIN.out W2 HB12.out).bads
  obtain ⟨gb, ob, hxb, hab, hgb, hcb⟩ := (HIN.out w (Below.refl _ _)).bads.int HKL.out
  have hcapb := hbs.cap
  have hbigb := hbs.big
  obtain ⟨hkk, hkb⟩ := HBL.out
  simp only at hab
  rw [hkb] at hcb
  subst hab
  have HBE := Lib.hid (fun (U : World) (hU : Below w.heap.size w U) => (hU.cell (p := ⟨gb, ob + k, none⟩) hgb).trans hcb)
  have HCL := Lib.hid (fun (U : World) (hU : Below W5.heap.size W5 U) => CloneI.clone U a5 x.invs.length c5 (ints x.invs) (HIN.out U (HB12.out.trans ((HB5.out.trans (hU.mono HB5.out.size)).mono HB12.out.size))).invs (Base.ints_one _) (by have := HSZ.out; omega))
  clear hbs hxb hgb hcb hkk hkb
  go_cut [10] from 23 to 35 (fun u10 wx => ∃ (N10 gB : Nat) (aC : Option Addr) (cC : Nat), u10 = .pointer (some ⟨N10, 0, none⟩) ∧ Hid (W5.heap.size ≤ N10) ∧ Hid (BoxN N10 [.int .i64 x.max, .slice none 0 0, .slice none 0 0, .slice none 0 0, .slice (some ⟨gB, 0, none⟩) 1 1, .slice aC x.invs.length cC, .slice none 0 0, .slice none 0 0] wx) ∧ Hid (wx.ownsRow W5.heap.size 3 1 (.slice (some ⟨gB, 0, none⟩) 1 1) 1 (ints [bl])) ∧ Hid ((Value.slice (some ⟨gB, 0, none⟩) 1 1).ownBlock ≠ some N10) ∧ Hid (wx.ownsRow W5.heap.size 3 1 (.slice aC x.invs.length cC) x.invs.length (ints x.invs)) ∧ Hid ((Value.slice aC x.invs.length cC).ownBlock ≠ some N10) ∧ Hid (Below W5.heap.size W5 wx))
  case first =>
    skip
    have hSK : ∀ V : World, Below W5.heap.size W5 V → V.cell? ⟨w.heap.size, 0, none⟩ = some (.int .i64 x.max) ∧ V.cell? ⟨w.heap.size, 1, none⟩ = some (.slice a1 x.ins.length c1) ∧ V.cell? ⟨w.heap.size, 2, none⟩ = some (.slice a2 x.lats.length c2) ∧ V.cell? ⟨w.heap.size, 3, none⟩ = some (.slice a3 x.outs.length c3) ∧ V.cell? ⟨w.heap.size, 4, none⟩ = some (.slice (some ⟨gb, ob, none⟩) x.bads.length c4) ∧ V.cell? ⟨w.heap.size, 5, none⟩ = some (.slice a5 x.invs.length c5) ∧ V.cell? ⟨w.heap.size, 6, none⟩ = some (.slice a6 x.ands.length c6) ∧ V.cell? ⟨w.heap.size, 7, none⟩ = some (.slice a7 x.names.length c7) ∧ V.cell? ⟨gb, ob + k, none⟩ = some (.int .i64 bl) := fun V hV => by
      have c := c8of (HC2.out.next (HB5.out.trans (hV.mono HB5.out.size)) (Nat.le_refl _))
      exact ⟨c.1, c.2.1, c.2.2.1, c.2.2.2.1, c.2.2.2.2.1, c.2.2.2.2.2.1, c.2.2.2.2.2.2.1, c.2.2.2.2.2.2.2, HBE.out V (HB12.out.trans ((HB5.out.trans (hV.mono HB5.out.size)).mono HB12.out.size))⟩
    have b00 : Below W5.heap.size W5 W5.drew := (Below.refl _ _).drew
    have hkl : (k : Int) < (x.bads.length : Int) := by have := HKL.out; omega
    refine HeldAll.region (fun U : World => U.cell? ⟨w.heap.size, 0, none⟩ = some (.int .i64 x.max) ∧ U.cell? ⟨w.heap.size, 1, none⟩ = some (.slice a1 x.ins.length c1) ∧ U.cell? ⟨w.heap.size, 2, none⟩ = some (.slice a2 x.lats.length c2) ∧ U.cell? ⟨w.heap.size, 3, none⟩ = some (.slice a3 x.outs.length c3) ∧ U.cell? ⟨w.heap.size, 4, none⟩ = some (.slice (some ⟨gb, ob, none⟩) x.bads.length c4) ∧ U.cell? ⟨w.heap.size, 5, none⟩ = some (.slice a5 x.invs.length c5) ∧ U.cell? ⟨w.heap.size, 6, none⟩ = some (.slice a6 x.ands.length c6) ∧ U.cell? ⟨w.heap.size, 7, none⟩ = some (.slice a7 x.names.length c7) ∧ U.cell? ⟨gb, ob + k, none⟩ = some (.int .i64 bl)) (by kernel_rfl) ?_
    obtain ⟨u0, hu0⟩ : ∃ U, W5.drew = U := ⟨_, rfl⟩
    rw [hu0]
    have b0 : Below W5.heap.size W5 u0 := by rw [← hu0]; exact b00
    have hS0 := hSK _ b0
    (refine HeldAll.take (i := 0) (oi := _) (d := some 23) (v := ?_) rfl rfl (by kernel_rfl) (by kernel_rfl) (by kernel_rfl) (fun _ _ _ h => h) (Or.inl ⟨by rfl, ?_⟩) hS0 ?_; rotate_left; (focus (intro w hSw; clear hSw; go_simp; (try with_reducible rfl); done)); (try simp only [Act.put, List.setIfInBounds_toArray, List.set_cons_zero, List.set_cons_succ]))
    (refine HeldAll.take (i := 1) (oi := _) (d := some 24) (v := ?_) rfl rfl (by kernel_rfl) (by kernel_rfl) (by kernel_rfl) (fun _ _ _ h => h) (Or.inl ⟨by rfl, ?_⟩) hS0 ?_; rotate_left; (focus (intro w hSw; (try dsimp only at hSw); go_simp; (try with_reducible rfl); done)); (try simp only [Act.put, List.setIfInBounds_toArray, List.set_cons_zero, List.set_cons_succ]))
    (refine HeldAll.take (i := 2) (oi := _) (d := some 25) (v := ?_) rfl rfl (by kernel_rfl) (by kernel_rfl) (by kernel_rfl) (fun _ _ _ h => h) (Or.inl ⟨by rfl, ?_⟩) hS0 ?_; rotate_left; (focus (intro w hSw; clear hSw; go_simp; (try with_reducible rfl); done)); (try simp only [Act.put, List.setIfInBounds_toArray, List.set_cons_zero, List.set_cons_succ]))
    (refine HeldAll.take (i := 3) (oi := _) (d := some 26) (v := ?_) rfl rfl (by kernel_rfl) (by kernel_rfl) (by kernel_rfl) (fun _ _ _ h => h) (Or.inl ⟨by rfl, ?_⟩) hS0 ?_; rotate_left; (focus (intro w hSw; (try dsimp only at hSw); go_simp; (try with_reducible rfl); done)); (try simp only [Act.put, List.setIfInBounds_toArray, List.set_cons_zero, List.set_cons_succ]))
    (refine HeldAll.take (i := 4) (oi := _) (d := some 27) (v := ?_) rfl rfl (by kernel_rfl) (by kernel_rfl) (by kernel_rfl) (fun _ _ _ h => h) (Or.inl ⟨by rfl, ?_⟩) hS0 ?_; rotate_left; (focus (intro w hSw; clear hSw; go_simp; (try with_reducible rfl); done)); (try simp only [Act.put, List.setIfInBounds_toArray, List.set_cons_zero, List.set_cons_succ]))
    (refine HeldAll.take (i := 5) (oi := _) (d := some 28) (v := ?_) rfl rfl (by kernel_rfl) (by kernel_rfl) (by kernel_rfl) (fun _ _ _ h => h) (Or.inl ⟨by rfl, ?_⟩) hS0 ?_; rotate_left; (focus (intro w hSw; clear hSw; go_simp; (try with_reducible rfl); done)); (try simp only [Act.put, List.setIfInBounds_toArray, List.set_cons_zero, List.set_cons_succ]))
    (refine HeldAll.take (i := 6) (oi := _) (d := some 29) (v := ?_) rfl rfl (by kernel_rfl) (by kernel_rfl) (by kernel_rfl) (fun _ _ _ h => h) (Or.inl ⟨by rfl, ?_⟩) hS0 ?_; rotate_left; (focus (intro w hSw; (try dsimp only at hSw); go_simp; (try with_reducible rfl); done)); (try simp only [Act.put, List.setIfInBounds_toArray, List.set_cons_zero, List.set_cons_succ]))
    (refine HeldAll.take (i := 8) (oi := _) (d := some 31) (v := ?_) rfl rfl (by kernel_rfl) (by kernel_rfl) (by kernel_rfl) (fun _ _ _ h => h) (Or.inl ⟨by rfl, ?_⟩) hS0 ?_; rotate_left; (focus (intro w hSw; clear hSw; go_simp; (try with_reducible rfl); done)); (try simp only [Act.put, List.setIfInBounds_toArray, List.set_cons_zero, List.set_cons_succ]))
    (refine HeldAll.take (i := 9) (oi := _) (d := some 32) (v := ?_) rfl rfl (by kernel_rfl) (by kernel_rfl) (by kernel_rfl) (fun _ _ _ h => h) (Or.inl ⟨by rfl, ?_⟩) hS0 ?_; rotate_left; (focus (intro w hSw; (try dsimp only at hSw); go_simp; (try with_reducible rfl); done)); (try simp only [Act.put, List.setIfInBounds_toArray, List.set_cons_zero, List.set_cons_succ]))
    refine HeldAll.three (i := 7) (j := 10) (k := 12) (by kernel_rfl) ?_ ?_ ?_
    · skip
      obtain ⟨u1, hu1⟩ : ∃ V, u0.alloc (.cells #[.int .i64 bl] 3) = V := ⟨_, rfl⟩
      have su1 : Below u0.heap.size u0 u1 := by rw [← hu1]; exact (Below.refl _ _).alloc (Nat.le_refl _) _
      have bu1 : Below W5.heap.size W5 u1 := b0.trans (su1.mono b0.size)
      have oB : u1.ownsRow u0.heap.size 3 1 (.slice (some ⟨u0.heap.size, 0, none⟩) 1 1) 1 (ints [bl]) := by rw [← hu1]; exact World.ownsRow_lit u0 #[.int .i64 bl] 1 (Nat.le_refl _) (by unfold maxLen; omega) rfl
      refine HeldAll.opVal (i := 7) (oi := _) (d := some 30) (v := .slice (some ⟨u0.heap.size, 0, none⟩) 1 1) (w2 := u1) rfl rfl (by rfl) (by rw [← hu1]; go_simp; done) (hSK _ bu1) ?_
      (try simp only [Act.put, List.setIfInBounds_toArray, List.set_cons_zero, List.set_cons_succ])
      refine HeldAll.two (i := 10) (j := 12) (by kernel_rfl) ?_ ?_
      · skip
        have oB0 := oB
        refine HeldAll.opCall (i := 10) (oi := _) (d := some 33) (R := fun v w' => ∃ a' c', v = .slice a' x.invs.length c' ∧ w'.ownsRow u1.heap.size 3 1 (.slice a' x.invs.length c') x.invs.length (ints x.invs) ∧ Below u1.heap.size u1 w') rfl rfl (by rfl) (by go_simp; done) ((HCL.out u1 bu1).mono fun e w' h => by obtain ⟨a', c', he, ho, hb⟩ := h; exact ⟨_, he, a', c', rfl, ho, hb⟩) ?_
        rintro v u2 ⟨aC, cC, rfl, oC, su2⟩
        have bu2 : Below W5.heap.size W5 u2 := bu1.trans (su2.mono bu1.size)
        have oB := own_next oB su2
        refine ⟨hSK _ bu2, ?_⟩
        (try simp only [Act.put, List.setIfInBounds_toArray, List.set_cons_zero, List.set_cons_succ])
        refine HeldAll.two (i := 11) (j := 12) (by kernel_rfl) ?_ ?_
        · skip
          refine HeldAll.opVal (i := 11) (oi := _) (d := some 34) (v := .agg #[.int .i64 x.max, .slice none 0 0, .slice none 0 0, .slice none 0 0, .slice (some ⟨u0.heap.size, 0, none⟩) 1 1, .slice aC x.invs.length cC, .slice none 0 0, .slice none 0 0]) (w2 := u2) rfl rfl (by rfl) (by go_simp; done) (hSK _ bu2) ?_
          (try simp only [Act.put, List.setIfInBounds_toArray, List.set_cons_zero, List.set_cons_succ])
          refine HeldAll.one (i := 12) (by kernel_rfl) ?_
          skip
          have oB0 := oB
          have oC0 := oC
          obtain ⟨u3, hu3⟩ : ∃ V, u2.alloc (.cells #[.int .i64 0, .slice none 0 0, .slice none 0 0, .slice none 0 0, .slice none 0 0, .slice none 0 0, .slice none 0 0, .slice none 0 0] 27) = V := ⟨_, rfl⟩
          have su3 : Below u2.heap.size u2 u3 := by rw [← hu3]; exact (Below.refl _ _).alloc (Nat.le_refl _) _
          have bu3 : Below W5.heap.size W5 u3 := bu2.trans (su3.mono bu2.size)
          have oB := own_next oB su3
          have oC := own_next oC su3
          have bx : BoxN u2.heap.size [.int .i64 0, .slice none 0 0, .slice none 0 0, .slice none 0 0, .slice none 0 0, .slice none 0 0, .slice none 0 0, .slice none 0 0] u3 := by rw [← hu3]; exact BoxN.new u2 _ _
          have geA : W5.heap.size ≤ u2.heap.size := bu2.size
          have nB := own_not oB0 (Nat.le_refl u2.heap.size)
          have nC := own_not oC0 (Nat.le_refl u2.heap.size)
          have ltAu3 : u2.heap.size < u3.heap.size := bx.lt
          refine HeldAll.opVal (i := 12) (oi := _) (d := some 10) (v := .pointer (some ⟨u2.heap.size, 0, none⟩)) (w2 := u3) rfl rfl (by rfl) (by rw [← hu3]; go_simp; done) (hSK _ bu3) ?_
          (try simp only [Act.put, List.setIfInBounds_toArray, List.set_cons_zero, List.set_cons_succ])
          have y0 := bx.at' 0 _ rfl
          have z0 := bx.fz 0
          have y1 := bx.at' 1 _ rfl
          have z1 := bx.fz 1
          have y2 := bx.at' 2 _ rfl
          have z2 := bx.fz 2
          have y3 := bx.at' 3 _ rfl
          have z3 := bx.fz 3
          have y4 := bx.at' 4 _ rfl
          have z4 := bx.fz 4
          have y5 := bx.at' 5 _ rfl
          have z5 := bx.fz 5
          have y6 := bx.at' 6 _ rfl
          have z6 := bx.fz 6
          have y7 := bx.at' 7 _ rfl
          have z7 := bx.fz 7
          refine HeldAll.one (i := 13) (by kernel_rfl) ?_
          refine HeldAll.opStore (i := 13) (oi := _) (d := none) (w2 := ((((((((u3.setCell ⟨u2.heap.size, 0, none⟩ (.int .i64 x.max)).setCell ⟨u2.heap.size, 1, none⟩ (.slice none 0 0)).setCell ⟨u2.heap.size, 2, none⟩ (.slice none 0 0)).setCell ⟨u2.heap.size, 3, none⟩ (.slice none 0 0)).setCell ⟨u2.heap.size, 4, none⟩ (.slice (some ⟨u0.heap.size, 0, none⟩) 1 1)).setCell ⟨u2.heap.size, 5, none⟩ (.slice aC x.invs.length cC)).setCell ⟨u2.heap.size, 6, none⟩ (.slice none 0 0)).setCell ⟨u2.heap.size, 7, none⟩ (.slice none 0 0))) rfl rfl (by rfl) (by go_simp; done) (hSK _ (below_set8 bu3 geA (.int .i64 x.max) (.slice none 0 0) (.slice none 0 0) (.slice none 0 0) (.slice (some ⟨u0.heap.size, 0, none⟩) 1 1) (.slice aC x.invs.length cC) (.slice none 0 0) (.slice none 0 0))) ?_
          (try simp only [Act.put, List.setIfInBounds_toArray, List.set_cons_zero, List.set_cons_succ])
          refine HeldAll.done (by kernel_rfl) ?_ _
          (try go_wp2_with fail)
          go_meet
          have hf1 := Lib.hid (box_set8 bx (.int .i64 x.max) (.slice none 0 0) (.slice none 0 0) (.slice none 0 0) (.slice (some ⟨u0.heap.size, 0, none⟩) 1 1) (.slice aC x.invs.length cC) (.slice none 0 0) (.slice none 0 0))
          have hf2 := Lib.hid (own_set8 (own_mono oB (b0).size) nB (.int .i64 x.max) (.slice none 0 0) (.slice none 0 0) (.slice none 0 0) (.slice (some ⟨u0.heap.size, 0, none⟩) 1 1) (.slice aC x.invs.length cC) (.slice none 0 0) (.slice none 0 0))
          have hf3 := Lib.hid (own_set8 (own_mono oC (bu1).size) nC (.int .i64 x.max) (.slice none 0 0) (.slice none 0 0) (.slice none 0 0) (.slice (some ⟨u0.heap.size, 0, none⟩) 1 1) (.slice aC x.invs.length cC) (.slice none 0 0) (.slice none 0 0))
          have hf4 := Lib.hid (below_set8 bu3 geA (.int .i64 x.max) (.slice none 0 0) (.slice none 0 0) (.slice none 0 0) (.slice (some ⟨u0.heap.size, 0, none⟩) 1 1) (.slice aC x.invs.length cC) (.slice none 0 0) (.slice none 0 0))
          exact ⟨u2.heap.size, u0.heap.size, aC, cC, rfl, geA, hf1, hf2, nB, hf3, nC, hf4⟩
        · skip
          have oB0 := oB
          have oC0 := oC
          obtain ⟨u4, hu4⟩ : ∃ V, u2.alloc (.cells #[.int .i64 0, .slice none 0 0, .slice none 0 0, .slice none 0 0, .slice none 0 0, .slice none 0 0, .slice none 0 0, .slice none 0 0] 27) = V := ⟨_, rfl⟩
          have su4 : Below u2.heap.size u2 u4 := by rw [← hu4]; exact (Below.refl _ _).alloc (Nat.le_refl _) _
          have bu4 : Below W5.heap.size W5 u4 := bu2.trans (su4.mono bu2.size)
          have oB := own_next oB su4
          have oC := own_next oC su4
          have bx : BoxN u2.heap.size [.int .i64 0, .slice none 0 0, .slice none 0 0, .slice none 0 0, .slice none 0 0, .slice none 0 0, .slice none 0 0, .slice none 0 0] u4 := by rw [← hu4]; exact BoxN.new u2 _ _
          have geA : W5.heap.size ≤ u2.heap.size := bu2.size
          have nB := own_not oB0 (Nat.le_refl u2.heap.size)
          have nC := own_not oC0 (Nat.le_refl u2.heap.size)
          have ltAu4 : u2.heap.size < u4.heap.size := bx.lt
          refine HeldAll.opVal (i := 12) (oi := _) (d := some 10) (v := .pointer (some ⟨u2.heap.size, 0, none⟩)) (w2 := u4) rfl rfl (by rfl) (by rw [← hu4]; go_simp; done) (hSK _ bu4) ?_
          (try simp only [Act.put, List.setIfInBounds_toArray, List.set_cons_zero, List.set_cons_succ])
          refine HeldAll.one (i := 11) (by kernel_rfl) ?_
          skip
          refine HeldAll.opVal (i := 11) (oi := _) (d := some 34) (v := .agg #[.int .i64 x.max, .slice none 0 0, .slice none 0 0, .slice none 0 0, .slice (some ⟨u0.heap.size, 0, none⟩) 1 1, .slice aC x.invs.length cC, .slice none 0 0, .slice none 0 0]) (w2 := u4) rfl rfl (by rfl) (by go_simp; done) (hSK _ bu4) ?_
          (try simp only [Act.put, List.setIfInBounds_toArray, List.set_cons_zero, List.set_cons_succ])
          have y0 := bx.at' 0 _ rfl
          have z0 := bx.fz 0
          have y1 := bx.at' 1 _ rfl
          have z1 := bx.fz 1
          have y2 := bx.at' 2 _ rfl
          have z2 := bx.fz 2
          have y3 := bx.at' 3 _ rfl
          have z3 := bx.fz 3
          have y4 := bx.at' 4 _ rfl
          have z4 := bx.fz 4
          have y5 := bx.at' 5 _ rfl
          have z5 := bx.fz 5
          have y6 := bx.at' 6 _ rfl
          have z6 := bx.fz 6
          have y7 := bx.at' 7 _ rfl
          have z7 := bx.fz 7
          refine HeldAll.one (i := 13) (by kernel_rfl) ?_
          refine HeldAll.opStore (i := 13) (oi := _) (d := none) (w2 := ((((((((u4.setCell ⟨u2.heap.size, 0, none⟩ (.int .i64 x.max)).setCell ⟨u2.heap.size, 1, none⟩ (.slice none 0 0)).setCell ⟨u2.heap.size, 2, none⟩ (.slice none 0 0)).setCell ⟨u2.heap.size, 3, none⟩ (.slice none 0 0)).setCell ⟨u2.heap.size, 4, none⟩ (.slice (some ⟨u0.heap.size, 0, none⟩) 1 1)).setCell ⟨u2.heap.size, 5, none⟩ (.slice aC x.invs.length cC)).setCell ⟨u2.heap.size, 6, none⟩ (.slice none 0 0)).setCell ⟨u2.heap.size, 7, none⟩ (.slice none 0 0))) rfl rfl (by rfl) (by go_simp; done) (hSK _ (below_set8 bu4 geA (.int .i64 x.max) (.slice none 0 0) (.slice none 0 0) (.slice none 0 0) (.slice (some ⟨u0.heap.size, 0, none⟩) 1 1) (.slice aC x.invs.length cC) (.slice none 0 0) (.slice none 0 0))) ?_
          (try simp only [Act.put, List.setIfInBounds_toArray, List.set_cons_zero, List.set_cons_succ])
          refine HeldAll.done (by kernel_rfl) ?_ _
          (try go_wp2_with fail)
          go_meet
          have hf1 := Lib.hid (box_set8 bx (.int .i64 x.max) (.slice none 0 0) (.slice none 0 0) (.slice none 0 0) (.slice (some ⟨u0.heap.size, 0, none⟩) 1 1) (.slice aC x.invs.length cC) (.slice none 0 0) (.slice none 0 0))
          have hf2 := Lib.hid (own_set8 (own_mono oB (b0).size) nB (.int .i64 x.max) (.slice none 0 0) (.slice none 0 0) (.slice none 0 0) (.slice (some ⟨u0.heap.size, 0, none⟩) 1 1) (.slice aC x.invs.length cC) (.slice none 0 0) (.slice none 0 0))
          have hf3 := Lib.hid (own_set8 (own_mono oC (bu1).size) nC (.int .i64 x.max) (.slice none 0 0) (.slice none 0 0) (.slice none 0 0) (.slice (some ⟨u0.heap.size, 0, none⟩) 1 1) (.slice aC x.invs.length cC) (.slice none 0 0) (.slice none 0 0))
          have hf4 := Lib.hid (below_set8 bu4 geA (.int .i64 x.max) (.slice none 0 0) (.slice none 0 0) (.slice none 0 0) (.slice (some ⟨u0.heap.size, 0, none⟩) 1 1) (.slice aC x.invs.length cC) (.slice none 0 0) (.slice none 0 0))
          exact ⟨u2.heap.size, u0.heap.size, aC, cC, rfl, geA, hf1, hf2, nB, hf3, nC, hf4⟩
      · skip
        have oB0 := oB
        obtain ⟨u5, hu5⟩ : ∃ V, u1.alloc (.cells #[.int .i64 0, .slice none 0 0, .slice none 0 0, .slice none 0 0, .slice none 0 0, .slice none 0 0, .slice none 0 0, .slice none 0 0] 27) = V := ⟨_, rfl⟩
        have su5 : Below u1.heap.size u1 u5 := by rw [← hu5]; exact (Below.refl _ _).alloc (Nat.le_refl _) _
        have bu5 : Below W5.heap.size W5 u5 := bu1.trans (su5.mono bu1.size)
        have oB := own_next oB su5
        have bx : BoxN u1.heap.size [.int .i64 0, .slice none 0 0, .slice none 0 0, .slice none 0 0, .slice none 0 0, .slice none 0 0, .slice none 0 0, .slice none 0 0] u5 := by rw [← hu5]; exact BoxN.new u1 _ _
        have geA : W5.heap.size ≤ u1.heap.size := bu1.size
        have nB := own_not oB0 (Nat.le_refl u1.heap.size)
        have ltAu5 : u1.heap.size < u5.heap.size := bx.lt
        refine HeldAll.opVal (i := 12) (oi := _) (d := some 10) (v := .pointer (some ⟨u1.heap.size, 0, none⟩)) (w2 := u5) rfl rfl (by rfl) (by rw [← hu5]; go_simp; done) (hSK _ bu5) ?_
        (try simp only [Act.put, List.setIfInBounds_toArray, List.set_cons_zero, List.set_cons_succ])
        refine HeldAll.one (i := 10) (by kernel_rfl) ?_
        skip
        have oB0 := oB
        refine HeldAll.opCall (i := 10) (oi := _) (d := some 33) (R := fun v w' => ∃ a' c', v = .slice a' x.invs.length c' ∧ w'.ownsRow u5.heap.size 3 1 (.slice a' x.invs.length c') x.invs.length (ints x.invs) ∧ Below u5.heap.size u5 w') rfl rfl (by rfl) (by go_simp; done) ((HCL.out u5 bu5).mono fun e w' h => by obtain ⟨a', c', he, ho, hb⟩ := h; exact ⟨_, he, a', c', rfl, ho, hb⟩) ?_
        rintro v u6 ⟨aC, cC, rfl, oC, su6⟩
        have bu6 : Below W5.heap.size W5 u6 := bu5.trans (su6.mono bu5.size)
        have oB := own_next oB su6
        have bx := bx.next su6 bx.lt
        have nC := own_not' oC (N := u1.heap.size) ltAu5
        have ltAu6 : u1.heap.size < u6.heap.size := bx.lt
        refine ⟨hSK _ bu6, ?_⟩
        (try simp only [Act.put, List.setIfInBounds_toArray, List.set_cons_zero, List.set_cons_succ])
        refine HeldAll.one (i := 11) (by kernel_rfl) ?_
        skip
        refine HeldAll.opVal (i := 11) (oi := _) (d := some 34) (v := .agg #[.int .i64 x.max, .slice none 0 0, .slice none 0 0, .slice none 0 0, .slice (some ⟨u0.heap.size, 0, none⟩) 1 1, .slice aC x.invs.length cC, .slice none 0 0, .slice none 0 0]) (w2 := u6) rfl rfl (by rfl) (by go_simp; done) (hSK _ bu6) ?_
        (try simp only [Act.put, List.setIfInBounds_toArray, List.set_cons_zero, List.set_cons_succ])
        have y0 := bx.at' 0 _ rfl
        have z0 := bx.fz 0
        have y1 := bx.at' 1 _ rfl
        have z1 := bx.fz 1
        have y2 := bx.at' 2 _ rfl
        have z2 := bx.fz 2
        have y3 := bx.at' 3 _ rfl
        have z3 := bx.fz 3
        have y4 := bx.at' 4 _ rfl
        have z4 := bx.fz 4
        have y5 := bx.at' 5 _ rfl
        have z5 := bx.fz 5
        have y6 := bx.at' 6 _ rfl
        have z6 := bx.fz 6
        have y7 := bx.at' 7 _ rfl
        have z7 := bx.fz 7
        refine HeldAll.one (i := 13) (by kernel_rfl) ?_
        refine HeldAll.opStore (i := 13) (oi := _) (d := none) (w2 := ((((((((u6.setCell ⟨u1.heap.size, 0, none⟩ (.int .i64 x.max)).setCell ⟨u1.heap.size, 1, none⟩ (.slice none 0 0)).setCell ⟨u1.heap.size, 2, none⟩ (.slice none 0 0)).setCell ⟨u1.heap.size, 3, none⟩ (.slice none 0 0)).setCell ⟨u1.heap.size, 4, none⟩ (.slice (some ⟨u0.heap.size, 0, none⟩) 1 1)).setCell ⟨u1.heap.size, 5, none⟩ (.slice aC x.invs.length cC)).setCell ⟨u1.heap.size, 6, none⟩ (.slice none 0 0)).setCell ⟨u1.heap.size, 7, none⟩ (.slice none 0 0))) rfl rfl (by rfl) (by go_simp; done) (hSK _ (below_set8 bu6 geA (.int .i64 x.max) (.slice none 0 0) (.slice none 0 0) (.slice none 0 0) (.slice (some ⟨u0.heap.size, 0, none⟩) 1 1) (.slice aC x.invs.length cC) (.slice none 0 0) (.slice none 0 0))) ?_
        (try simp only [Act.put, List.setIfInBounds_toArray, List.set_cons_zero, List.set_cons_succ])
        refine HeldAll.done (by kernel_rfl) ?_ _
        (try go_wp2_with fail)
        go_meet
        have hf1 := Lib.hid (box_set8 bx (.int .i64 x.max) (.slice none 0 0) (.slice none 0 0) (.slice none 0 0) (.slice (some ⟨u0.heap.size, 0, none⟩) 1 1) (.slice aC x.invs.length cC) (.slice none 0 0) (.slice none 0 0))
        have hf2 := Lib.hid (own_set8 (own_mono oB (b0).size) nB (.int .i64 x.max) (.slice none 0 0) (.slice none 0 0) (.slice none 0 0) (.slice (some ⟨u0.heap.size, 0, none⟩) 1 1) (.slice aC x.invs.length cC) (.slice none 0 0) (.slice none 0 0))
        have hf3 := Lib.hid (own_set8 (own_mono oC (bu5).size) nC (.int .i64 x.max) (.slice none 0 0) (.slice none 0 0) (.slice none 0 0) (.slice (some ⟨u0.heap.size, 0, none⟩) 1 1) (.slice aC x.invs.length cC) (.slice none 0 0) (.slice none 0 0))
        have hf4 := Lib.hid (below_set8 bu6 geA (.int .i64 x.max) (.slice none 0 0) (.slice none 0 0) (.slice none 0 0) (.slice (some ⟨u0.heap.size, 0, none⟩) 1 1) (.slice aC x.invs.length cC) (.slice none 0 0) (.slice none 0 0))
        exact ⟨u1.heap.size, u0.heap.size, aC, cC, rfl, geA, hf1, hf2, nB, hf3, nC, hf4⟩
    · skip
      refine HeldAll.opCall (i := 10) (oi := _) (d := some 33) (R := fun v w' => ∃ a' c', v = .slice a' x.invs.length c' ∧ w'.ownsRow u0.heap.size 3 1 (.slice a' x.invs.length c') x.invs.length (ints x.invs) ∧ Below u0.heap.size u0 w') rfl rfl (by rfl) (by go_simp; done) ((HCL.out u0 b0).mono fun e w' h => by obtain ⟨a', c', he, ho, hb⟩ := h; exact ⟨_, he, a', c', rfl, ho, hb⟩) ?_
      rintro v u7 ⟨aC, cC, rfl, oC, su7⟩
      have bu7 : Below W5.heap.size W5 u7 := b0.trans (su7.mono b0.size)
      refine ⟨hSK _ bu7, ?_⟩
      (try simp only [Act.put, List.setIfInBounds_toArray, List.set_cons_zero, List.set_cons_succ])
      refine HeldAll.two (i := 7) (j := 12) (by kernel_rfl) ?_ ?_
      · skip
        have oC0 := oC
        obtain ⟨u8, hu8⟩ : ∃ V, u7.alloc (.cells #[.int .i64 bl] 3) = V := ⟨_, rfl⟩
        have su8 : Below u7.heap.size u7 u8 := by rw [← hu8]; exact (Below.refl _ _).alloc (Nat.le_refl _) _
        have bu8 : Below W5.heap.size W5 u8 := bu7.trans (su8.mono bu7.size)
        have oC := own_next oC su8
        have oB : u8.ownsRow u7.heap.size 3 1 (.slice (some ⟨u7.heap.size, 0, none⟩) 1 1) 1 (ints [bl]) := by rw [← hu8]; exact World.ownsRow_lit u7 #[.int .i64 bl] 1 (Nat.le_refl _) (by unfold maxLen; omega) rfl
        refine HeldAll.opVal (i := 7) (oi := _) (d := some 30) (v := .slice (some ⟨u7.heap.size, 0, none⟩) 1 1) (w2 := u8) rfl rfl (by rfl) (by rw [← hu8]; go_simp; done) (hSK _ bu8) ?_
        (try simp only [Act.put, List.setIfInBounds_toArray, List.set_cons_zero, List.set_cons_succ])
        refine HeldAll.two (i := 11) (j := 12) (by kernel_rfl) ?_ ?_
        · skip
          refine HeldAll.opVal (i := 11) (oi := _) (d := some 34) (v := .agg #[.int .i64 x.max, .slice none 0 0, .slice none 0 0, .slice none 0 0, .slice (some ⟨u7.heap.size, 0, none⟩) 1 1, .slice aC x.invs.length cC, .slice none 0 0, .slice none 0 0]) (w2 := u8) rfl rfl (by rfl) (by go_simp; done) (hSK _ bu8) ?_
          (try simp only [Act.put, List.setIfInBounds_toArray, List.set_cons_zero, List.set_cons_succ])
          refine HeldAll.one (i := 12) (by kernel_rfl) ?_
          skip
          have oC0 := oC
          have oB0 := oB
          obtain ⟨u9, hu9⟩ : ∃ V, u8.alloc (.cells #[.int .i64 0, .slice none 0 0, .slice none 0 0, .slice none 0 0, .slice none 0 0, .slice none 0 0, .slice none 0 0, .slice none 0 0] 27) = V := ⟨_, rfl⟩
          have su9 : Below u8.heap.size u8 u9 := by rw [← hu9]; exact (Below.refl _ _).alloc (Nat.le_refl _) _
          have bu9 : Below W5.heap.size W5 u9 := bu8.trans (su9.mono bu8.size)
          have oC := own_next oC su9
          have oB := own_next oB su9
          have bx : BoxN u8.heap.size [.int .i64 0, .slice none 0 0, .slice none 0 0, .slice none 0 0, .slice none 0 0, .slice none 0 0, .slice none 0 0, .slice none 0 0] u9 := by rw [← hu9]; exact BoxN.new u8 _ _
          have geA : W5.heap.size ≤ u8.heap.size := bu8.size
          have nB := own_not oB0 (Nat.le_refl u8.heap.size)
          have nC := own_not oC0 (Nat.le_refl u8.heap.size)
          have ltAu9 : u8.heap.size < u9.heap.size := bx.lt
          refine HeldAll.opVal (i := 12) (oi := _) (d := some 10) (v := .pointer (some ⟨u8.heap.size, 0, none⟩)) (w2 := u9) rfl rfl (by rfl) (by rw [← hu9]; go_simp; done) (hSK _ bu9) ?_
          (try simp only [Act.put, List.setIfInBounds_toArray, List.set_cons_zero, List.set_cons_succ])
          have y0 := bx.at' 0 _ rfl
          have z0 := bx.fz 0
          have y1 := bx.at' 1 _ rfl
          have z1 := bx.fz 1
          have y2 := bx.at' 2 _ rfl
          have z2 := bx.fz 2
          have y3 := bx.at' 3 _ rfl
          have z3 := bx.fz 3
          have y4 := bx.at' 4 _ rfl
          have z4 := bx.fz 4
          have y5 := bx.at' 5 _ rfl
          have z5 := bx.fz 5
          have y6 := bx.at' 6 _ rfl
          have z6 := bx.fz 6
          have y7 := bx.at' 7 _ rfl
          have z7 := bx.fz 7
          refine HeldAll.one (i := 13) (by kernel_rfl) ?_
          refine HeldAll.opStore (i := 13) (oi := _) (d := none) (w2 := ((((((((u9.setCell ⟨u8.heap.size, 0, none⟩ (.int .i64 x.max)).setCell ⟨u8.heap.size, 1, none⟩ (.slice none 0 0)).setCell ⟨u8.heap.size, 2, none⟩ (.slice none 0 0)).setCell ⟨u8.heap.size, 3, none⟩ (.slice none 0 0)).setCell ⟨u8.heap.size, 4, none⟩ (.slice (some ⟨u7.heap.size, 0, none⟩) 1 1)).setCell ⟨u8.heap.size, 5, none⟩ (.slice aC x.invs.length cC)).setCell ⟨u8.heap.size, 6, none⟩ (.slice none 0 0)).setCell ⟨u8.heap.size, 7, none⟩ (.slice none 0 0))) rfl rfl (by rfl) (by go_simp; done) (hSK _ (below_set8 bu9 geA (.int .i64 x.max) (.slice none 0 0) (.slice none 0 0) (.slice none 0 0) (.slice (some ⟨u7.heap.size, 0, none⟩) 1 1) (.slice aC x.invs.length cC) (.slice none 0 0) (.slice none 0 0))) ?_
          (try simp only [Act.put, List.setIfInBounds_toArray, List.set_cons_zero, List.set_cons_succ])
          refine HeldAll.done (by kernel_rfl) ?_ _
          (try go_wp2_with fail)
          go_meet
          have hf1 := Lib.hid (box_set8 bx (.int .i64 x.max) (.slice none 0 0) (.slice none 0 0) (.slice none 0 0) (.slice (some ⟨u7.heap.size, 0, none⟩) 1 1) (.slice aC x.invs.length cC) (.slice none 0 0) (.slice none 0 0))
          have hf2 := Lib.hid (own_set8 (own_mono oB (bu7).size) nB (.int .i64 x.max) (.slice none 0 0) (.slice none 0 0) (.slice none 0 0) (.slice (some ⟨u7.heap.size, 0, none⟩) 1 1) (.slice aC x.invs.length cC) (.slice none 0 0) (.slice none 0 0))
          have hf3 := Lib.hid (own_set8 (own_mono oC (b0).size) nC (.int .i64 x.max) (.slice none 0 0) (.slice none 0 0) (.slice none 0 0) (.slice (some ⟨u7.heap.size, 0, none⟩) 1 1) (.slice aC x.invs.length cC) (.slice none 0 0) (.slice none 0 0))
          have hf4 := Lib.hid (below_set8 bu9 geA (.int .i64 x.max) (.slice none 0 0) (.slice none 0 0) (.slice none 0 0) (.slice (some ⟨u7.heap.size, 0, none⟩) 1 1) (.slice aC x.invs.length cC) (.slice none 0 0) (.slice none 0 0))
          exact ⟨u8.heap.size, u7.heap.size, aC, cC, rfl, geA, hf1, hf2, nB, hf3, nC, hf4⟩
        · skip
          have oC0 := oC
          have oB0 := oB
          obtain ⟨u10, hu10⟩ : ∃ V, u8.alloc (.cells #[.int .i64 0, .slice none 0 0, .slice none 0 0, .slice none 0 0, .slice none 0 0, .slice none 0 0, .slice none 0 0, .slice none 0 0] 27) = V := ⟨_, rfl⟩
          have su10 : Below u8.heap.size u8 u10 := by rw [← hu10]; exact (Below.refl _ _).alloc (Nat.le_refl _) _
          have bu10 : Below W5.heap.size W5 u10 := bu8.trans (su10.mono bu8.size)
          have oC := own_next oC su10
          have oB := own_next oB su10
          have bx : BoxN u8.heap.size [.int .i64 0, .slice none 0 0, .slice none 0 0, .slice none 0 0, .slice none 0 0, .slice none 0 0, .slice none 0 0, .slice none 0 0] u10 := by rw [← hu10]; exact BoxN.new u8 _ _
          have geA : W5.heap.size ≤ u8.heap.size := bu8.size
          have nB := own_not oB0 (Nat.le_refl u8.heap.size)
          have nC := own_not oC0 (Nat.le_refl u8.heap.size)
          have ltAu10 : u8.heap.size < u10.heap.size := bx.lt
          refine HeldAll.opVal (i := 12) (oi := _) (d := some 10) (v := .pointer (some ⟨u8.heap.size, 0, none⟩)) (w2 := u10) rfl rfl (by rfl) (by rw [← hu10]; go_simp; done) (hSK _ bu10) ?_
          (try simp only [Act.put, List.setIfInBounds_toArray, List.set_cons_zero, List.set_cons_succ])
          refine HeldAll.one (i := 11) (by kernel_rfl) ?_
          skip
          refine HeldAll.opVal (i := 11) (oi := _) (d := some 34) (v := .agg #[.int .i64 x.max, .slice none 0 0, .slice none 0 0, .slice none 0 0, .slice (some ⟨u7.heap.size, 0, none⟩) 1 1, .slice aC x.invs.length cC, .slice none 0 0, .slice none 0 0]) (w2 := u10) rfl rfl (by rfl) (by go_simp; done) (hSK _ bu10) ?_
          (try simp only [Act.put, List.setIfInBounds_toArray, List.set_cons_zero, List.set_cons_succ])
          have y0 := bx.at' 0 _ rfl
          have z0 := bx.fz 0
          have y1 := bx.at' 1 _ rfl
          have z1 := bx.fz 1
          have y2 := bx.at' 2 _ rfl
          have z2 := bx.fz 2
          have y3 := bx.at' 3 _ rfl
          have z3 := bx.fz 3
          have y4 := bx.at' 4 _ rfl
          have z4 := bx.fz 4
          have y5 := bx.at' 5 _ rfl
          have z5 := bx.fz 5
          have y6 := bx.at' 6 _ rfl
          have z6 := bx.fz 6
          have y7 := bx.at' 7 _ rfl
          have z7 := bx.fz 7
          refine HeldAll.one (i := 13) (by kernel_rfl) ?_
          refine HeldAll.opStore (i := 13) (oi := _) (d := none) (w2 := ((((((((u10.setCell ⟨u8.heap.size, 0, none⟩ (.int .i64 x.max)).setCell ⟨u8.heap.size, 1, none⟩ (.slice none 0 0)).setCell ⟨u8.heap.size, 2, none⟩ (.slice none 0 0)).setCell ⟨u8.heap.size, 3, none⟩ (.slice none 0 0)).setCell ⟨u8.heap.size, 4, none⟩ (.slice (some ⟨u7.heap.size, 0, none⟩) 1 1)).setCell ⟨u8.heap.size, 5, none⟩ (.slice aC x.invs.length cC)).setCell ⟨u8.heap.size, 6, none⟩ (.slice none 0 0)).setCell ⟨u8.heap.size, 7, none⟩ (.slice none 0 0))) rfl rfl (by rfl) (by go_simp; done) (hSK _ (below_set8 bu10 geA (.int .i64 x.max) (.slice none 0 0) (.slice none 0 0) (.slice none 0 0) (.slice (some ⟨u7.heap.size, 0, none⟩) 1 1) (.slice aC x.invs.length cC) (.slice none 0 0) (.slice none 0 0))) ?_
          (try simp only [Act.put, List.setIfInBounds_toArray, List.set_cons_zero, List.set_cons_succ])
          refine HeldAll.done (by kernel_rfl) ?_ _
          (try go_wp2_with fail)
          go_meet
          have hf1 := Lib.hid (box_set8 bx (.int .i64 x.max) (.slice none 0 0) (.slice none 0 0) (.slice none 0 0) (.slice (some ⟨u7.heap.size, 0, none⟩) 1 1) (.slice aC x.invs.length cC) (.slice none 0 0) (.slice none 0 0))
          have hf2 := Lib.hid (own_set8 (own_mono oB (bu7).size) nB (.int .i64 x.max) (.slice none 0 0) (.slice none 0 0) (.slice none 0 0) (.slice (some ⟨u7.heap.size, 0, none⟩) 1 1) (.slice aC x.invs.length cC) (.slice none 0 0) (.slice none 0 0))
          have hf3 := Lib.hid (own_set8 (own_mono oC (b0).size) nC (.int .i64 x.max) (.slice none 0 0) (.slice none 0 0) (.slice none 0 0) (.slice (some ⟨u7.heap.size, 0, none⟩) 1 1) (.slice aC x.invs.length cC) (.slice none 0 0) (.slice none 0 0))
          have hf4 := Lib.hid (below_set8 bu10 geA (.int .i64 x.max) (.slice none 0 0) (.slice none 0 0) (.slice none 0 0) (.slice (some ⟨u7.heap.size, 0, none⟩) 1 1) (.slice aC x.invs.length cC) (.slice none 0 0) (.slice none 0 0))
          exact ⟨u8.heap.size, u7.heap.size, aC, cC, rfl, geA, hf1, hf2, nB, hf3, nC, hf4⟩
      · skip
        have oC0 := oC
        obtain ⟨u11, hu11⟩ : ∃ V, u7.alloc (.cells #[.int .i64 0, .slice none 0 0, .slice none 0 0, .slice none 0 0, .slice none 0 0, .slice none 0 0, .slice none 0 0, .slice none 0 0] 27) = V := ⟨_, rfl⟩
        have su11 : Below u7.heap.size u7 u11 := by rw [← hu11]; exact (Below.refl _ _).alloc (Nat.le_refl _) _
        have bu11 : Below W5.heap.size W5 u11 := bu7.trans (su11.mono bu7.size)
        have oC := own_next oC su11
        have bx : BoxN u7.heap.size [.int .i64 0, .slice none 0 0, .slice none 0 0, .slice none 0 0, .slice none 0 0, .slice none 0 0, .slice none 0 0, .slice none 0 0] u11 := by rw [← hu11]; exact BoxN.new u7 _ _
        have geA : W5.heap.size ≤ u7.heap.size := bu7.size
        have nC := own_not oC0 (Nat.le_refl u7.heap.size)
        have ltAu11 : u7.heap.size < u11.heap.size := bx.lt
        refine HeldAll.opVal (i := 12) (oi := _) (d := some 10) (v := .pointer (some ⟨u7.heap.size, 0, none⟩)) (w2 := u11) rfl rfl (by rfl) (by rw [← hu11]; go_simp; done) (hSK _ bu11) ?_
        (try simp only [Act.put, List.setIfInBounds_toArray, List.set_cons_zero, List.set_cons_succ])
        refine HeldAll.one (i := 7) (by kernel_rfl) ?_
        skip
        have oC0 := oC
        obtain ⟨u12, hu12⟩ : ∃ V, u11.alloc (.cells #[.int .i64 bl] 3) = V := ⟨_, rfl⟩
        have su12 : Below u11.heap.size u11 u12 := by rw [← hu12]; exact (Below.refl _ _).alloc (Nat.le_refl _) _
        have bu12 : Below W5.heap.size W5 u12 := bu11.trans (su12.mono bu11.size)
        have oC := own_next oC su12
        have bx := bx.next su12 bx.lt
        have oB : u12.ownsRow u11.heap.size 3 1 (.slice (some ⟨u11.heap.size, 0, none⟩) 1 1) 1 (ints [bl]) := by rw [← hu12]; exact World.ownsRow_lit u11 #[.int .i64 bl] 1 (Nat.le_refl _) (by unfold maxLen; omega) rfl
        have nB := own_not' oB (N := u7.heap.size) ltAu11
        have ltAu12 : u7.heap.size < u12.heap.size := bx.lt
        refine HeldAll.opVal (i := 7) (oi := _) (d := some 30) (v := .slice (some ⟨u11.heap.size, 0, none⟩) 1 1) (w2 := u12) rfl rfl (by rfl) (by rw [← hu12]; go_simp; done) (hSK _ bu12) ?_
        (try simp only [Act.put, List.setIfInBounds_toArray, List.set_cons_zero, List.set_cons_succ])
        refine HeldAll.one (i := 11) (by kernel_rfl) ?_
        skip
        refine HeldAll.opVal (i := 11) (oi := _) (d := some 34) (v := .agg #[.int .i64 x.max, .slice none 0 0, .slice none 0 0, .slice none 0 0, .slice (some ⟨u11.heap.size, 0, none⟩) 1 1, .slice aC x.invs.length cC, .slice none 0 0, .slice none 0 0]) (w2 := u12) rfl rfl (by rfl) (by go_simp; done) (hSK _ bu12) ?_
        (try simp only [Act.put, List.setIfInBounds_toArray, List.set_cons_zero, List.set_cons_succ])
        have y0 := bx.at' 0 _ rfl
        have z0 := bx.fz 0
        have y1 := bx.at' 1 _ rfl
        have z1 := bx.fz 1
        have y2 := bx.at' 2 _ rfl
        have z2 := bx.fz 2
        have y3 := bx.at' 3 _ rfl
        have z3 := bx.fz 3
        have y4 := bx.at' 4 _ rfl
        have z4 := bx.fz 4
        have y5 := bx.at' 5 _ rfl
        have z5 := bx.fz 5
        have y6 := bx.at' 6 _ rfl
        have z6 := bx.fz 6
        have y7 := bx.at' 7 _ rfl
        have z7 := bx.fz 7
        refine HeldAll.one (i := 13) (by kernel_rfl) ?_
        refine HeldAll.opStore (i := 13) (oi := _) (d := none) (w2 := ((((((((u12.setCell ⟨u7.heap.size, 0, none⟩ (.int .i64 x.max)).setCell ⟨u7.heap.size, 1, none⟩ (.slice none 0 0)).setCell ⟨u7.heap.size, 2, none⟩ (.slice none 0 0)).setCell ⟨u7.heap.size, 3, none⟩ (.slice none 0 0)).setCell ⟨u7.heap.size, 4, none⟩ (.slice (some ⟨u11.heap.size, 0, none⟩) 1 1)).setCell ⟨u7.heap.size, 5, none⟩ (.slice aC x.invs.length cC)).setCell ⟨u7.heap.size, 6, none⟩ (.slice none 0 0)).setCell ⟨u7.heap.size, 7, none⟩ (.slice none 0 0))) rfl rfl (by rfl) (by go_simp; done) (hSK _ (below_set8 bu12 geA (.int .i64 x.max) (.slice none 0 0) (.slice none 0 0) (.slice none 0 0) (.slice (some ⟨u11.heap.size, 0, none⟩) 1 1) (.slice aC x.invs.length cC) (.slice none 0 0) (.slice none 0 0))) ?_
        (try simp only [Act.put, List.setIfInBounds_toArray, List.set_cons_zero, List.set_cons_succ])
        refine HeldAll.done (by kernel_rfl) ?_ _
        (try go_wp2_with fail)
        go_meet
        have hf1 := Lib.hid (box_set8 bx (.int .i64 x.max) (.slice none 0 0) (.slice none 0 0) (.slice none 0 0) (.slice (some ⟨u11.heap.size, 0, none⟩) 1 1) (.slice aC x.invs.length cC) (.slice none 0 0) (.slice none 0 0))
        have hf2 := Lib.hid (own_set8 (own_mono oB (bu11).size) nB (.int .i64 x.max) (.slice none 0 0) (.slice none 0 0) (.slice none 0 0) (.slice (some ⟨u11.heap.size, 0, none⟩) 1 1) (.slice aC x.invs.length cC) (.slice none 0 0) (.slice none 0 0))
        have hf3 := Lib.hid (own_set8 (own_mono oC (b0).size) nC (.int .i64 x.max) (.slice none 0 0) (.slice none 0 0) (.slice none 0 0) (.slice (some ⟨u11.heap.size, 0, none⟩) 1 1) (.slice aC x.invs.length cC) (.slice none 0 0) (.slice none 0 0))
        have hf4 := Lib.hid (below_set8 bu12 geA (.int .i64 x.max) (.slice none 0 0) (.slice none 0 0) (.slice none 0 0) (.slice (some ⟨u11.heap.size, 0, none⟩) 1 1) (.slice aC x.invs.length cC) (.slice none 0 0) (.slice none 0 0))
        exact ⟨u7.heap.size, u11.heap.size, aC, cC, rfl, geA, hf1, hf2, nB, hf3, nC, hf4⟩
    · skip
      obtain ⟨u13, hu13⟩ : ∃ V, u0.alloc (.cells #[.int .i64 0, .slice none 0 0, .slice none 0 0, .slice none 0 0, .slice none 0 0, .slice none 0 0, .slice none 0 0, .slice none 0 0] 27) = V := ⟨_, rfl⟩
      have su13 : Below u0.heap.size u0 u13 := by rw [← hu13]; exact (Below.refl _ _).alloc (Nat.le_refl _) _
      have bu13 : Below W5.heap.size W5 u13 := b0.trans (su13.mono b0.size)
      have bx : BoxN u0.heap.size [.int .i64 0, .slice none 0 0, .slice none 0 0, .slice none 0 0, .slice none 0 0, .slice none 0 0, .slice none 0 0, .slice none 0 0] u13 := by rw [← hu13]; exact BoxN.new u0 _ _
      have geA : W5.heap.size ≤ u0.heap.size := b0.size
      have ltAu13 : u0.heap.size < u13.heap.size := bx.lt
      refine HeldAll.opVal (i := 12) (oi := _) (d := some 10) (v := .pointer (some ⟨u0.heap.size, 0, none⟩)) (w2 := u13) rfl rfl (by rfl) (by rw [← hu13]; go_simp; done) (hSK _ bu13) ?_
      (try simp only [Act.put, List.setIfInBounds_toArray, List.set_cons_zero, List.set_cons_succ])
      refine HeldAll.two (i := 7) (j := 10) (by kernel_rfl) ?_ ?_
      · skip
        obtain ⟨u14, hu14⟩ : ∃ V, u13.alloc (.cells #[.int .i64 bl] 3) = V := ⟨_, rfl⟩
        have su14 : Below u13.heap.size u13 u14 := by rw [← hu14]; exact (Below.refl _ _).alloc (Nat.le_refl _) _
        have bu14 : Below W5.heap.size W5 u14 := bu13.trans (su14.mono bu13.size)
        have bx := bx.next su14 bx.lt
        have oB : u14.ownsRow u13.heap.size 3 1 (.slice (some ⟨u13.heap.size, 0, none⟩) 1 1) 1 (ints [bl]) := by rw [← hu14]; exact World.ownsRow_lit u13 #[.int .i64 bl] 1 (Nat.le_refl _) (by unfold maxLen; omega) rfl
        have nB := own_not' oB (N := u0.heap.size) ltAu13
        have ltAu14 : u0.heap.size < u14.heap.size := bx.lt
        refine HeldAll.opVal (i := 7) (oi := _) (d := some 30) (v := .slice (some ⟨u13.heap.size, 0, none⟩) 1 1) (w2 := u14) rfl rfl (by rfl) (by rw [← hu14]; go_simp; done) (hSK _ bu14) ?_
        (try simp only [Act.put, List.setIfInBounds_toArray, List.set_cons_zero, List.set_cons_succ])
        refine HeldAll.one (i := 10) (by kernel_rfl) ?_
        skip
        have oB0 := oB
        refine HeldAll.opCall (i := 10) (oi := _) (d := some 33) (R := fun v w' => ∃ a' c', v = .slice a' x.invs.length c' ∧ w'.ownsRow u14.heap.size 3 1 (.slice a' x.invs.length c') x.invs.length (ints x.invs) ∧ Below u14.heap.size u14 w') rfl rfl (by rfl) (by go_simp; done) ((HCL.out u14 bu14).mono fun e w' h => by obtain ⟨a', c', he, ho, hb⟩ := h; exact ⟨_, he, a', c', rfl, ho, hb⟩) ?_
        rintro v u15 ⟨aC, cC, rfl, oC, su15⟩
        have bu15 : Below W5.heap.size W5 u15 := bu14.trans (su15.mono bu14.size)
        have bx := bx.next su15 bx.lt
        have oB := own_next oB su15
        have nC := own_not' oC (N := u0.heap.size) ltAu14
        have ltAu15 : u0.heap.size < u15.heap.size := bx.lt
        refine ⟨hSK _ bu15, ?_⟩
        (try simp only [Act.put, List.setIfInBounds_toArray, List.set_cons_zero, List.set_cons_succ])
        refine HeldAll.one (i := 11) (by kernel_rfl) ?_
        skip
        refine HeldAll.opVal (i := 11) (oi := _) (d := some 34) (v := .agg #[.int .i64 x.max, .slice none 0 0, .slice none 0 0, .slice none 0 0, .slice (some ⟨u13.heap.size, 0, none⟩) 1 1, .slice aC x.invs.length cC, .slice none 0 0, .slice none 0 0]) (w2 := u15) rfl rfl (by rfl) (by go_simp; done) (hSK _ bu15) ?_
        (try simp only [Act.put, List.setIfInBounds_toArray, List.set_cons_zero, List.set_cons_succ])
        have y0 := bx.at' 0 _ rfl
        have z0 := bx.fz 0
        have y1 := bx.at' 1 _ rfl
        have z1 := bx.fz 1
        have y2 := bx.at' 2 _ rfl
        have z2 := bx.fz 2
        have y3 := bx.at' 3 _ rfl
        have z3 := bx.fz 3
        have y4 := bx.at' 4 _ rfl
        have z4 := bx.fz 4
        have y5 := bx.at' 5 _ rfl
        have z5 := bx.fz 5
        have y6 := bx.at' 6 _ rfl
        have z6 := bx.fz 6
        have y7 := bx.at' 7 _ rfl
        have z7 := bx.fz 7
        refine HeldAll.one (i := 13) (by kernel_rfl) ?_
        refine HeldAll.opStore (i := 13) (oi := _) (d := none) (w2 := ((((((((u15.setCell ⟨u0.heap.size, 0, none⟩ (.int .i64 x.max)).setCell ⟨u0.heap.size, 1, none⟩ (.slice none 0 0)).setCell ⟨u0.heap.size, 2, none⟩ (.slice none 0 0)).setCell ⟨u0.heap.size, 3, none⟩ (.slice none 0 0)).setCell ⟨u0.heap.size, 4, none⟩ (.slice (some ⟨u13.heap.size, 0, none⟩) 1 1)).setCell ⟨u0.heap.size, 5, none⟩ (.slice aC x.invs.length cC)).setCell ⟨u0.heap.size, 6, none⟩ (.slice none 0 0)).setCell ⟨u0.heap.size, 7, none⟩ (.slice none 0 0))) rfl rfl (by rfl) (by go_simp; done) (hSK _ (below_set8 bu15 geA (.int .i64 x.max) (.slice none 0 0) (.slice none 0 0) (.slice none 0 0) (.slice (some ⟨u13.heap.size, 0, none⟩) 1 1) (.slice aC x.invs.length cC) (.slice none 0 0) (.slice none 0 0))) ?_
        (try simp only [Act.put, List.setIfInBounds_toArray, List.set_cons_zero, List.set_cons_succ])
        refine HeldAll.done (by kernel_rfl) ?_ _
        (try go_wp2_with fail)
        go_meet
        have hf1 := Lib.hid (box_set8 bx (.int .i64 x.max) (.slice none 0 0) (.slice none 0 0) (.slice none 0 0) (.slice (some ⟨u13.heap.size, 0, none⟩) 1 1) (.slice aC x.invs.length cC) (.slice none 0 0) (.slice none 0 0))
        have hf2 := Lib.hid (own_set8 (own_mono oB (bu13).size) nB (.int .i64 x.max) (.slice none 0 0) (.slice none 0 0) (.slice none 0 0) (.slice (some ⟨u13.heap.size, 0, none⟩) 1 1) (.slice aC x.invs.length cC) (.slice none 0 0) (.slice none 0 0))
        have hf3 := Lib.hid (own_set8 (own_mono oC (bu14).size) nC (.int .i64 x.max) (.slice none 0 0) (.slice none 0 0) (.slice none 0 0) (.slice (some ⟨u13.heap.size, 0, none⟩) 1 1) (.slice aC x.invs.length cC) (.slice none 0 0) (.slice none 0 0))
        have hf4 := Lib.hid (below_set8 bu15 geA (.int .i64 x.max) (.slice none 0 0) (.slice none 0 0) (.slice none 0 0) (.slice (some ⟨u13.heap.size, 0, none⟩) 1 1) (.slice aC x.invs.length cC) (.slice none 0 0) (.slice none 0 0))
        exact ⟨u0.heap.size, u13.heap.size, aC, cC, rfl, geA, hf1, hf2, nB, hf3, nC, hf4⟩
      · skip
        refine HeldAll.opCall (i := 10) (oi := _) (d := some 33) (R := fun v w' => ∃ a' c', v = .slice a' x.invs.length c' ∧ w'.ownsRow u13.heap.size 3 1 (.slice a' x.invs.length c') x.invs.length (ints x.invs) ∧ Below u13.heap.size u13 w') rfl rfl (by rfl) (by go_simp; done) ((HCL.out u13 bu13).mono fun e w' h => by obtain ⟨a', c', he, ho, hb⟩ := h; exact ⟨_, he, a', c', rfl, ho, hb⟩) ?_
        rintro v u16 ⟨aC, cC, rfl, oC, su16⟩
        have bu16 : Below W5.heap.size W5 u16 := bu13.trans (su16.mono bu13.size)
        have bx := bx.next su16 bx.lt
        have nC := own_not' oC (N := u0.heap.size) ltAu13
        have ltAu16 : u0.heap.size < u16.heap.size := bx.lt
        refine ⟨hSK _ bu16, ?_⟩
        (try simp only [Act.put, List.setIfInBounds_toArray, List.set_cons_zero, List.set_cons_succ])
        refine HeldAll.one (i := 7) (by kernel_rfl) ?_
        skip
        have oC0 := oC
        obtain ⟨u17, hu17⟩ : ∃ V, u16.alloc (.cells #[.int .i64 bl] 3) = V := ⟨_, rfl⟩
        have su17 : Below u16.heap.size u16 u17 := by rw [← hu17]; exact (Below.refl _ _).alloc (Nat.le_refl _) _
        have bu17 : Below W5.heap.size W5 u17 := bu16.trans (su17.mono bu16.size)
        have bx := bx.next su17 bx.lt
        have oC := own_next oC su17
        have oB : u17.ownsRow u16.heap.size 3 1 (.slice (some ⟨u16.heap.size, 0, none⟩) 1 1) 1 (ints [bl]) := by rw [← hu17]; exact World.ownsRow_lit u16 #[.int .i64 bl] 1 (Nat.le_refl _) (by unfold maxLen; omega) rfl
        have nB := own_not' oB (N := u0.heap.size) ltAu16
        have ltAu17 : u0.heap.size < u17.heap.size := bx.lt
        refine HeldAll.opVal (i := 7) (oi := _) (d := some 30) (v := .slice (some ⟨u16.heap.size, 0, none⟩) 1 1) (w2 := u17) rfl rfl (by rfl) (by rw [← hu17]; go_simp; done) (hSK _ bu17) ?_
        (try simp only [Act.put, List.setIfInBounds_toArray, List.set_cons_zero, List.set_cons_succ])
        refine HeldAll.one (i := 11) (by kernel_rfl) ?_
        skip
        refine HeldAll.opVal (i := 11) (oi := _) (d := some 34) (v := .agg #[.int .i64 x.max, .slice none 0 0, .slice none 0 0, .slice none 0 0, .slice (some ⟨u16.heap.size, 0, none⟩) 1 1, .slice aC x.invs.length cC, .slice none 0 0, .slice none 0 0]) (w2 := u17) rfl rfl (by rfl) (by go_simp; done) (hSK _ bu17) ?_
        (try simp only [Act.put, List.setIfInBounds_toArray, List.set_cons_zero, List.set_cons_succ])
        have y0 := bx.at' 0 _ rfl
        have z0 := bx.fz 0
        have y1 := bx.at' 1 _ rfl
        have z1 := bx.fz 1
        have y2 := bx.at' 2 _ rfl
        have z2 := bx.fz 2
        have y3 := bx.at' 3 _ rfl
        have z3 := bx.fz 3
        have y4 := bx.at' 4 _ rfl
        have z4 := bx.fz 4
        have y5 := bx.at' 5 _ rfl
        have z5 := bx.fz 5
        have y6 := bx.at' 6 _ rfl
        have z6 := bx.fz 6
        have y7 := bx.at' 7 _ rfl
        have z7 := bx.fz 7
        refine HeldAll.one (i := 13) (by kernel_rfl) ?_
        refine HeldAll.opStore (i := 13) (oi := _) (d := none) (w2 := ((((((((u17.setCell ⟨u0.heap.size, 0, none⟩ (.int .i64 x.max)).setCell ⟨u0.heap.size, 1, none⟩ (.slice none 0 0)).setCell ⟨u0.heap.size, 2, none⟩ (.slice none 0 0)).setCell ⟨u0.heap.size, 3, none⟩ (.slice none 0 0)).setCell ⟨u0.heap.size, 4, none⟩ (.slice (some ⟨u16.heap.size, 0, none⟩) 1 1)).setCell ⟨u0.heap.size, 5, none⟩ (.slice aC x.invs.length cC)).setCell ⟨u0.heap.size, 6, none⟩ (.slice none 0 0)).setCell ⟨u0.heap.size, 7, none⟩ (.slice none 0 0))) rfl rfl (by rfl) (by go_simp; done) (hSK _ (below_set8 bu17 geA (.int .i64 x.max) (.slice none 0 0) (.slice none 0 0) (.slice none 0 0) (.slice (some ⟨u16.heap.size, 0, none⟩) 1 1) (.slice aC x.invs.length cC) (.slice none 0 0) (.slice none 0 0))) ?_
        (try simp only [Act.put, List.setIfInBounds_toArray, List.set_cons_zero, List.set_cons_succ])
        refine HeldAll.done (by kernel_rfl) ?_ _
        (try go_wp2_with fail)
        go_meet
        have hf1 := Lib.hid (box_set8 bx (.int .i64 x.max) (.slice none 0 0) (.slice none 0 0) (.slice none 0 0) (.slice (some ⟨u16.heap.size, 0, none⟩) 1 1) (.slice aC x.invs.length cC) (.slice none 0 0) (.slice none 0 0))
        have hf2 := Lib.hid (own_set8 (own_mono oB (bu16).size) nB (.int .i64 x.max) (.slice none 0 0) (.slice none 0 0) (.slice none 0 0) (.slice (some ⟨u16.heap.size, 0, none⟩) 1 1) (.slice aC x.invs.length cC) (.slice none 0 0) (.slice none 0 0))
        have hf3 := Lib.hid (own_set8 (own_mono oC (bu13).size) nC (.int .i64 x.max) (.slice none 0 0) (.slice none 0 0) (.slice none 0 0) (.slice (some ⟨u16.heap.size, 0, none⟩) 1 1) (.slice aC x.invs.length cC) (.slice none 0 0) (.slice none 0 0))
        have hf4 := Lib.hid (below_set8 bu17 geA (.int .i64 x.max) (.slice none 0 0) (.slice none 0 0) (.slice none 0 0) (.slice (some ⟨u16.heap.size, 0, none⟩) 1 1) (.slice aC x.invs.length cC) (.slice none 0 0) (.slice none 0 0))
        exact ⟨u0.heap.size, u16.heap.size, aC, cC, rfl, geA, hf1, hf2, nB, hf3, nC, hf4⟩
  case rest =>
    obtain ⟨N10, gB, aC, cC, rfl, HGE, HX10, HOB, HNB, HOC, HNC, HB10⟩ := hcut
    generalize wc = w10 at *
    have HFI : Hid (DelN.fl (fun m => !SetI.inX X (var m)) x.ins = (reduced x l bl).ins) := fl_cnt HX.out (fun m => m) x.ins
    have HFL : Hid (DelL.fl (fun t => !SetI.inX X (var t.1)) x.lats = (reduced x l bl).lats) := fl_cnt HX.out (fun t : Tri => t.1) x.lats
    have HFA : Hid (DelA.fl (fun t => !SetI.inX X (var t.1)) x.ands = (reduced x l bl).ands) := fl_cnt HX.out (fun t : Tri => t.1) x.ands
    have HXw10 := HX10
    have HBw10 := HB10
    have HOBw10 := HOB
    have HOCw10 := HOC
    have HNB := HNB
    have HNC := HNC
    clear HX10 HB10 HOB HOC
    have m1 := (HC2.out.next (HB5.out.trans (HBw10.out.mono HB5.out.size)) (Nat.le_refl _)).k1
    have HCLOI := Lib.hid (CloneI.clone w10 a1 x.ins.length c1 (ints x.ins) (HIN.out w10 (HB12.out.trans ((HB5.out.trans (HBw10.out.mono HB5.out.size)).mono HB12.out.size))).ins (Base.ints_one _) (by have := HSZ.out; omega))
    go_wp2_with fail
    clear m1
    with_reducible refine HCLOI.out.mono ?_
    rintro e w11 ⟨aI, cI, rfl, ho, hb⟩
    have hWb : Below W5.heap.size W5 w11 := HBw10.out.trans (hb.mono HBw10.out.size)
    have HDELI := Lib.hid (DelN.del_own w11 w10.heap.size aI x.ins.length cI x.ins rfl (by rw [DelN.tris_flat]; exact ho) hb.size 27 #[.pointer (some ⟨w4.heap.size, 0, none⟩)] (fun m => !SetI.inX X (var m)) eg_r1 (fun W hgW t ht => by
      have hBW : Below W5.heap.size W5 W := hWb.grown hgW hWb.size (fun q hq => Nat.le_trans HBw10.out.size (ho.lt q hq).1)
      exact (red1_any W w4.heap.size mb X.length X ((HX5.out.next hBW HX5.out.lt).at' 0 _ rfl) (HSET.out.next hBW) t (HW.out.ins t ht).1 (HW.out.ins t ht).2).mono fun e w' h => ⟨h.1, h.2 ▸ Below.refl _ _⟩))
    rw [HFI.out] at HDELI
    have HO0 := Lib.hid ho
    have HBC := Lib.hid hb
    clear ho hb hWb
    go_wp2_with fail
    with_reducible refine HDELI.out.mono ?_
    rintro e w12 ⟨nI, rfl, hnI, hoD, hgD⟩
    subst hnI
    have bad : Below w10.heap.size w10 w12 := HBC.out.grown hgD HBC.out.size (fun q hq => (HO0.out.lt q hq).1)
    have hx := HXw10.out.next bad HXw10.out.lt
    have y1 := hx.at' 1 _ rfl
    have z1 := hx.fz 1
    obtain ⟨w13, hw13⟩ : ∃ U, w12.setCell ⟨N10, 1, none⟩ (.slice aI (reduced x l bl).ins.length cI) = U := ⟨_, rfl⟩
    have HXw13 := Lib.hid (hx.set 1 (.slice aI (reduced x l bl).ins.length cI))
    rw [hw13] at HXw13
    have HBw13 := Lib.hid ((HBw10.out.trans (bad.mono HBw10.out.size)).setCell (p := ⟨N10, 1, none⟩) HGE.out (.slice aI (reduced x l bl).ins.length cI))
    rw [hw13] at HBw13
    have HOBw13 := Lib.hid (ownsRow_setCell_other (own_next HOBw10.out bad) (a := ⟨N10, 1, none⟩) (fun e => HNB.out (by first | exact e | exact e.symm)) (.slice aI (reduced x l bl).ins.length cI))
    rw [hw13] at HOBw13
    have HOCw13 := Lib.hid (ownsRow_setCell_other (own_next HOCw10.out bad) (a := ⟨N10, 1, none⟩) (fun e => HNC.out (by first | exact e | exact e.symm)) (.slice aI (reduced x l bl).ins.length cI))
    rw [hw13] at HOCw13
    have HNI : Hid ((Value.slice aI (reduced x l bl).ins.length cI).ownBlock ≠ some N10) := own_not' hoD (Nat.lt_of_lt_of_le HXw10.out.lt (Nat.le_refl _))
    have HOIw13 := Lib.hid (ownsRow_setCell_other hoD (a := ⟨N10, 1, none⟩) (fun e => HNI.out (by first | exact e | exact e.symm)) (.slice aI (reduced x l bl).ins.length cI))
    rw [hw13] at HOIw13
    clear hoD hgD bad hx HO0 HBC
    have m2 := (HC2.out.next (HB5.out.trans (HBw13.out.mono HB5.out.size)) (Nat.le_refl _)).k2
    have HCLOL := Lib.hid (CloneT.latches w13 a2 x.lats.length c2 (tris x.lats) (HIN.out w13 (HB12.out.trans ((HB5.out.trans (HBw13.out.mono HB5.out.size)).mono HB12.out.size))).lats (tris_one _) (tris_row _) (by have := HSZ.out; omega))
    go_wp2_with fail
    clear m2
    with_reducible refine HCLOL.out.mono ?_
    rintro e w14 ⟨aL, cL, rfl, ho, hb⟩
    have hWb : Below W5.heap.size W5 w14 := HBw13.out.trans (hb.mono HBw13.out.size)
    have HDELL := Lib.hid (DelL.del_own w14 w13.heap.size aL x.lats.length cL x.lats rfl ho hb.size 31 #[.pointer (some ⟨w4.heap.size, 0, none⟩)] (fun t => !SetI.inX X (var t.1)) eg_r2 (fun W hgW t ht => by
      have hBW : Below W5.heap.size W5 W := hWb.grown hgW hWb.size (fun q hq => Nat.le_trans HBw13.out.size (ho.lt q hq).1)
      exact red2_any W w4.heap.size mb X.length X (HX5.out.next hBW HX5.out.lt).lt ((HX5.out.next hBW HX5.out.lt).at' 0 _ rfl) (HSET.out.next hBW) t (HW.out.lats t ht).1.1 (HW.out.lats t ht).1.2))
    rw [HFL.out] at HDELL
    have HO0 := Lib.hid ho
    have HBC := Lib.hid hb
    clear ho hb hWb
    go_wp2_with fail
    with_reducible refine HDELL.out.mono ?_
    rintro e w15 ⟨nL, rfl, hnL, hoD, hgD⟩
    subst hnL
    have bad : Below w13.heap.size w13 w15 := HBC.out.grown hgD HBC.out.size (fun q hq => (HO0.out.lt q hq).1)
    have hx := HXw13.out.next bad HXw13.out.lt
    have y2 := hx.at' 2 _ rfl
    have z2 := hx.fz 2
    obtain ⟨w16, hw16⟩ : ∃ U, w15.setCell ⟨N10, 2, none⟩ (.slice aL (reduced x l bl).lats.length cL) = U := ⟨_, rfl⟩
    have HXw16 := Lib.hid (hx.set 2 (.slice aL (reduced x l bl).lats.length cL))
    rw [hw16] at HXw16
    have HBw16 := Lib.hid ((HBw13.out.trans (bad.mono HBw13.out.size)).setCell (p := ⟨N10, 2, none⟩) HGE.out (.slice aL (reduced x l bl).lats.length cL))
    rw [hw16] at HBw16
    have HOBw16 := Lib.hid (ownsRow_setCell_other (own_next HOBw13.out bad) (a := ⟨N10, 2, none⟩) (fun e => HNB.out (by first | exact e | exact e.symm)) (.slice aL (reduced x l bl).lats.length cL))
    rw [hw16] at HOBw16
    have HOCw16 := Lib.hid (ownsRow_setCell_other (own_next HOCw13.out bad) (a := ⟨N10, 2, none⟩) (fun e => HNC.out (by first | exact e | exact e.symm)) (.slice aL (reduced x l bl).lats.length cL))
    rw [hw16] at HOCw16
    have HOIw16 := Lib.hid (ownsRow_setCell_other (own_next HOIw13.out bad) (a := ⟨N10, 2, none⟩) (fun e => HNI.out (by first | exact e | exact e.symm)) (.slice aL (reduced x l bl).lats.length cL))
    rw [hw16] at HOIw16
    have HNL : Hid ((Value.slice aL (reduced x l bl).lats.length cL).ownBlock ≠ some N10) := own_not' hoD (Nat.lt_of_lt_of_le HXw13.out.lt (Nat.le_refl _))
    have HOLw16 := Lib.hid (ownsRow_setCell_other hoD (a := ⟨N10, 2, none⟩) (fun e => HNL.out (by first | exact e | exact e.symm)) (.slice aL (reduced x l bl).lats.length cL))
    rw [hw16] at HOLw16
    clear hoD hgD bad hx HO0 HBC
    have m6 := (HC2.out.next (HB5.out.trans (HBw16.out.mono HB5.out.size)) (Nat.le_refl _)).k6
    have HCLOA := Lib.hid (CloneT.ands w16 a6 x.ands.length c6 (tris x.ands) (HIN.out w16 (HB12.out.trans ((HB5.out.trans (HBw16.out.mono HB5.out.size)).mono HB12.out.size))).ands (tris_one _) (tris_row _) (by have := HZ3.out; omega))
    go_wp2_with fail
    clear m6
    with_reducible refine HCLOA.out.mono ?_
    rintro e w17 ⟨aA, cA, rfl, ho, hb⟩
    have hWb : Below W5.heap.size W5 w17 := HBw16.out.trans (hb.mono HBw16.out.size)
    have HDELA := Lib.hid (DelA.del_own w17 w16.heap.size aA x.ands.length cA x.ands rfl ho hb.size 34 #[.pointer (some ⟨w4.heap.size, 0, none⟩)] (fun t => !SetI.inX X (var t.1)) eg_r3 (fun W hgW t ht => by
      have hBW : Below W5.heap.size W5 W := hWb.grown hgW hWb.size (fun q hq => Nat.le_trans HBw16.out.size (ho.lt q hq).1)
      exact red3_any W w4.heap.size mb X.length X (HX5.out.next hBW HX5.out.lt).lt ((HX5.out.next hBW HX5.out.lt).at' 0 _ rfl) (HSET.out.next hBW) t (HW.out.ands t ht).1.1 (HW.out.ands t ht).1.2))
    rw [HFA.out] at HDELA
    have HO0 := Lib.hid ho
    have HBC := Lib.hid hb
    clear ho hb hWb
    go_wp2_with fail
    with_reducible refine HDELA.out.mono ?_
    rintro e w18 ⟨nA, rfl, hnA, hoD, hgD⟩
    subst hnA
    have bad : Below w16.heap.size w16 w18 := HBC.out.grown hgD HBC.out.size (fun q hq => (HO0.out.lt q hq).1)
    have hx := HXw16.out.next bad HXw16.out.lt
    have y6 := hx.at' 6 _ rfl
    have z6 := hx.fz 6
    obtain ⟨w19, hw19⟩ : ∃ U, w18.setCell ⟨N10, 6, none⟩ (.slice aA (reduced x l bl).ands.length cA) = U := ⟨_, rfl⟩
    have HXw19 := Lib.hid (hx.set 6 (.slice aA (reduced x l bl).ands.length cA))
    rw [hw19] at HXw19
    have HBw19 := Lib.hid ((HBw16.out.trans (bad.mono HBw16.out.size)).setCell (p := ⟨N10, 6, none⟩) HGE.out (.slice aA (reduced x l bl).ands.length cA))
    rw [hw19] at HBw19
    have HOBw19 := Lib.hid (ownsRow_setCell_other (own_next HOBw16.out bad) (a := ⟨N10, 6, none⟩) (fun e => HNB.out (by first | exact e | exact e.symm)) (.slice aA (reduced x l bl).ands.length cA))
    rw [hw19] at HOBw19
    have HOCw19 := Lib.hid (ownsRow_setCell_other (own_next HOCw16.out bad) (a := ⟨N10, 6, none⟩) (fun e => HNC.out (by first | exact e | exact e.symm)) (.slice aA (reduced x l bl).ands.length cA))
    rw [hw19] at HOCw19
    have HOIw19 := Lib.hid (ownsRow_setCell_other (own_next HOIw16.out bad) (a := ⟨N10, 6, none⟩) (fun e => HNI.out (by first | exact e | exact e.symm)) (.slice aA (reduced x l bl).ands.length cA))
    rw [hw19] at HOIw19
    have HOLw19 := Lib.hid (ownsRow_setCell_other (own_next HOLw16.out bad) (a := ⟨N10, 6, none⟩) (fun e => HNL.out (by first | exact e | exact e.symm)) (.slice aA (reduced x l bl).ands.length cA))
    rw [hw19] at HOLw19
    have HNA : Hid ((Value.slice aA (reduced x l bl).ands.length cA).ownBlock ≠ some N10) := own_not' hoD (Nat.lt_of_lt_of_le HXw16.out.lt (Nat.le_refl _))
    have HOAw19 := Lib.hid (ownsRow_setCell_other hoD (a := ⟨N10, 6, none⟩) (fun e => HNA.out (by first | exact e | exact e.symm)) (.slice aA (reduced x l bl).ands.length cA))
    rw [hw19] at HOAw19
    clear hoD hgD bad hx HO0 HBC
    have hx : BoxN N10 [.int .i64 x.max, .slice aI (reduced x l bl).ins.length cI, .slice aL (reduced x l bl).lats.length cL, .slice none 0 0, .slice (some ⟨gB, 0, none⟩) 1 1, .slice aC x.invs.length cC, .slice aA (reduced x l bl).ands.length cA, .slice none 0 0] w19 := HXw19.out
    have m0 := hx.at' 0 _ rfl
    have m1 := hx.at' 1 _ rfl
    have m2 := hx.at' 2 _ rfl
    have m3 := hx.at' 3 _ rfl
    have m4 := hx.at' 4 _ rfl
    have m5 := hx.at' 5 _ rfl
    have m6 := hx.at' 6 _ rfl
    have m7 := hx.at' 7 _ rfl
    have hWR : Below W2.heap.size W2 w19 := HB5.out.trans (HBw19.out.mono HB5.out.size)
    have hr := HX2.out.next hWR HX2.out.lt
    clear y1 z1 y2 z2
    have r0 := hr.at' 0 _ rfl
    have r1 := hr.at' 1 _ rfl
    have r2 := hr.at' 2 _ rfl
    have r3 := hr.at' 3 _ rfl
    have r4 := hr.at' 4 _ rfl
    have r5 := hr.at' 5 _ rfl
    have r6 := hr.at' 6 _ rfl
    have r7 := hr.at' 7 _ rfl
    have rz0 := hr.fz 0
    have rz1 := hr.fz 1
    have rz2 := hr.fz 2
    have rz3 := hr.fz 3
    have rz4 := hr.fz 4
    have rz5 := hr.fz 5
    have rz6 := hr.fz 6
    have rz7 := hr.fz 7
    have HWR := Lib.hid hWR
    clear hx hr hWR
    go_wp2_with fail
    refine bodyPost_ret (v := .tuple #[.agg #[.int .i64 x.max, .slice aI (reduced x l bl).ins.length cI, .slice aL (reduced x l bl).lats.length cL, .slice none 0 0, .slice (some ⟨gB, 0, none⟩) 1 1, .slice aC x.invs.length cC, .slice aA (reduced x l bl).ands.length cA, .slice none 0 0], .int .i64 0]) (by simp [results, Tryz.results10, go_sem, r0, r1, r2, r3, r4, r5, r6, r7]) rfl ?_
    have hW15 : W1.heap.size < W5.heap.size := Nat.lt_of_lt_of_le HX2.out.lt HB5.out.size
    have gI := own_mono HOIw19.out HBw10.out.size
    rw [DelN.tris_flat] at gI
    have gL := own_mono HOLw19.out HBw13.out.size
    have gA := own_mono HOAw19.out HBw16.out.size
    have fI := own_set8 gI (own_not' gI hW15) (.int .i64 x.max) (.slice aI (reduced x l bl).ins.length cI) (.slice aL (reduced x l bl).lats.length cL) (.slice none 0 0) (.slice (some ⟨gB, 0, none⟩) 1 1) (.slice aC x.invs.length cC) (.slice aA (reduced x l bl).ands.length cA) (.slice none 0 0)
    have fL := own_set8 gL (own_not' gL hW15) (.int .i64 x.max) (.slice aI (reduced x l bl).ins.length cI) (.slice aL (reduced x l bl).lats.length cL) (.slice none 0 0) (.slice (some ⟨gB, 0, none⟩) 1 1) (.slice aC x.invs.length cC) (.slice aA (reduced x l bl).ands.length cA) (.slice none 0 0)
    have fA := own_set8 gA (own_not' gA hW15) (.int .i64 x.max) (.slice aI (reduced x l bl).ins.length cI) (.slice aL (reduced x l bl).lats.length cL) (.slice none 0 0) (.slice (some ⟨gB, 0, none⟩) 1 1) (.slice aC x.invs.length cC) (.slice aA (reduced x l bl).ands.length cA) (.slice none 0 0)
    have fB := own_set8 HOBw19.out (own_not' HOBw19.out hW15) (.int .i64 x.max) (.slice aI (reduced x l bl).ins.length cI) (.slice aL (reduced x l bl).lats.length cL) (.slice none 0 0) (.slice (some ⟨gB, 0, none⟩) 1 1) (.slice aC x.invs.length cC) (.slice aA (reduced x l bl).ands.length cA) (.slice none 0 0)
    have fC := own_set8 HOCw19.out (own_not' HOCw19.out hW15) (.int .i64 x.max) (.slice aI (reduced x l bl).ins.length cI) (.slice aL (reduced x l bl).lats.length cL) (.slice none 0 0) (.slice (some ⟨gB, 0, none⟩) 1 1) (.slice aC x.invs.length cC) (.slice aA (reduced x l bl).ands.length cA) (.slice none 0 0)
    have hfin := below_set8 (N := W1.heap.size) (HB12.out.trans (HWR.out.mono HB12.out.size)) (Nat.le_of_lt HLT1.out) (.int .i64 x.max) (.slice aI (reduced x l bl).ins.length cI) (.slice aL (reduced x l bl).lats.length cL) (.slice none 0 0) (.slice (some ⟨gB, 0, none⟩) 1 1) (.slice aC x.invs.length cC) (.slice aA (reduced x l bl).ands.length cA) (.slice none 0 0)
    exact ⟨⟨aI, cI, aL, cL, none, 0, some ⟨gB, 0, none⟩, 1, aC, cC, aA, cA, none, 0⟩, rfl, ⟨own_sl' fI, own_slT' (tris_row _) (tris_len _) fL, Sl.nil _, own_sl' fB, own_sl' fC, own_slT' (tris_row _) (tris_len _) fA, slT_none _ 3⟩, hfin⟩
end Coi
end Go.Proofs.YtninglnchengeaaGreatDoor

/-
  slices.Sorted(maps.Keys(m)) at map[int]bool: the keys, sorted.
-/
namespace Go.Proofs.YtninglnchengeaaGreatDoor
open Go.RowKit Base
set_option linter.unusedVariables false
namespace SortedN
open SortedK
open Go.Maps Go.Sort Go.Shelf

def keysN_ren : Go.Shelf.Ren := ⟨fun | 7 => 42 | 10 => 70 | n => n, fun | 23 => 66 | 26 => 3 | 3 => 4 | 28 => 84 | 0 => 0 | 27 => 83 | 33 => 70 | 4 => 4 | n => n, fun | n => n⟩
theorem keysN : Go.Proofs.SlLaysZI.n7 Tryz.prog keysN_ren := {
  mixed := by kernel_rfl
  f7 := ⟨Tryz.f42.name, by decide, Tryz.func42.trans (congrArg some (by kernel_rfl))⟩
  f10 := ⟨Tryz.f70.name, by decide, Tryz.func70.trans (congrArg some (by kernel_rfl))⟩
  t0 := Tryz.underlying0
  a0 := Tryz.isAgg0
  z0 := Tryz.sizeOf0
  v0 := Tryz.zeroValue0
  t4 := Tryz.underlying4
  a4 := Tryz.isAgg4
  z4 := Tryz.sizeOf4
  v4 := Tryz.zeroValue4
  t23 := Tryz.underlying66
  a23 := Tryz.isAgg66
  z23 := Tryz.sizeOf66
  v23 := Tryz.zeroValue66
  t26 := Tryz.underlying3
  a26 := Tryz.isAgg3
  z26 := Tryz.sizeOf3
  v26 := Tryz.zeroValue3
  t27 := Tryz.underlying83
  a27 := Tryz.isAgg83
  z27 := Tryz.sizeOf83
  v27 := Tryz.zeroValue83
  t28 := Tryz.underlying84
  a28 := Tryz.isAgg84
  z28 := Tryz.sizeOf84
  v28 := Tryz.zeroValue84
  t33 := Tryz.underlying70
  a33 := Tryz.isAgg70
  z33 := Tryz.sizeOf70
  v33 := Tryz.zeroValue70 }

theorem keys_any (mb : Option Nat) (w : World) : Calls Tryz.prog 42 #[.map mb] w fun e w' => e = .returned (.func (.func 70) #[] #[.pointer (some ⟨w.heap.size, 0, none⟩)]) ∧ w' = w.alloc (.cells #[.map mb] 66) :=
  (callsIn_wide (n := 5)).1 (AnyZI.keys_in keysN Fence.wide 5 trivial rfl mb w)

set_option maxHeartbeats 1000000 in
theorem sorted_any {H : Type} (b nn : Nat) (D0 : DataW H) (R : Value → Option (DataW H × List MemPlace)) (w : World) (hown : w.ownsMap Tryz.prog 3 R b nn D0) (hmax : Maps.size D0 ≤ maxLen) (hbytes : Maps.size D0 * 8 ≤ 140737488355328) :
    Calls Tryz.prog 41 #[.func (.func 70) #[] #[.pointer (some ⟨w.heap.size, 0, none⟩)]] (w.alloc (.cells #[.map (some b)] 66)) fun e w' => ∃ (v : Value) (ss : List Int), e = .returned v ∧ ss.Perm (intKeys D0) ∧
      w'.ownsRow w.heap.size 3 1 v ss.length ((ss.mergeSort (fun x y => decide (x ≤ y))).map encZ) ∧ (v = .slice none 0 0 ↔ ss = []) ∧ Below w.heap.size w w' := by
  refine (callsIn_wide (n := 5)).1 ?_
  have hbl := hown.lt
  have hseq : SeqGives Fence.wide 2 Tryz.prog 70 #[.pointer (some ⟨w.heap.size, 0, none⟩)] encZ (fun ss => ss.Perm (intKeys D0)) (Maps.size D0) (w.alloc (.cells #[.map (some b)] 66)) :=
    AnyZI.keys_gives (ρ := keysN_ren) { keysN with } Fence.wide _ trivial rfl (by omega) w.heap.size b nn D0 _ (by simp) (by simp) (by
      obtain ⟨es, clock, hb, Ft, hs, hD⟩ := hown
      exact ⟨es, clock, (Below.heap_alloc _ _ b hbl).trans hb, Ft, hs, hD⟩)
  have cS := AnyZI.sorted_in sortedA Fence.wide 5 trivial trivial trivial trivial rfl (by omega) (sortsA _) (enters_of Tryz.func69 (by kernel_rfl) rfl) 70 #[.pointer (some ⟨w.heap.size, 0, none⟩)] trivial (enters_of Tryz.func70 (by kernel_rfl) rfl) _ _ hmax hbytes _ hseq
  refine cS.mono ?_
  rintro e w' ⟨v, ss, he, hS, hrow, hnil, hb⟩
  exact ⟨v, ss, he, hS, ownsRow_base_a hrow (by simp), hnil, ((Below.refl _ w).alloc (Nat.le_refl _) _).trans (hb.mono (by simp))⟩

end SortedN
end Go.Proofs.YtninglnchengeaaGreatDoor

/-
  interlockplain.Ints: are two lists of integers one?
-/
namespace Go.Proofs.YtninglnchengeaaGreatDoor
open Go.RowKit Base
set_option linter.unusedVariables false
namespace Plain

theorem take_all {xs ys : List Int} (h : xs.length = ys.length) : xs.take xs.length = ys.take xs.length → xs = ys := by
  intro e
  rw [List.take_length, h, List.take_length] at e
  exact e

theorem take_more {xs ys : List Int} {k : Nat} (hx : k < xs.length) (hy : k < ys.length) (h : xs.take k = ys.take k) (e : xs[k] = ys[k]) : xs.take (k + 1) = ys.take (k + 1) := by
  rw [List.take_succ_eq_append_getElem hx, List.take_succ_eq_append_getElem hy, h, e]

set_option maxHeartbeats 1000000 in
theorem ints_any (w : World) (a1 a2 : Option Addr) (n1 n2 c1 c2 : Nat) (xs ys : List Int) (h1 : Sl w a1 n1 c1 (ints xs)) (h2 : Sl w a2 n2 c2 (ints ys)) :
    Calls Tryz.prog 15 #[.slice a1 n1 c1, .slice a2 n2 c2] w fun e w' => e = .returned (.bool (decide (xs = ys))) ∧ Below w.heap.size w w' := by
  have l1 : xs.length = n1 := by have := h1.len; rw [ints_len] at this; exact this
  have l2 : ys.length = n2 := by have := h2.len; rw [ints_len] at this; exact this
  have hb1 := h1.cap
  have hb2 := h1.big
  by_cases hn : n1 = n2
  · subst hn
    subst l1
    have L2 := Lib.hid l2
    have l2' : ys.length ≤ xs.length := by omega
    have l2'' : xs.length ≤ ys.length := by omega
    clear l2
    go_enter Tryz.func15, Tryz.ntmps15
    go_wp2
    go_loopw [5] (fun i wr => ∃ k : Nat, k ≤ xs.length ∧ i = .int .i64 k ∧ Hid (xs.take k = ys.take k) ∧ Below w.heap.size w wr) (fun i _ => xs.length - (intOf i).toNat)
    case atStart => exact ⟨0, Nat.zero_le _, rfl, rfl, Below.refl _ _⟩
    case round =>
      obtain ⟨k, hk, rfl, hI, hbr⟩ := hrel
      by_cases hlt : k < xs.length
      · obtain ⟨b, o, hx, rfl, hbs, hc⟩ := h1.int hlt
        obtain ⟨b', o', hy, rfl, hbs', hc'⟩ := h2.int hlt
        have hcr : wr.cell? ⟨b, o + k, none⟩ = some (.int .i64 xs[k]) := (hbr.cell (p := ⟨b, o + k, none⟩) hbs).trans hc
        have hcr' : wr.cell? ⟨b', o' + k, none⟩ = some (.int .i64 ys[k]) := (hbr.cell (p := ⟨b', o' + k, none⟩) hbs').trans hc'
        clear hc hc'
        generalize hp : xs[k] = p at *
        generalize hq : ys[k] = q at *
        have HP := Lib.hid hp
        have HQ := Lib.hid hq
        clear hp hq
        by_cases hpq : p = q
        · have hv : (p != q) = false := by simp [hpq]
          have E := Lib.hid hpq
          clear hpq
          go_wp2_with fail
          go_quiet (fail)
          go_wp2
          go_roundw
          case rel => exact ⟨k + 1, by omega, by go_num, take_more hx hy hI.out (by rw [HP.out, HQ.out, E.out]), below_drewN hbr _⟩
          case measure => simp [intOf]; omega
        · have hv : (p != q) = true := by simp [hpq]
          have E := Lib.hid hpq
          clear hpq
          go_wp2_with fail
          go_quiet (fail)
          go_wp2
          go_ret
          refine ⟨ret_bool ?_, below_drewN hbr _⟩
          symm
          apply decide_eq_false
          intro h
          apply E.out
          rw [← HP.out, ← HQ.out]
          subst h
          rfl
      · go_wp2
        go_ret
        refine ⟨ret_bool ?_, hbr⟩
        symm
        apply decide_eq_true
        have hk' : k = xs.length := by omega
        subst hk'
        exact take_all L2.out.symm hI.out
  · have hne : ((n1 : Int) != (n2 : Int)) = true := by simp; omega
    have hne' : ((n1 : Int) == (n2 : Int)) = false := by simp; omega
    have hd : decide (xs = ys) = false := decide_eq_false (fun h => hn (by rw [← l1, ← l2, h]))
    have HD := Lib.hid hd
    clear hd
    go_enter Tryz.func15, Tryz.ntmps15
    go_wp2
    go_ret
    exact ⟨ret_bool HD.out.symm, Below.refl _ _⟩
end Plain
end Go.Proofs.YtninglnchengeaaGreatDoor

/-
  coi.Needed; interlocklaw35's alive.
-/
namespace Go.Proofs.YtninglnchengeaaGreatDoor
open Go.RowKit Base Go.Maps
set_option linter.unusedVariables false
set_option linter.unusedSimpArgs false
namespace Coi
open Circuit StrashP

set_option maxRecDepth 8000 in
set_option maxHeartbeats 4000000 in
theorem needed_ok (w : World) (x : Circ) (p : At) (hin : InCirc w x p) (hw : WfC x) (aA : Option Addr) (n cA : Nat) (vals : List Value) (A : List (List Int)) (hA : Sl2 w aA n cA vals A) (hA64 : ∀ y ∈ A.flatten, Circuit.I64 y) (k : Nat) (hk : k < x.bads.length) (hok : askE x A k = 0)
    (hz1 : n ≤ 4000000) (hz2 : A.flatten.length ≤ 4000000) (hz3 : x.ands.length ≤ 4000000) :
    Calls Tryz.prog 14 #[.agg (cells x p), .slice aA n cA, .int .i64 k] w fun e w' => ∃ a' c' T, e = .returned (.tuple #[.slice a' T.length c', .int .i64 0]) ∧ Sl w' a' T.length c' (ints T) ∧ T.Pairwise (· < ·) ∧ (∀ v, v ∈ T ↔ v ≠ 0 ∧ NR x (A.flatten ++ x.invs ++ [x.bads[k]]) v) ∧ Below w.heap.size w w' := by
  obtain ⟨W1, hW1⟩ : ∃ W1, w.alloc (.cells (cells x p) 27) = W1 := ⟨_, rfl⟩
  obtain ⟨hb1, hc1⟩ := cbox_new w x p W1 hW1
  have HB1 := Lib.hid hb1
  have hck := (askE_zero hok).1
  have has := asked_any W1 x p (hin.next hb1) hw aA n cA vals A (hA.next hb1) hA64 k (by omega) (by have := hck.1.2.2.2.2.2.1; omega)
  rw [hok] at has
  have HAS := Lib.hid has
  have HBX := Lib.hid (And.intro hz2 (And.intro hz3 (And.intro hck.1.2.2.2.2.2.2 hck.1.2.2.2.1)))
  have HCN := Lib.hid (fun (U : World) (hU : Below w.heap.size w U) => counted_any U x p (hin.next hU) hw aA n cA vals A (hA.next hU) hA64 k hk hz1 hz2 hz3 (by have := hck.1.2.2.2.2.2.2; omega) (by have := hck.1.2.2.2.1; omega))
  have HCB := Lib.hid (fun (U : World) (hU : Below W1.heap.size W1 U) => hc1.next hU (Nat.le_refl _))
  have k0 := hc1.k0
  have k1 := hc1.k1
  have k2 := hc1.k2
  have k3 := hc1.k3
  have k4 := hc1.k4
  have k5 := hc1.k5
  have k6 := hc1.k6
  have k7 := hc1.k7
  generalize x.bads[k] = bl at *
  obtain ⟨l, hl⟩ : ∃ l, A.flatten ++ x.invs ++ [bl] = l := ⟨_, rfl⟩
  simp only [hl] at HCN ⊢
  have HLL : Hid (l.length = A.flatten.length + x.invs.length + 1) := by show _ = _; rw [← hl]; simp only [List.length_append, List.length_singleton]
  obtain ⟨a1, c1, a2, c2, a3, c3, a4, c4, a5, c5, a6, c6, a7, c7⟩ := p
  simp only [cells] at *
  clear hin hw hA hA64 hb1 hc1 hok hck has hz1 hz2 hz3 hl
  go_enter Tryz.func14, Tryz.ntmps14
  go_wp2_with fail
  with_reducible refine HAS.out.mono ?_
  rintro e w2 ⟨rfl, hb2⟩
  have hb12 := HB1.out.trans (hb2.mono HB1.out.size)
  have HB12 := Lib.hid hb12
  have HCN2 := Lib.hid (HCN.out w2 hb12)
  have hcw := HCB.out w2 hb2
  clear k0 k1 k2 k3 k4 k5 k6 k7 hW1
  have k0 := hcw.k0
  have k1 := hcw.k1
  have k2 := hcw.k2
  have k3 := hcw.k3
  have k4 := hcw.k4
  have k5 := hcw.k5
  have k6 := hcw.k6
  have k7 := hcw.k7
  clear hb2 hb12 hcw
  go_wp2_with fail
  with_reducible refine HCN2.out.mono ?_
  rintro e w3 ⟨mb, X, rfl, hmb, hset, hnd, hX, hb3⟩
  have hfew : X.length ≤ 100000000 := by
    have h := nodup_len hnd (C := uni x l) (fun v hv => nr_uni ((hX v).1 hv).2)
    unfold uni at h
    simp only [List.length_append, List.length_map] at h
    have h1 := HBX.out
    have h2 := HLL.out
    omega
  obtain ⟨D, hown, hD1, hD2, hD3⟩ := hset
  have hds := SetI.keys_size hD3
  have HKS := Lib.hid (fun (U : World) => SortedN.keys_any (some mb) U)
  have HSS := Lib.hid (SortedN.sorted_any mb X.length D (plainElem Tryz.prog 4) w3 hown (by rw [hds]; unfold maxLen; omega) (by rw [hds]; omega))
  have hpm : (intKeys D).Perm X := by obtain ⟨es, rfl, _, h⟩ := hD3; exact h
  have HPM := Lib.hid hpm
  have HND := Lib.hid hnd
  have HX := Lib.hid hX
  have HB3 := Lib.hid (HB12.out.trans (hb3.mono HB12.out.size))
  clear hfew hds hown hD1 hD2 hD3 hmb hnd hX hb3 hpm k0 k1 k2 k3 k4 k5 k6 k7
  go_wp2_with fail
  with_reducible refine (HKS.out _).mono ?_
  rintro e w5 ⟨rfl, rfl⟩
  go_wp2_with fail
  with_reducible refine HSS.out.mono ?_
  rintro e w6 ⟨v, ss, rfl, hperm, hrow, hnil, hb⟩
  obtain ⟨a9, c9, rfl, hs9⟩ := own_sl hrow
  have HS9 := Lib.hid hs9
  have HBB := Lib.hid hb
  clear hrow hb hnil hs9
  go_wp2_with fail
  obtain ⟨hs1, hs2, hs3⟩ := sorted_strict (hperm.trans HPM.out) HND.out
  refine bodyPost_ret (v := .tuple #[.slice a9 ss.length c9, .int .i64 0]) (by simp [results, Tryz.results14, go_sem]) rfl ?_
  refine ⟨a9, c9, ss.mergeSort (fun x y => decide (x ≤ y)), by rw [hs3], ?_, hs1, fun v => (hs2 v).trans (HX.out v), HB3.out.trans (HBB.out.mono HB3.out.size)⟩
  rw [hs3]
  exact HS9.out
end Coi
end Go.Proofs.YtninglnchengeaaGreatDoor

/-
  interlocklaw35's alive.
-/
namespace Go.Proofs.YtninglnchengeaaGreatDoor
open Go.RowKit Base Go.Maps
set_option linter.unusedVariables false
set_option linter.unusedSimpArgs false
namespace Coi
open Circuit StrashP

def x1 : Circ := ⟨1, [2], [], [], [2], [], [], []⟩
theorem x1_ok : CheckOk x1 := by
  refine ⟨by unfold Few x1; simp, ⟨?_, ?_, ?_⟩, ?_, ?_, ?_, ?_, ?_, ?_⟩
  · refine StrashP.ownOk_iff.2 ⟨fun m hm => ?_, ?_⟩
    · have : m = 2 := by unfold ownL x1 at hm; simpa using hm
      subst this
      exact ⟨by decide, by decide, by decide⟩
    · show ([2].map var).Nodup
      simp
  · intro t ht; exact absurd ht (by unfold x1; simp)
  · intro j hj
    have : (0 : Nat) > j + 1 := hj
    omega
  · intro t ht; exact absurd ht (by unfold x1; simp)
  · intro t ht; exact absurd ht (by unfold x1; simp)
  · intro t ht; exact absurd ht (by unfold x1; simp)
  · intro t ht
    have : t = 2 := by unfold x1 at ht; simpa using ht
    subst this
    exact ⟨by decide, Or.inr (by show var 2 ∈ [var 2]; simp)⟩
  · intro t ht; exact absurd ht (by unfold x1; simp)
  · intro j hj; exact absurd hj (by unfold x1; simp)
theorem x1_ask : askE x1 [] ((0 : Nat) : Int) = 0 := askE_ok x1_ok (by show ¬ (_ ∨ ((([2] : List Int).length : Nat) : Int) ≤ _); simp) rfl
theorem x1_nr (v : Int) : (v ≠ 0 ∧ NR x1 [2] v) ↔ v = 1 := by
  constructor
  · rintro ⟨h0, h⟩
    cases h with
    | lit ht => rw [List.mem_singleton.1 ht]; decide
    | left _ _ hg => exact absurd (gate_mem hg) (by show _ ∉ ([] : List Tri); simp)
    | right _ _ hg => exact absurd (gate_mem hg) (by show _ ∉ ([] : List Tri); simp)
    | next _ _ ht => exact absurd ht (by show _ ∉ ([] : List Tri); simp)
  · rintro rfl
    refine ⟨by decide, ?_⟩
    have h := NR.lit (x := x1) (l := [2]) (t := 2) (by simp)
    exact h
theorem only_one {T : List Int} (hp : T.Pairwise (· < ·)) (hm : ∀ v, v ∈ T ↔ v = 1) : T = [1] := by
  cases T with
  | nil => exact absurd ((hm 1).2 rfl) (by simp)
  | cons y r =>
    have hy := (hm y).1 List.mem_cons_self
    subst hy
    rw [List.pairwise_cons] at hp
    cases r with
    | nil => rfl
    | cons z q =>
      have hz := (hm z).1 (by simp)
      have := hp.1 z List.mem_cons_self
      omega

set_option maxRecDepth 8000 in
set_option maxHeartbeats 4000000 in
theorem alive_any (w : World) : Calls Tryz.prog 5 #[] w fun e w' => e = .returned (.bool true) ∧ Below w.heap.size w w' := by
  obtain ⟨W1, hW1⟩ : ∃ U, w.alloc (.cells #[.int .i64 2] 3) = U := ⟨_, rfl⟩
  obtain ⟨W2, hW2⟩ : ∃ U, W1.alloc (.cells #[.int .i64 2] 3) = U := ⟨_, rfl⟩
  have hb1 : Below w.heap.size w W1 := by rw [← hW1]; exact (Below.refl _ _).alloc (Nat.le_refl _) _
  have hb2 : Below W1.heap.size W1 W2 := by rw [← hW2]; exact (Below.refl _ _).alloc (Nat.le_refl _) _
  have hs1 : Sl W1 (some ⟨w.heap.size, 0, none⟩) 1 1 (ints [2]) := by rw [← hW1]; exact sl_new w #[.int .i64 2] 3 1 rfl (by decide)
  have hs2 : Sl W2 (some ⟨W1.heap.size, 0, none⟩) 1 1 (ints [2]) := by rw [← hW2]; exact sl_new W1 #[.int .i64 2] 3 1 rfl (by decide)
  have hT : ∀ k, SlT W2 k none 0 0 [] := fun k => ⟨rfl, Nat.le_refl _, by omega, fun _ => ⟨rfl, rfl⟩, fun i r h => by simp at h⟩
  have hin : InCirc W2 x1 ⟨some ⟨w.heap.size, 0, none⟩, 1, none, 0, none, 0, some ⟨W1.heap.size, 0, none⟩, 1, none, 0, none, 0, none, 0⟩ := ⟨hs1.next hb2, hT 3, Sl.nil _, hs2, Sl.nil _, hT 3, hT 3⟩
  have hw : WfC x1 := ⟨by show Circuit.I64 1; unfold Circuit.I64; omega, fun l hl => by have : l = 2 := (by unfold x1 at hl; simpa using hl); subst this; unfold Circuit.I64; omega, fun t ht => absurd ht (by unfold x1; simp), fun t ht => absurd ht (by unfold x1; simp), fun l hl => by have : l = 2 := (by unfold x1 at hl; simpa using hl); subst this; unfold Circuit.I64; omega, fun t ht => absurd ht (by unfold x1; simp), fun t ht => absurd ht (by unfold x1; simp), fun t ht => absurd ht (by unfold x1; simp)⟩
  have HN0 := needed_ok W2 x1 _ hin hw none 0 0 [] [] (Sl2.nil _) (fun y hy => by simp at hy) 0 (by show 0 < ([2] : List Int).length; simp) x1_ask (by omega) (by simp) (by show ([] : List Tri).length ≤ _; simp)
  simp only [cells] at HN0
  have HN := Lib.hid HN0
  have HB := Lib.hid (hb1.trans (hb2.mono hb1.size))
  clear hb1 hb2 hs1 hs2 hT hin hw HN0
  go_enter Tryz.func5, Tryz.ntmps5
  go_wp2_with fail
  clear hW1 hW2
  refine HN.out.mono ?_
  rintro e w3 ⟨a9, c9, T, rfl, hs9, hp, hm, hb3⟩
  have hT1 : T = [1] := only_one hp (fun v => by rw [hm v]; exact x1_nr v)
  subst hT1
  obtain ⟨W4, hW4⟩ : ∃ U, w3.alloc (.cells #[.int .i64 1] 3) = U := ⟨_, rfl⟩
  have hb4 : Below w3.heap.size w3 W4 := by rw [← hW4]; exact (Below.refl _ _).alloc (Nat.le_refl _) _
  have hs4 : Sl W4 (some ⟨w3.heap.size, 0, none⟩) 1 1 (ints [1]) := by rw [← hW4]; exact sl_new w3 #[.int .i64 1] 3 1 rfl (by decide)
  have HI0 := Plain.ints_any W4 a9 (some ⟨w3.heap.size, 0, none⟩) 1 1 c9 1 [1] [1] (hs9.next hb4) hs4
  rw [decide_eq_true rfl] at HI0
  have HI := Lib.hid HI0
  have HB4 := Lib.hid (HB.out.trans ((hb3.trans (hb4.mono hb3.size)).mono HB.out.size))
  simp only [List.length_singleton]
  clear hs9 hp hm hb3 hb4 hs4 HI0
  go_wp2_with fail
  with_reducible refine HI.out.mono ?_
  rintro e w5 ⟨rfl, hb5⟩
  go_wp2_with fail
  go_ret
  exact ⟨rfl, HB4.out.trans (hb5.mono HB4.out.size)⟩
end Coi
end Go.Proofs.YtninglnchengeaaGreatDoor

/-
  What the walks of interlocklaw35's laws share: two boxes of circuits, held.
-/
namespace Go.Proofs.YtninglnchengeaaGreatDoor.coiTells
open Go.RowKit Base Circuit Coi StrashP LitsC
set_option linter.unusedVariables false
set_option linter.unusedSimpArgs false

def noC : Circ := ⟨0, [], [], [], [], [], [], []⟩
def noA : At := ⟨none, 0, none, 0, none, 0, none, 0, none, 0, none, 0, none, 0⟩
theorem noC_cells : cells noC noA = #[.int .i64 0, .slice none 0 0, .slice none 0 0, .slice none 0 0, .slice none 0 0, .slice none 0 0, .slice none 0 0, .slice none 0 0] := rfl
theorem noC_in (w : World) : InCirc w noC noA := ⟨Sl.nil w, Coi.slT_none w 3, Sl.nil w, Sl.nil w, Sl.nil w, Coi.slT_none w 3, Coi.slT_none w 3⟩

theorem num_any (w : World) (n : Int) : Calls Tryz.prog 11 #[.int .i64 n] w fun e w' => e = .returned (.int .i64 n) ∧ w = w' := by
  go_enter Tryz.func11, Tryz.ntmps11
  go_wp2
  go_ret
  exact ⟨rfl, rfl⟩

abbrev C8 (N : Nat) (x : Circ) (p : At) (w' : World) : Prop := w'.cell? ⟨N, 0, none⟩ = some (.int .i64 x.max) ∧ w'.cell? ⟨N, 1, none⟩ = some (.slice p.a1 x.ins.length p.c1) ∧ w'.cell? ⟨N, 2, none⟩ = some (.slice p.a2 x.lats.length p.c2) ∧ w'.cell? ⟨N, 3, none⟩ = some (.slice p.a3 x.outs.length p.c3) ∧ w'.cell? ⟨N, 4, none⟩ = some (.slice p.a4 x.bads.length p.c4) ∧ w'.cell? ⟨N, 5, none⟩ = some (.slice p.a5 x.invs.length p.c5) ∧ w'.cell? ⟨N, 6, none⟩ = some (.slice p.a6 x.ands.length p.c6) ∧ w'.cell? ⟨N, 7, none⟩ = some (.slice p.a7 x.names.length p.c7)
theorem c8 {N : Nat} {x : Circ} {p : At} {w' : World} (h : CBox N x p w') : C8 N x p w' := ⟨h.k0, h.k1, h.k2, h.k3, h.k4, h.k5, h.k6, h.k7⟩
structure TH (N1 N3 : Nat) (x y : Circ) (p q : At) (W U : World) : Prop where
  below : Below W.heap.size W U
  b1 : CBox N1 x p U
  b3 : CBox N3 y q U
theorem TH.more {N1 N3 : Nat} {x y : Circ} {p q : At} {W U U' : World} (h : TH N1 N3 x y p q W U) (hb : Below U.heap.size U U') : TH N1 N3 x y p q W U' :=
  ⟨h.below.trans (hb.mono h.below.size), h.b1.next hb (Nat.le_refl _), h.b3.next hb (Nat.le_refl _)⟩
abbrev TAll (N1 N3 : Nat) (x y : Circ) (p q : At) (W U : World) : Prop := TH N1 N3 x y p q W U ∧ C8 N1 x p U
theorem th_all {N1 N3 : Nat} {x y : Circ} {p q : At} {W U : World} (h : TH N1 N3 x y p q W U) : TAll N1 N3 x y p q W U := ⟨h, c8 h.b1⟩
theorem call_keep {P : Program} {f : FuncId} {args : Array Value} {v : Value} {S : World → Prop} (hc : ∀ U, S U → Calls P f args U fun e U' => e = .returned v ∧ Below U.heap.size U U') (hs : ∀ U U', S U → Below U.heap.size U U' → S U') :
    ∀ U, S U → Calls P f args U fun e U' => e = .returned v ∧ S U' := fun U hU => (hc U hU).mono fun e U' h => ⟨h.1, hs U U' hU h.2⟩

end Go.Proofs.YtninglnchengeaaGreatDoor.coiTells

/-
  interlockref01.Within; the law's asked.
-/
namespace Go.Proofs.YtninglnchengeaaGreatDoor
open Go.RowKit Base
set_option linter.unusedVariables false
set_option linter.unusedSimpArgs false
namespace Coi
open Circuit LitsC

set_option maxHeartbeats 1000000 in
theorem within_any (w : World) (mx : Int) (h0 : 0 ≤ mx) (h1 : mx ≤ 2048) (a : Option Addr) (n c : Nat) (l : List Int) (hsl : Sl w a n c (ints l)) (hl : ∀ y ∈ l, Circuit.I64 y) :
    Calls Tryz.prog 35 #[.int .i64 mx, .slice a n c] w fun e w' => e = .returned (.bool (!strangeL mx l)) ∧ w' = w := by
  have HN : Hid (l.length = n) := by have := hsl.len; rwa [ints_len] at this
  have hcap := hsl.cap
  have hbig := hsl.big
  have HSL := Lib.hid hsl
  have HL := Lib.hid hl
  have hm0 : decide (mx < 0) = false := decide_eq_false (by omega)
  have hm1 : decide ((2048 : Int) < mx) = false := decide_eq_false (by omega)
  clear hsl hl
  go_enter Tryz.func35, Tryz.ntmps35
  go_wp2_with fail
  have hw2 : IntKind.i64.wrap (2 * mx) = 2 * mx := IntWalk.i64_in _ (by omega)
  have hw3 : IntKind.i64.wrap (2 * mx + 1) = 2 * mx + 1 := IntWalk.i64_in _ (by omega)
  go_loopw [5] (fun u wr => ∃ j : Nat, j ≤ n ∧ u = .int .i64 j ∧ Hid (∀ i (h : i < l.length), i < j → oddM mx l[i] = false) ∧ wr = w) (fun u _ => n - (intOf u).toNat)
  case atStart => exact ⟨0, Nat.zero_le _, rfl, (fun i _ h => by omega), rfl⟩
  case round =>
    obtain ⟨j, hj, rfl, hI, rfl⟩ := hrel
    by_cases hlt : j < n
    · obtain ⟨b, o, hx, rfl, hbs, e0⟩ := HSL.out.int hlt
      have hy := HL.out l[j] (List.getElem_mem hx)
      have HBAD : Hid (oddM mx l[j] = true → strangeL mx l = true) := fun h => List.any_eq_true.2 ⟨_, List.getElem_mem hx, h⟩
      have HGO : Hid (oddM mx l[j] = false → ∀ i (h : i < l.length), i < j + 1 → oddM mx l[i] = false) := fun h i hi hij => by
        by_cases he : i = j
        · subst he; exact h
        · exact hI.out i hi (by omega)
      have hod : oddM mx l[j] = (decide (l[j] < 0) || decide (2 * mx + 1 < l[j])) := by
        unfold oddM
        rw [Bool.eq_iff_iff]
        simp only [Bool.or_eq_true, decide_eq_true_eq]
        unfold var
        omega
      clear hI
      generalize l[j] = y at *
      clear hx
      by_cases h1 : y < 0
      · have hd : decide (y < 0) = true := decide_eq_true h1
        rw [hd, Bool.true_or] at hod
        have HR := Lib.hid (HBAD.out hod)
        clear hod HBAD HGO h1
        go_wp2_with fail
        go_ret
        exact ⟨ret_bool (by rw [HR.out]; rfl), rfl⟩
      · have hd : decide (y < 0) = false := decide_eq_false h1
        by_cases h2 : 2 * mx + 1 < y
        · have hd2 : decide (2 * mx + 1 < y) = true := decide_eq_true h2
          rw [hd2, Bool.or_true] at hod
          have HR := Lib.hid (HBAD.out hod)
          clear hod HBAD HGO
          go_wp2_with fail
          go_ret
          exact ⟨ret_bool (by rw [HR.out]; rfl), rfl⟩
        · have hd2 : decide (2 * mx + 1 < y) = false := decide_eq_false h2
          rw [hd, hd2, Bool.or_false] at hod
          have HR := Lib.hid (HGO.out hod)
          clear hod HBAD HGO
          go_wp2_with fail
          go_roundw
          case rel => exact ⟨j + 1, by omega, by go_num, HR.out, trivial⟩
          case measure => simp [intOf]; omega
    · have HR : Hid (strangeL mx l = false) := by
        show _ = _
        unfold strangeL
        rw [List.any_eq_false]
        intro y hy
        obtain ⟨i, hi, rfl⟩ := List.getElem_of_mem hy
        rw [hI.out i hi (by have := HN.out; omega)]
        decide
      go_wp2_with fail
      go_ret
      exact ⟨ret_bool (by rw [HR.out]; rfl), rfl⟩

set_option maxRecDepth 8000 in
set_option maxHeartbeats 4000000 in
theorem lawAsked_any (w : World) (x : Circ) (p : At) (hin : InCirc w x p) (hw : WfC x) (aA : Option Addr) (n cA : Nat) (vals : List Value) (A : List (List Int)) (hA : Sl2 w aA n cA vals A) (hA64 : ∀ y ∈ A.flatten, Circuit.I64 y) (bad : Int) (hb0 : -9223372036854775808 ≤ bad) (hb1 : bad ≤ 9223372036854775807)
    (hza : x.ands.length * 24 ≤ 140737488355328) :
    Calls Tryz.prog 12 #[.agg (cells x p), .slice aA n cA, .int .i64 bad] w fun e w' => e = .returned (.int .i64 (askE x A bad)) ∧ Below w.heap.size w w' := by
  obtain ⟨W1, hW1⟩ : ∃ W1, w.alloc (.cells (cells x p) 27) = W1 := ⟨_, rfl⟩
  obtain ⟨hb1', hc1⟩ := cbox_new w x p W1 hW1
  have HB1 := Lib.hid hb1'
  have HC := Lib.hid (refCheck_any W1 x p (hin.next hb1') hw hza)
  rw [refchk_eq] at HC
  have HCB := Lib.hid (fun (U : World) (hU : Below W1.heap.size W1 U) => hc1.next hU (Nat.le_refl _))
  have HA := Lib.hid (fun (U : World) (hU : Below W1.heap.size W1 U) => (hA.next hb1').next hU)
  have HA64 := Lib.hid hA64
  have HAL := Lib.hid (hA.len)
  have hcapA := hA.sl.cap
  have hbigA := hA.sl.big
  have HLB := Lib.hid (hin.bads.big)
  have k0 := hc1.k0
  have k1 := hc1.k1
  have k2 := hc1.k2
  have k3 := hc1.k3
  have k4 := hc1.k4
  have k5 := hc1.k5
  have k6 := hc1.k6
  have k7 := hc1.k7
  obtain ⟨a1, c1, a2, c2, a3, c3, a4, c4, a5, c5, a6, c6, a7, c7⟩ := p
  simp only [cells] at *
  by_cases hok : CheckOk x
  · rw [chk_pos hok] at HC
    have HOK := Lib.hid hok
    clear hin hw hA hA64 hb1' hc1 hok
    by_cases hlo : bad < 0
    · have HE : Hid (askE x A bad = 4) := askE_bad HOK.out A (Or.inl hlo)
      go_enter Tryz.func12, Tryz.ntmps12
      go_wp2_with fail
      with_reducible refine HC.out.mono ?_
      rintro e w2 ⟨rfl, hb2⟩
      have HB2 := Lib.hid hb2
      clear hb2 k0 k1 k2 k3 k4 k5 k6 k7 hW1
      go_wp2_with fail
      go_ret
      exact ⟨ret_int HE.out.symm, HB1.out.trans (HB2.out.mono HB1.out.size)⟩
    · by_cases hhi : (x.bads.length : Int) ≤ bad
      · have HE : Hid (askE x A bad = 4) := askE_bad HOK.out A (Or.inr hhi)
        go_enter Tryz.func12, Tryz.ntmps12
        go_wp2_with fail
        with_reducible refine HC.out.mono ?_
        rintro e w2 ⟨rfl, hb2⟩
        have HB2 := Lib.hid hb2
        have m4 := (HCB.out w2 hb2).k4
        clear hb2 k0 k1 k2 k3 k4 k5 k6 k7 hW1
        go_wp2_with fail
        go_ret
        exact ⟨ret_int HE.out.symm, HB1.out.trans (HB2.out.mono HB1.out.size)⟩
      · have HN : Hid (¬ (bad < 0 ∨ (x.bads.length : Int) ≤ bad)) := fun h => h.elim hlo hhi
        go_enter Tryz.func12, Tryz.ntmps12
        go_wp2_with fail
        with_reducible refine HC.out.mono ?_
        rintro e w2 ⟨rfl, hb2⟩
        have HB2 := Lib.hid hb2
        have m4 := (HCB.out w2 hb2).k4
        clear hb2 k0 k1 k2 k3 k4 k5 k6 k7 hW1
        go_wp2_with fail
        clear m4
        go_loopw [7] (fun u wr => ∃ j : Nat, j ≤ n ∧ u = .int .i64 j ∧ Hid (∀ i (h : i < A.length), i < j → strangeL x.max A[i] = false) ∧ Hid (Below W1.heap.size W1 wr)) (fun u _ => n - (intOf u).toNat)
        case atStart => exact ⟨0, Nat.zero_le _, rfl, (fun i _ h => by omega), HB2.out⟩
        case round =>
          clear HB2
          obtain ⟨j, hj, rfl, hI, hB⟩ := hrel
          by_cases hlt : j < n
          · obtain ⟨b, o, a', c', hx, rfl, hbs, e0, hs0, hv⟩ := (HA.out wr hB.out).at hlt
            have m0 := (HCB.out wr hB.out).k0
            have hy : ∀ y ∈ A[j], Circuit.I64 y := fun y hy => HA64.out y (List.mem_flatten.2 ⟨_, List.getElem_mem hx, hy⟩)
            have HD := Lib.hid (hB.out.trans (Below.refl _ _).drew)
            have HWI := Lib.hid (within_any wr.drew x.max HOK.out.1.1 HOK.out.1.2.1 a' A[j].length c' A[j] (hs0.next (Below.refl _ _).drew) hy)
            have HBAD : Hid (strangeL x.max A[j] = true → askE x A bad = 23) := fun h => askE_kind HOK.out HN.out (List.any_eq_true.2 ⟨_, List.getElem_mem hx, h⟩)
            have HGO : Hid (strangeL x.max A[j] = false → ∀ i (h : i < A.length), i < j + 1 → strangeL x.max A[i] = false) := fun h i hi hij => by
              by_cases he : i = j
              · subst he; exact h
              · exact hI.out i hi (by omega)
            clear hs0 hv hy hI hB
            generalize A[j] = l at *
            clear hx
            by_cases hst : strangeL x.max l = true
            · rw [hst] at HWI
              have HR := Lib.hid (HBAD.out hst)
              clear HBAD HGO hst
              go_upto_region 8 with fail
              refine wp_region_still_tail 6 (by kernel_rfl) (by kernel_rfl) ?_
              simp only [List.take_succ_cons, List.take_zero, List.drop_succ_cons, List.drop_zero]
              repeat still_step
              refine wpStill_nil ?_
              clear m0 e0
              go_wp2_with fail
              with_reducible refine HWI.out.mono ?_
              rintro e w3 ⟨rfl, rfl⟩
              go_wp2_with fail
              go_ret
              exact ⟨ret_int HR.out.symm, HB1.out.trans (HD.out.mono HB1.out.size)⟩
            · have hst : strangeL x.max l = false := by simpa using hst
              rw [hst] at HWI
              have HR := Lib.hid (HGO.out hst)
              clear HBAD HGO hst
              go_upto_region 8 with fail
              refine wp_region_still_tail 6 (by kernel_rfl) (by kernel_rfl) ?_
              simp only [List.take_succ_cons, List.take_zero, List.drop_succ_cons, List.drop_zero]
              repeat still_step
              refine wpStill_nil ?_
              clear m0 e0
              go_wp2_with fail
              with_reducible refine HWI.out.mono ?_
              rintro e w3 ⟨rfl, rfl⟩
              go_wp2_with fail
              go_roundw
              case rel => exact ⟨j + 1, by omega, by go_num, HR.out, HD.out⟩
              case measure => simp [intOf]; omega
          · have HE : Hid (askE x A bad = 0) := askE_ok HOK.out HN.out (by
              rw [List.any_eq_false]
              intro y hy
              obtain ⟨i, hi, rfl⟩ := List.getElem_of_mem hy
              rw [hI.out i hi (by have := HAL.out; omega)]
              decide)
            go_wp2_with fail
            go_ret
            exact ⟨ret_int HE.out.symm, HB1.out.trans (hB.out.mono HB1.out.size)⟩
  · rw [chk_neg hok] at HC
    have HE : Hid (askE x A bad = 9) := askE_no hok A bad
    clear hin hw hA hA64 hb1' hc1 hok
    go_enter Tryz.func12, Tryz.ntmps12
    go_wp2_with fail
    with_reducible refine HC.out.mono ?_
    rintro e w2 ⟨rfl, hb2⟩
    have HB2 := Lib.hid hb2
    clear hb2 k0 k1 k2 k3 k4 k5 k6 k7 hW1
    go_wp2_with fail
    go_ret
    exact ⟨ret_int HE.out.symm, HB1.out.trans (HB2.out.mono HB1.out.size)⟩
end Coi
end Go.Proofs.YtninglnchengeaaGreatDoor

/-
  interlocklaw35.CoiSpreads walked, where it may not be asked what counts.
-/
namespace Go.Proofs.YtninglnchengeaaGreatDoor.coiSpreads
open Go.RowKit Base Circuit Coi StrashP coiTells
set_option linter.unusedVariables false
set_option linter.unusedSimpArgs false

set_option maxRecDepth 8000 in
set_option maxHeartbeats 4000000 in
theorem walk_no (w : World) (x : Circ) (p : At) (hin : InCirc w x p) (hw : WfC x) (aA : Option Addr) (n cA : Nat) (vals : List Value) (A : List (List Int)) (hA : Sl2 w aA n cA vals A) (hA64 : ∀ y ∈ A.flatten, Circuit.I64 y) (bad : Int) (hb0 : -9223372036854775808 ≤ bad) (hb1' : bad ≤ 9223372036854775807) (hno : askE x A bad ≠ 0) (hza : x.ands.length * 24 ≤ 140737488355328) (free : Int) (vU : Value) :
    Calls Tryz.prog 4 #[.agg (cells x p), .slice aA n cA, .int .i64 bad, .int .u64 free, vU] w fun e w' => e = .returned (.bool true) ∧ Below w.heap.size w w' := by
  obtain ⟨W1, hW1⟩ : ∃ W1, w.alloc (.cells (cells x p) 27) = W1 := ⟨_, rfl⟩
  obtain ⟨hb1, hc1⟩ := cbox_new w x p W1 hW1
  have HB1 := Lib.hid hb1
  have HAL := Lib.hid (Coi.alive_any W1)
  have HCB := Lib.hid (fun (U : World) (hU : Below W1.heap.size W1 U) => hc1.next hU (Nat.le_refl _))
  have HRD := fun (U : World) (hU : Below W1.heap.size W1 U) => reduce_no U x p ((hin.next hb1).next hU) hw aA n cA vals A ((hA.next hb1).next hU) hA64 bad hb0 hb1' hno
  have HAK := fun (U : World) (hU : Below W1.heap.size W1 U) => lawAsked_any U x p ((hin.next hb1).next hU) hw aA n cA vals A ((hA.next hb1).next hU) hA64 bad hb0 hb1' hza
  obtain ⟨a1, c1, a2, c2, a3, c3, a4, c4, a5, c5, a6, c6, a7, c7⟩ := p
  simp only [cells] at *
  generalize askE x A bad = er at *
  have hne : (er != 0) = true := by simpa using hno
  have hee : (er == er) = true := by simp
  have HR := Lib.hid HRD
  have HK := Lib.hid HAK
  clear hin hw hA hA64 hb1 hc1 hb0 hb1' hno HRD HAK hza
  go_enter Tryz.func4, Tryz.ntmps4
  go_wp2_with fail
  clear hW1
  with_reducible refine HAL.out.mono ?_
  rintro e w2 ⟨rfl, hb2⟩
  have HB2 := Lib.hid hb2
  have HR2 := Lib.hid (HR.out w2 hb2)
  have hcw := HCB.out w2 hb2
  have k0 := hcw.k0
  have k1 := hcw.k1
  have k2 := hcw.k2
  have k3 := hcw.k3
  have k4 := hcw.k4
  have k5 := hcw.k5
  have k6 := hcw.k6
  have k7 := hcw.k7
  try simp only at k0 k1 k2 k3 k4 k5 k6 k7
  clear hcw
  clear hb2
  go_wp2_with fail
  with_reducible refine HR2.out.mono ?_
  rintro e w4 ⟨rfl, hb4⟩
  obtain ⟨W5, hW5⟩ : ∃ U, w4.alloc (.cells (cells noC noA) 27) = U := ⟨_, rfl⟩
  obtain ⟨hb5, hc5⟩ := cbox_new w4 noC noA W5 hW5
  rw [noC_cells] at hW5
  have hb15 : Below W1.heap.size W1 W5 := HB2.out.trans ((hb4.trans (hb5.mono hb4.size)).mono HB2.out.size)
  have HB5 := Lib.hid hb15
  have hf0 : TH w.heap.size w4.heap.size x noC ⟨a1, c1, a2, c2, a3, c3, a4, c4, a5, c5, a6, c6, a7, c7⟩ noA W5 W5.drew := ⟨(Below.refl _ _).drew, (HCB.out W5 hb15).next (Below.refl _ _).drew (Nat.le_refl _), hc5.next (Below.refl _ _).drew (Nat.le_refl _)⟩
  have HF := th_all hf0
  have C8' := call_keep (S := fun U => TAll w.heap.size w4.heap.size x noC ⟨a1, c1, a2, c2, a3, c3, a4, c4, a5, c5, a6, c6, a7, c7⟩ noA W5 U) (fun U hU => (num_any U er).mono fun e U' h => ⟨h.1, h.2 ▸ Below.refl _ _⟩) (fun U U' h hb => th_all (h.1.more hb))
  have C8 := Lib.hid C8'
  have C9' := call_keep (S := fun U => TAll w.heap.size w4.heap.size x noC ⟨a1, c1, a2, c2, a3, c3, a4, c4, a5, c5, a6, c6, a7, c7⟩ noA W5 U) (fun U hU => HK.out U (HB5.out.trans (hU.1.below.mono HB5.out.size))) (fun U U' h hb => th_all (h.1.more hb))
  have C9 := Lib.hid C9'
  have HW5 := Lib.hid hW5
  clear C8' C9' hb4 hb5 hb15 hf0 k0 k1 k2 k3 k4 k5 k6 k7 hc5 hW5
  go_upto_region 5 with fail
  rw [HW5.out]
  refine Lex.region (fun w' => TAll w.heap.size w4.heap.size x noC ⟨a1, c1, a2, c2, a3, c3, a4, c4, a5, c5, a6, c6, a7, c7⟩ noA W5 w') (by kernel_rfl) (by kernel_rfl) HF ?_
  (refine Lex.step_val (v := ?_) ?_ (fun w' hSw => ?_) ?_; rotate_left; (focus rfl); (focus (clear hSw; go_simp; (try with_reducible rfl); done)); (try simp only [Act.put, List.setIfInBounds_toArray, List.set_cons_zero, List.set_cons_succ]))
  (refine Lex.step_call (v := ?_) (f := ?_) (args := ?_) ?_ (fun w' hSw => ?_) ?_ ?_; rotate_left 3; (focus rfl); (focus (clear hSw; go_simp; (refine And.intro ?_ ?_ <;> with_reducible rfl); done)); (focus (first | with_reducible exact C8.out | with_reducible exact C9.out)); (try simp only [Act.put, List.setIfInBounds_toArray, List.set_cons_zero, List.set_cons_succ]))
  (refine Lex.step_val (v := ?_) ?_ (fun w' hSw => ?_) ?_; rotate_left; (focus rfl); (focus ((try dsimp only at hSw); go_simp; (try with_reducible rfl); done)); (try simp only [Act.put, List.setIfInBounds_toArray, List.set_cons_zero, List.set_cons_succ]))
  (refine Lex.step_val (v := ?_) ?_ (fun w' hSw => ?_) ?_; rotate_left; (focus rfl); (focus (clear hSw; go_simp; (try with_reducible rfl); done)); (try simp only [Act.put, List.setIfInBounds_toArray, List.set_cons_zero, List.set_cons_succ]))
  (refine Lex.step_val (v := ?_) ?_ (fun w' hSw => ?_) ?_; rotate_left; (focus rfl); (focus (clear hSw; go_simp; (try with_reducible rfl); done)); (try simp only [Act.put, List.setIfInBounds_toArray, List.set_cons_zero, List.set_cons_succ]))
  (refine Lex.step_call (v := ?_) (f := ?_) (args := ?_) ?_ (fun w' hSw => ?_) ?_ ?_; rotate_left 3; (focus rfl); (focus (clear hSw; go_simp; (refine And.intro ?_ ?_ <;> with_reducible rfl); done)); (focus (first | with_reducible exact C8.out | with_reducible exact C9.out)); (try simp only [Act.put, List.setIfInBounds_toArray, List.set_cons_zero, List.set_cons_succ]))
  (refine Lex.step_val (v := ?_) ?_ (fun w' hSw => ?_) ?_; rotate_left; (focus rfl); (focus (clear hSw; go_simp; (try with_reducible rfl); done)); (try simp only [Act.put, List.setIfInBounds_toArray, List.set_cons_zero, List.set_cons_succ]))
  (refine Lex.step_val (v := ?_) ?_ (fun w' hSw => ?_) ?_; rotate_left; (focus rfl); (focus (clear hSw; go_simp; (try with_reducible rfl); done)); (try simp only [Act.put, List.setIfInBounds_toArray, List.set_cons_zero, List.set_cons_succ]))
  refine Lex.step_nil ?_
  intro W6 hz
  have HZ := Lib.hid hz.1.below
  clear hz HF
  go_wp2_with fail
  go_ret
  exact ⟨rfl, HB1.out.trans ((HB5.out.trans (HZ.out.mono HB5.out.size)).mono HB1.out.size)⟩

end Go.Proofs.YtninglnchengeaaGreatDoor.coiSpreads

/-
  Off the shelf: math/bits.Mul; strings.Trim.
-/
namespace Go.Proofs.YtninglnchengeaaGreatDoor
open Go.RowKit Base
set_option linter.unusedVariables false
set_option linter.unusedSimpArgs false
namespace LayB
open Go.Shelf

def lays160_ren : Go.Shelf.Ren := ⟨fun | 160 => 80 | 232 => 97 | 231 => 96 | 227 => 98 | 234 => 100 | 233 => 99 | 236 => 102 | 235 => 101 | 228 => 122 | 271 => 125 | 151 => 124 | 197 => 123 | 120 => 137 | 152 => 136 | 260 => 135 | 137 => 143 | 119 => 144 | 224 => 141 | 225 => 140 | 217 => 139 | 266 => 145 | n => n, fun | 9 => 9 | 4 => 4 | 3 => 3 | 5 => 5 | 117 => 133 | 116 => 132 | 0 => 0 | 124 => 136 | 21 => 21 | 105 => 159 | 46 => 48 | 119 => 174 | 139 => 177 | 138 => 176 | n => n, fun | 3 => 1 | 4 => 2 | n => n⟩
theorem lays160 : Go.Proofs.Lays.n160 Tryz.prog lays160_ren := {
  mixed := by kernel_rfl
  f119 := Tryz.func144.trans (congrArg some (by kernel_rfl))
  f120 := Tryz.func137.trans (congrArg some (by kernel_rfl))
  f137 := Tryz.func143.trans (congrArg some (by kernel_rfl))
  f151 := Tryz.func124.trans (congrArg some (by kernel_rfl))
  f152 := Tryz.func136.trans (congrArg some (by kernel_rfl))
  f160 := Tryz.func80.trans (congrArg some (by kernel_rfl))
  f197 := Tryz.func123.trans (congrArg some (by kernel_rfl))
  f217 := Tryz.func139.trans (congrArg some (by kernel_rfl))
  f224 := Tryz.func141.trans (congrArg some (by kernel_rfl))
  f225 := Tryz.func140.trans (congrArg some (by kernel_rfl))
  f227 := Tryz.func98.trans (congrArg some (by kernel_rfl))
  f228 := Tryz.func122.trans (congrArg some (by kernel_rfl))
  f231 := Tryz.func96.trans (congrArg some (by kernel_rfl))
  f232 := Tryz.func97.trans (congrArg some (by kernel_rfl))
  f233 := Tryz.func99.trans (congrArg some (by kernel_rfl))
  f234 := Tryz.func100.trans (congrArg some (by kernel_rfl))
  f235 := Tryz.func101.trans (congrArg some (by kernel_rfl))
  f236 := Tryz.func102.trans (congrArg some (by kernel_rfl))
  f260 := Tryz.func135.trans (congrArg some (by kernel_rfl))
  f266 := Tryz.func145.trans (congrArg some (by kernel_rfl))
  f271 := Tryz.func125.trans (congrArg some (by kernel_rfl))
  t0 := Tryz.underlying0
  a0 := Tryz.isAgg0
  z0 := Tryz.sizeOf0
  v0 := Tryz.zeroValue0
  t3 := Tryz.underlying3
  a3 := Tryz.isAgg3
  z3 := Tryz.sizeOf3
  v3 := Tryz.zeroValue3
  t4 := Tryz.underlying4
  a4 := Tryz.isAgg4
  z4 := Tryz.sizeOf4
  v4 := Tryz.zeroValue4
  t5 := Tryz.underlying5
  a5 := Tryz.isAgg5
  z5 := Tryz.sizeOf5
  v5 := Tryz.zeroValue5
  t9 := Tryz.underlying9
  a9 := Tryz.isAgg9
  z9 := Tryz.sizeOf9
  v9 := Tryz.zeroValue9
  t21 := Tryz.underlying21
  a21 := Tryz.isAgg21
  z21 := Tryz.sizeOf21
  v21 := Tryz.zeroValue21
  t46 := Tryz.underlying48
  a46 := Tryz.isAgg48
  z46 := Tryz.sizeOf48
  v46 := Tryz.zeroValue48
  t105 := Tryz.underlying159
  a105 := Tryz.isAgg159
  z105 := Tryz.sizeOf159
  v105 := Tryz.zeroValue159
  t116 := Tryz.underlying132
  a116 := Tryz.isAgg132
  z116 := Tryz.sizeOf132
  t117 := Tryz.underlying133
  a117 := Tryz.isAgg133
  z117 := Tryz.sizeOf133
  v117 := Tryz.zeroValue133
  t119 := Tryz.underlying174
  a119 := Tryz.isAgg174
  z119 := Tryz.sizeOf174
  t124 := Tryz.underlying136
  a124 := Tryz.isAgg136
  z124 := Tryz.sizeOf136
  v124 := Tryz.zeroValue136
  t138 := Tryz.underlying176
  a138 := Tryz.isAgg176
  z138 := Tryz.sizeOf176
  v138 := Tryz.zeroValue176
  t139 := Tryz.underlying177
  a139 := Tryz.isAgg177
  z139 := Tryz.sizeOf177
  v139 := Tryz.zeroValue177
  g3 := by kernel_rfl
  g4 := by kernel_rfl }
def lays212_ren : Go.Shelf.Ren := ⟨fun | 212 => 82 | 263 => 103 | 264 => 104 | n => n, fun | 46 => 48 | 51 => 137 | 146 => 138 | 53 => 42 | 148 => 140 | n => n, fun | n => n⟩
theorem lays212 : Go.Proofs.Lays.n212 Tryz.prog lays212_ren := {
  mixed := by kernel_rfl
  f212 := Tryz.func82.trans (congrArg some (by kernel_rfl))
  f263 := Tryz.func103.trans (congrArg some (by kernel_rfl))
  f264 := Tryz.func104.trans (congrArg some (by kernel_rfl))
  t46 := Tryz.underlying48
  a46 := Tryz.isAgg48
  z46 := Tryz.sizeOf48
  v46 := Tryz.zeroValue48
  t51 := Tryz.underlying137
  a51 := Tryz.isAgg137
  z51 := Tryz.sizeOf137
  v51 := Tryz.zeroValue137
  t53 := Tryz.underlying42
  a53 := Tryz.isAgg42
  z53 := Tryz.sizeOf42
  v53 := Tryz.zeroValue42
  t146 := Tryz.underlying138
  a146 := Tryz.isAgg138
  z146 := Tryz.sizeOf138
  v146 := Tryz.zeroValue138
  t148 := Tryz.underlying140
  a148 := Tryz.isAgg140
  z148 := Tryz.sizeOf140
  v148 := Tryz.zeroValue140 }

set_option maxRecDepth 100000 in
/-- strings.Trim at the bits '0' and '1'. -/
theorem trim_any (s : ByteArray) (w : World) (hs : s.size ≤ 9223372036854775807) :
    Calls Tryz.prog 80 #[.string s, .string ⟨#[48, 49]⟩] w fun e w' => e = .returned (.string ⟨(Lib.trimS s.data.toList [48, 49]).toArray⟩) ∧ Below w.heap.size w w' :=
  Any.strings_Trim_ascii lays160 Tryz.zeroValue132 (by kernel_rfl) s ⟨#[48, 49]⟩ w hs (by decide) (by
    intro j b hb
    match j, hb with
    | 0, hb => simp at hb; subst hb; decide
    | 1, hb => simp at hb; subst hb; decide)

theorem mul_any (x y : Nat) (hx : x < 18446744073709551616) (hy : y < 18446744073709551616) (w : World) :
    Calls Tryz.prog 82 #[.int .u64 x, .int .u64 y] w fun e w' => e = .returned (.tuple #[.int .u64 ((x * y / 18446744073709551616 : Nat) : Int), .int .u64 ((x * y % 18446744073709551616 : Nat) : Int)]) ∧ w' = w := Any.bits_Mul lays212 x y hx hy w
end LayB
end Go.Proofs.YtninglnchengeaaGreatDoor

/-
  slices.Repeat of one byte.
-/
namespace Go.Proofs.YtninglnchengeaaGreatDoor
open Go.RowKit Base
set_option linter.unusedVariables false
set_option linter.unusedSimpArgs false
namespace Repeat

theorem info_u8 : (Tryz.prog.info? 5).map (fun i => (i.zero, i.size, i.bytes)) = some (some (.int .u8 0), 1, 1) := by kernel_rfl
theorem size_u8 : (Tryz.prog.info? 5).map (·.size) = some 1 := by kernel_rfl

theorem mul1 (n : Nat) (hn : n < 18446744073709551616) (w : World) :
    Calls Tryz.prog 82 #[.int .u64 1, .int .u64 n] w fun e w' => e = .returned (.tuple #[.int .u64 0, .int .u64 n]) ∧ w' = w := by
  have h := LayB.mul_any 1 n (by decide) hn w
  rw [Nat.one_mul, Nat.div_eq_of_lt hn, Nat.mod_eq_of_lt hn] at h
  exact h

/-- copy within the walk: the operation written out. -/
theorem wpL_copy {P : Program} {w : World} {ops : Array Oper} {rest : List Oper} {dst : Option Tmp} {ty : TypeId} {pos : String} {af : Array Edge} {a : Act} {Q : Exit → Act → World → Prop}
    {d s : Operand} {dT sT elem : TypeId} (hu : P.underlying dT = some (.slice elem)) (hsz : (P.info? elem).map (·.size) = some 1)
    (dp sp : Option Addr) (dLen dCap sLen sCap : Nat) (hd : a.eval d = .slice dp dLen dCap) (hs : a.eval s = .slice sp sLen sCap)
    (g off : Nat) (cur : List Value) (t : TypeId) (hg : w.heap[g]? = some (.cells cur.toArray t (0, 0))) (cs : List Value) (hn : cs.length = Nat.min sLen dLen)
    (hpos : 0 < cs.length → dp = some ⟨g, off, none⟩ ∧ ∃ ad, sp = some ad ∧ ∀ j v, cs[j]? = some v → w.cell? (ad.add j) = some v)
    (hfit : off + cs.length ≤ cur.length) (h1 : ∀ v ∈ cs, v.oneCell' = true) (B : Nat) (w0 : World) (hb : Below B w0 w) (hBg : B ≤ g)
    (h : ∀ w', Hid (w'.heap[g]? = some (.cells (splice cur off cs).toArray t (0, 0))) → Below B w0 w' → wpList P ops Q rest (a.put dst (goInt cs.length)) w') :
    wpList P ops Q (⟨dst, .call { callee := .builtin .copy, args := #[d, s], argTypes := #[dT, sT] }, ty, pos, af, none⟩ :: rest) a w :=
  wpList_copy_splice rfl d s dT sT rfl elem hu hsz dp sp dLen dCap sLen sCap hd hs g off cur t hg cs hn hpos hfit h1 B w0 hb hBg h

def rowR (n k : Nat) : List Value := List.replicate k (.int .u8 48) ++ List.replicate (n - k) (.int .u8 0)
theorem rowR_len {n k : Nat} (h : k ≤ n) : (rowR n k).length = n := by unfold rowR; simp; omega
theorem rowR_full (n : Nat) : rowR n n = List.replicate n (.int .u8 48) := by unfold rowR; simp
theorem rowR_none (n : Nat) : rowR n 0 = List.replicate n (.int .u8 0) := by unfold rowR; simp
theorem splice_rep {n k m : Nat} (h : k + m ≤ n) : splice (rowR n k) k (List.replicate m (.int .u8 48)) = rowR n (k + m) := by
  unfold splice rowR
  rw [List.take_append_of_le_length (by simp), List.take_of_length_le (by simp), List.length_replicate, List.drop_append, List.drop_of_length_le (by simp), List.nil_append, List.length_replicate, List.drop_replicate]
  rw [← List.append_assoc, List.replicate_append_replicate]
  congr 2
  omega

theorem own_of {w : World} {B g n : Nat} (hB : B ≤ g) (hn : n ≤ 9223372036854775807) {e : TypeId} (hh : w.heap[g]? = some (.cells (rowR n n).toArray e (0, 0))) : w.ownsRow B e 1 (.slice (some ⟨g, 0, none⟩) n n) n (List.replicate n (.int .u8 48)) := by
  rw [rowR_full] at hh
  refine ⟨by simp, .inr ⟨g, n, _, rfl, hB, hh, Nat.le_refl _, by unfold maxLen; omega, by simp, by simp⟩⟩

theorem row_of {w : World} {B g n : Nat} {e : TypeId} (h : w.ownsRow B e 1 (.slice (some ⟨g, 0, none⟩) n n) n (List.replicate n (.int .u8 0))) : w.heap[g]? = some (.cells (rowR n 0).toArray e (0, 0)) := by
  obtain ⟨_, h2⟩ := h
  rcases h2 with ⟨h3, _⟩ | ⟨g', cap, cur, hv, _, hh, _, _, hcur, ht⟩
  · cases h3
  · simp only [Value.slice.injEq, Option.some.injEq, Addr.mk.injEq] at hv
    obtain ⟨⟨rfl, _⟩, _, rfl⟩ := hv
    rw [hh, rowR_none, ← ht, List.take_of_length_le (by rw [Array.length_toList, hcur]; omega)]

theorem cells_rep {w : World} {g n k : Nat} {e : TypeId} (h : w.heap[g]? = some (.cells (rowR n k).toArray e (0, 0))) (m : Nat) (hm : m ≤ k) (j : Nat) (v : Value) (hj : (List.replicate m (Value.int .u8 48))[j]? = some v) : w.cell? ((⟨g, 0, none⟩ : Addr).add j) = some v := by
  obtain ⟨hlt, hv⟩ := List.getElem?_eq_some_iff.1 hj
  rw [List.length_replicate] at hlt
  rw [List.getElem_replicate] at hv
  rw [Addr.add_lit, cell_of_row _ g (0 + j) _ e _ h, ← hv]
  unfold rowR
  rw [List.getElem?_toArray, List.getElem?_append_left (by simp; omega), List.getElem?_replicate, if_pos (by omega)]

/-- The bytes are copied onto themselves. -/
theorem copy_run {P : Program} {dT elem : TypeId} (hu : P.underlying dT = some (.slice elem)) (hsz : (P.info? elem).map (·.size) = some 1) (w : World) (g n k q : Nat) {e : TypeId}
    (hR : w.heap[g]? = some (.cells (rowR n k).toArray e (0, 0))) (hQ : Nat.min k (n - k) = q) (h1 : q ≤ k) (h2 : k + q ≤ n) {B : Nat} {w0 : World} (hb : Below B w0 w) (hB : B ≤ g) :
    ∃ w4, (Builtin.copy_ #[dT, dT] 3 #[.slice (some ⟨g, k, none⟩) (n - k) (n - k), .slice (some ⟨g, 0, none⟩) k n]).run P w.drew = .ok (.int .i64 q) w4 ∧ w4.heap[g]? = some (.cells (rowR n (k + q)).toArray e (0, 0)) ∧ Below B w0 w4 := by
  have hlen : (List.replicate q (Value.int .u8 48)).length = q := List.length_replicate
  have hfit : k + (List.replicate q (Value.int .u8 48)).length ≤ (rowR n k).toArray.size := by
    rw [List.size_toArray, rowR_len (by omega), hlen]; exact h2
  have hr := run_copy_row (P := P) w.drew dT dT 3 elem g k (n - k) (n - k) ⟨g, 0, none⟩ k n (rowR n k).toArray e (List.replicate q (.int .u8 48)) hu hsz hR (hlen.trans hQ.symm)
    (fun j v hj => cells_rep (w := w.drew) hR q h1 j v hj) hfit (fun v hv => by rw [List.eq_of_mem_replicate hv]; rfl)
  refine ⟨_, by rw [hr, hlen]; rfl, ?_, below_setRow hb.drew hB _⟩
  rw [setRow_heap w.drew g _ _ e _ hR]
  have := splice_rep h2
  unfold splice at this
  rw [← this]
  simp

set_option maxRecDepth 8000 in
set_option maxHeartbeats 2000000 in
theorem repeat_any (w : World) (g0 o0 c0 : Nat) (hs : Sl w (some ⟨g0, o0, none⟩) 1 c0 [.int .u8 48]) (n : Nat) (hn : n ≤ 1000000) :
    Calls Tryz.prog 48 #[.slice (some ⟨g0, o0, none⟩) 1 c0, .int .i64 n] w fun e w' => ∃ g, e = .returned (.slice (some ⟨g, 0, none⟩) n n) ∧ w'.ownsRow w.heap.size 5 1 (.slice (some ⟨g, 0, none⟩) n n) n (List.replicate n (.int .u8 48)) ∧ Below w.heap.size w w' := by
  have HS := Lib.hid hs
  have HM := Lib.hid (mul1 n (by omega) w)
  have hd1 : decide ((9223372036854775807 : Int) < (n : Int)) = false := decide_eq_false (by omega)
  have hd2 : ¬ (n : Int) < 0 := by omega
  have hd3 : ¬ (9223372036854775807 : Int) < (n : Int) := by omega
  clear hs
  go_enter Tryz.func48, Tryz.ntmps48
  go_wp2_with fail
  refine HM.out.mono ?_
  rintro e w1 ⟨rfl, rfl⟩
  go_upto_region 6 with fail
  clear hd1 hd2 hd3
  go_upto_region 7 with (at_make; (with_reducible refine wpL_make n (L := (n : Int)) (C := (n : Int)) info_u8 Tryz.underlying49 ?_ ?_ ?_ ?_ ?_ ?_ ?_ ?_); rfl; rfl; rfl; omega; omega; omega; omega; (intro g w2 hown hb hge hlt))
  have hrow := row_of hown
  have hsrc := HS.out.next hb
  have HROW := Lib.hid hrow
  have HSRC := Lib.hid hsrc
  have HB := Lib.hid hb
  clear hrow hsrc hown hb
  obtain ⟨m, hm0, hm3, hm1, hm2⟩ : ∃ m, Nat.min 1 n = m ∧ m ≤ 1 ∧ m ≤ n ∧ (1 ≤ n → 1 ≤ m) := ⟨_, rfl, Nat.min_le_left 1 n, Nat.min_le_right 1 n, fun h => Nat.le_min.2 ⟨Nat.le_refl _, h⟩⟩
  have HM0 := Lib.hid hm0
  clear hm0
  have hcs : ∀ j v, (List.replicate m (Value.int .u8 48))[j]? = some v → w2.cell? ((⟨g0, o0, none⟩ : Addr).add j) = some v := by
    intro j v hj
    obtain ⟨hlt, hv⟩ := List.getElem?_eq_some_iff.1 hj
    rw [List.length_replicate] at hlt
    have hj0 : j = 0 := by omega
    subst hj0
    rw [List.getElem_replicate] at hv
    obtain ⟨b', o', ha, _, hc⟩ := HSRC.out.cell 0 _ rfl
    simp only [Option.some.injEq, Addr.mk.injEq] at ha
    obtain ⟨rfl, rfl, _⟩ := ha
    rw [← hv, Addr.add_lit]
    exact hc
  have hfit : 0 + (List.replicate m (Value.int .u8 48)).length ≤ (rowR n 0).length := by
    rw [rowR_len (Nat.zero_le _), List.length_replicate]; omega
  have hone : ∀ v ∈ List.replicate m (Value.int .u8 48), v.oneCell' = true := by
    intro v hv
    rw [List.eq_of_mem_replicate hv]; rfl
  have HCS := Lib.hid hcs
  have HFIT := Lib.hid hfit
  have HONE := Lib.hid hone
  clear hcs hfit hone
  go_wp2_with ((with_reducible refine wpL_copy Tryz.underlying49 size_u8 (some ⟨g, 0, none⟩) (some ⟨g0, o0, none⟩) n n 1 c0 ?_ ?_ g 0 (rowR n 0) 5 HROW.out (List.replicate m (.int .u8 48)) ?_ (fun _ => ⟨rfl, ⟨g0, o0, none⟩, rfl, HCS.out⟩) HFIT.out HONE.out w1.heap.size w1 HB.out hge ?_); rfl; rfl; (exact List.length_replicate.trans HM0.out.symm); skip)
  intro w3 hw3 hb3
  have hw3' : Hid (w3.heap[g]? = some (.cells (rowR n m).toArray 5 (0, 0))) := by
    have h := hw3.out
    have e := splice_rep (n := n) (k := 0) (m := m) (by omega)
    rw [e, Nat.zero_add] at h
    exact h
  rw [List.length_replicate]
  clear hw3 HROW HSRC HS HM HB HCS HFIT HONE
  have HB3 := Lib.hid hb3
  have HM2 := Lib.hid hm2
  clear hb3 hm2
  go_wp2_with fail
  go_loopw [8] (fun i wr => ∃ k : Nat, k ≤ n ∧ (1 ≤ n → 1 ≤ k) ∧ i = .int .i64 k ∧ Hid (wr.heap[g]? = some (.cells (rowR n k).toArray 5 (0, 0))) ∧ Hid (Below w1.heap.size w1 wr)) (fun i _ => n - (intOf i).toNat)
  case atStart => exact ⟨m, hm1, HM2.out, rfl, hw3', HB3⟩
  case round =>
    obtain ⟨k, hk, hk1, rfl, hR, hB⟩ := hrel
    by_cases hlt : k < n
    · have hk1' := hk1 (by omega)
      clear hk1
      obtain ⟨q, hq0, hq1, hq2, hq3⟩ : ∃ q, Nat.min k (n - k) = q ∧ q ≤ k ∧ k + q ≤ n ∧ 1 ≤ q := ⟨_, rfl, Nat.min_le_left _ _, (by have : Nat.min k (n - k) ≤ n - k := Nat.min_le_right _ _; omega), Nat.le_min.2 ⟨hk1', by omega⟩⟩
      have HQ := Lib.hid hq0
      clear hq0
      have hne : ¬ (n = k) := by omega
      obtain ⟨w4, hrun, hg4, hb4⟩ := copy_run (P := Tryz.prog) Tryz.underlying49 size_u8 wr g n k q (e := 5) hR.out HQ.out hq1 hq2 (B := w1.heap.size) (w0 := w1) hB.out hge
      have HG4 := Lib.hid hg4
      have HB4 := Lib.hid hb4
      clear hg4 hb4
      go_wp2_with fail
      go_region
      all_goals
        go_wp2_with fail
        go_roundw
        case rel => exact ⟨k + q, hq2, fun _ => by omega, by go_num, HG4, HB4⟩
        case measure => simp [intOf]; omega
    · have hkn : k = n := by omega
      have hR' : Hid (wr.heap[g]? = some (.cells (rowR n n).toArray 5 (0, 0))) := by have h := hR.out; rw [hkn] at h; exact h
      clear hkn hk1
      go_wp2_with fail
      go_ret
      exact ⟨g, rfl, own_of hge (by omega) hR'.out, hB.out⟩
end Repeat
end Go.Proofs.YtninglnchengeaaGreatDoor

/-
  slices.Index and slices.Contains of []int.
-/
namespace Go.Proofs.YtninglnchengeaaGreatDoor
open Go.RowKit Base
set_option linter.unusedVariables false
set_option linter.unusedSimpArgs false
namespace Cont

theorem idx_take {xs : List Int} {x : Int} {k : Nat} (hk : k < xs.length) (h : decide (x ∈ xs.take k) = false) (hp : xs[k] ≠ x) : decide (x ∈ xs.take (k + 1)) = false := by
  rw [List.take_succ_eq_append_getElem hk]
  simp only [decide_eq_false_iff_not, List.mem_append, List.mem_singleton, not_or] at h ⊢
  exact ⟨h, fun e => hp e.symm⟩

set_option maxHeartbeats 1000000 in
theorem index_any (w : World) (a : Option Addr) (n c : Nat) (xs : List Int) (hsl : Sl w a n c (ints xs)) (x : Int) :
    Calls Tryz.prog 49 #[.slice a n c, .int .i64 x] w fun e w' => (∃ i : Int, e = .returned (.int .i64 i) ∧ (0 ≤ i ↔ x ∈ xs)) ∧ w = w' := by
  have HL : Hid (xs.length = n) := by have := hsl.len; rwa [ints_len] at this
  have hcap := hsl.cap
  have hbig := hsl.big
  have HSL := Lib.hid hsl
  clear hsl
  go_enter Tryz.func49, Tryz.ntmps49
  go_wp2
  go_loop [4, 8] (fun _ i => ∃ k : Nat, k ≤ n ∧ i = .int .i64 k ∧ Hid (decide (x ∈ xs.take k) = false)) (fun _ i => n - (intOf i).toNat)
  case atStart => exact ⟨0, Nat.zero_le _, rfl, by show _ = _; simp⟩
  case round =>
    obtain ⟨k, hk, rfl, hI⟩ := hrel
    by_cases hlt : k < n
    · obtain ⟨b, o, hx, rfl, hbs, hc⟩ := HSL.out.int hlt
      generalize hp : xs[k] = p at *
      have HP := Lib.hid hp
      clear hp
      by_cases hq : x = p
      · have v0 : (x == p) = true := by simp [hq]
        have HF : Hid (decide (x ∈ xs) = true) := by
          show _ = _
          rw [hq, ← HP.out]
          simp
        clear hq
        go_wp2
        go_ret
        exact ⟨⟨_, rfl, ⟨fun _ => of_decide_eq_true HF.out, fun _ => by omega⟩⟩, rfl⟩
      · have v0 : (x == p) = false := by simp [hq]
        have HF : Hid (decide (x ∈ xs.take (k + 1)) = false) := idx_take hx hI.out (by rw [HP.out]; exact fun e => hq e.symm)
        clear hq
        go_wp2
        go_round
        case rel => exact ⟨k + 1, by omega, by go_num, HF⟩
        case measure => simp [intOf]; omega
    · have HF : Hid (decide (x ∈ xs) = false) := by
        show _ = _
        have h := hI.out
        rwa [List.take_of_length_le (by have := HL.out; omega)] at h
      go_wp2
      go_ret
      exact ⟨⟨_, rfl, ⟨fun h => by omega, fun h => absurd h (of_decide_eq_false HF.out)⟩⟩, rfl⟩

set_option maxHeartbeats 1000000 in
theorem contains_any (w : World) (a : Option Addr) (n c : Nat) (xs : List Int) (hsl : Sl w a n c (ints xs)) (x : Int) :
    Calls Tryz.prog 79 #[.slice a n c, .int .i64 x] w fun e w' => e = .returned (.bool (decide (x ∈ xs))) ∧ w = w' := by
  have H := Lib.hid (index_any w a n c xs hsl x)
  clear hsl
  go_enter Tryz.func79, Tryz.ntmps79
  go_wp2_with fail
  refine H.out.mono ?_
  rintro e w1 ⟨⟨i, rfl, hi⟩, rfl⟩
  have HI := Lib.hid hi
  clear hi
  go_wp2_with fail
  go_ret
  exact ⟨ret_bool (decide_eq_decide.2 HI.out), rfl⟩

end Cont
end Go.Proofs.YtninglnchengeaaGreatDoor
