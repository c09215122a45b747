/-
  lits.Var, lits.Check; facts.literals, tagged.
-/
import Derived.Test.YtgbpoeidpldmkaaFactS
import Derived.Test.YtgbpoeidpldmkaaSlfI
import Derived.Test.YtgbpoeidpldmkaaLitsSorted
import Derived.Test.YtgbpoeidpldmkaaEqI
import Derived.Test.YtgbpoeidpldmkaaLex
import Derived.Test.YtgbpoeidpldmkaaHeldTo
import Derived.Test.YtgbpoeidpldmkaaAbsP
import Derived.Laws.EntriesVeiled
namespace Go.Proofs.Ytgbpoeidpldmkaa
open Go.RowKit Base
set_option linter.unusedVariables false
set_option linter.unusedSimpArgs false
namespace Fact
open Vals (srt srt_spec)

def var (l : Int) : Int := max l 0 / 2

set_option maxHeartbeats 1000000 in
theorem var_any (l : Int) (h0 : -9223372036854775808 ≤ l) (h1 : l ≤ 9223372036854775807) (w : World) :
    Calls Try.prog 45 #[.int .i64 l] w fun e w' => e = .returned (.int .i64 (var l)) ∧ w = w' := by
  go_enter Try.func45, Try.ntmps45
  go_wp2
  all_goals
    go_ret
    exact ⟨ret_int (by unfold var; omega), rfl⟩

theorem eg_chk : SlfI.Enters 44 := enters_of Try.func44 (by kernel_rfl) rfl
theorem eg_t2 : SlfI.Enters 40 := enters_of Try.func40 (by kernel_rfl) rfl
theorem eg_t11 : Enters 39 := enters_of Try.func39 (by kernel_rfl) rfl

set_option maxHeartbeats 4000000 in
theorem chk1_any (w : World) (Bw Bm : Nat) (hw : w.cell? ⟨Bw, 0, none⟩ = some (.bool false)) (hm : w.cell? ⟨Bm, 0, none⟩ = some (.int .i64 2048)) (hlw : Bw < w.heap.size) (hlm : Bm < w.heap.size) (x : Int) (hx0 : -9223372036854775808 ≤ x) (hx1 : x ≤ 9223372036854775807) :
    Calls Try.prog 44 #[.int .i64 x, .pointer (some ⟨Bw, 0, none⟩), .pointer (some ⟨Bm, 0, none⟩)] w fun e w' => e = .returned (.bool (odd x)) ∧ Below w.heap.size w w' := by
  have HS := fun (U : World) (hU : Below w.heap.size w U) => (⟨hU, (hU.cell (p := ⟨Bw, 0, none⟩) hlw).trans hw, (hU.cell (p := ⟨Bm, 0, none⟩) hlm).trans hm⟩ : Below w.heap.size w U ∧ U.cell? ⟨Bw, 0, none⟩ = some (.bool false) ∧ U.cell? ⟨Bm, 0, none⟩ = some (.int .i64 2048))
  have LC1 := Lib.hid (fun (U : World) (hU : Below w.heap.size w U ∧ U.cell? ⟨Bw, 0, none⟩ = some (.bool false) ∧ U.cell? ⟨Bm, 0, none⟩ = some (.int .i64 2048)) => (var_any x hx0 hx1 U).mono (fun e w' h => (⟨h.1, h.2 ▸ hU⟩ : e = .returned (.int .i64 (var x)) ∧ Below w.heap.size w w' ∧ w'.cell? ⟨Bw, 0, none⟩ = some (.bool false) ∧ w'.cell? ⟨Bm, 0, none⟩ = some (.int .i64 2048))))
  have HF := Lib.hid (HS w.drew (Below.refl _ _).drew)
  have HOD : Hid (odd x = (decide (x < 0) || decide (2048 < var x))) := rfl
  clear HS hw hm hlw hlm hx0 hx1
  generalize hv : var x = v at *
  clear hv
  by_cases hx : x < 0
  · have hd : decide (x < 0) = true := decide_eq_true hx
    have HR : Hid (odd x = true) := by show _ = _; rw [HOD.out, hd]; rfl
    clear hx
    go_enter Try.func44, Try.ntmps44
    go_upto_region 1 with fail
    refine Lex.region (fun w' => Below w.heap.size w w' ∧ w'.cell? ⟨Bw, 0, none⟩ = some (.bool false) ∧ w'.cell? ⟨Bm, 0, none⟩ = some (.int .i64 2048)) (by kernel_rfl) (by kernel_rfl) HF.out ?_
    repeat (first
      | (refine Lex.step_val (v := ?_) ?_ (fun w' hSw => ?_) ?_; rotate_left; (focus (go_simp; done)); (focus ((try dsimp only at hSw); go_simp; (try with_reducible rfl); done)); (try simp only [Act.put, List.setIfInBounds_toArray, List.set_cons_zero, List.set_cons_succ]))
      | (refine Lex.step_call (v := ?_) (f := ?_) (args := ?_) ?_ (fun w' hSw => ?_) ?_ ?_; rotate_left 3; (focus (go_simp; done)); (focus ((try dsimp only at hSw); go_simp; (refine And.intro ?_ ?_ <;> with_reducible rfl); done)); (focus (first | with_reducible exact LC1.out)); (try simp only [Act.put, List.setIfInBounds_toArray, List.set_cons_zero, List.set_cons_succ]))
      | (refine Lex.step_off ?_ ?_; (focus (first | (go_simp; done) | (simp [Region.wanted, yielded, undef]; done) | rfl)); (try simp only [Act.put, List.setIfInBounds_toArray, List.set_cons_zero, List.set_cons_succ]))
      | fail)
    refine Lex.step_nil ?_
    intro wz hz
    go_wp2_with fail
    go_ret
    exact ⟨ret_bool HR.out.symm, hz.1⟩
  · have hd : decide (x < 0) = false := decide_eq_false hx
    have HR : Hid (odd x = decide (2048 < v)) := by show _ = _; rw [HOD.out, hd]; rfl
    clear hx
    generalize hq : decide (2048 < v) = q at *
    go_enter Try.func44, Try.ntmps44
    go_upto_region 1 with fail
    refine Lex.region (fun w' => Below w.heap.size w w' ∧ w'.cell? ⟨Bw, 0, none⟩ = some (.bool false) ∧ w'.cell? ⟨Bm, 0, none⟩ = some (.int .i64 2048)) (by kernel_rfl) (by kernel_rfl) HF.out ?_
    repeat (first
      | (refine Lex.step_val (v := ?_) ?_ (fun w' hSw => ?_) ?_; rotate_left; (focus (go_simp; done)); (focus ((try dsimp only at hSw); go_simp; (try with_reducible rfl); done)); (try simp only [Act.put, List.setIfInBounds_toArray, List.set_cons_zero, List.set_cons_succ]))
      | (refine Lex.step_call (v := ?_) (f := ?_) (args := ?_) ?_ (fun w' hSw => ?_) ?_ ?_; rotate_left 3; (focus (go_simp; done)); (focus ((try dsimp only at hSw); go_simp; (refine And.intro ?_ ?_ <;> with_reducible rfl); done)); (focus (first | with_reducible exact LC1.out)); (try simp only [Act.put, List.setIfInBounds_toArray, List.set_cons_zero, List.set_cons_succ]))
      | (refine Lex.step_off ?_ ?_; (focus (first | (go_simp; done) | (simp [Region.wanted, yielded, undef]; done) | rfl)); (try simp only [Act.put, List.setIfInBounds_toArray, List.set_cons_zero, List.set_cons_succ]))
      | fail)
    refine Lex.step_nil ?_
    intro wz hz
    go_wp2_with fail
    go_ret
    exact ⟨ret_bool HR.out.symm, hz.1⟩

set_option maxHeartbeats 2000000 in
theorem check_any (w : World) (a : Option Addr) (n c : Nat) (l : List Int) (hsl : Sl w a n c (ints l)) (hw : Clause.Wf l) :
    Calls Try.prog 36 #[.int .i64 2048, .slice a n c] w fun e w' => e = .returned (.int .i64 (if l.any odd = true then 4 else 0)) ∧ Below w.heap.size w w' := by
  have hlm : l.length = n := by have := hsl.len; rwa [ints_len] at this
  obtain ⟨W1, hW1⟩ : ∃ U, w.alloc (.cells #[.int .i64 2048] 3) = U := ⟨_, rfl⟩
  obtain ⟨U, hU⟩ : ∃ U, W1.alloc (.cells #[.bool false] 4) = U := ⟨_, rfl⟩
  have hb1 : Below w.heap.size w W1 := by rw [← hW1]; exact (Below.refl _ _).alloc (Nat.le_refl _) _
  have hb2 : Below W1.heap.size W1 U := by rw [← hU]; exact (Below.refl _ _).alloc (Nat.le_refl _) _
  have hz1 : w.heap.size < W1.heap.size := by rw [← hW1]; simp
  have hz2 : W1.heap.size < U.heap.size := by rw [← hU]; simp
  have u0 : U.cell? ⟨w.heap.size, 0, none⟩ = some (.int .i64 2048) := (hb2.cell (p := ⟨w.heap.size, 0, none⟩) hz1).trans (by rw [← hW1]; simp)
  have u1 : U.cell? ⟨W1.heap.size, 0, none⟩ = some (.bool false) := by rw [← hU]; simp
  have w0 : W1.cell? ⟨w.heap.size, 0, none⟩ = some (.int .i64 2048) := by rw [← hW1]; simp
  have hb := hb1.trans (hb2.mono hb1.size)
  have CF := SlfI.containsFunc U a n c (ints l) 44 #[] #[.pointer (some ⟨W1.heap.size, 0, none⟩), .pointer (some ⟨w.heap.size, 0, none⟩)] (l.map odd) (hsl.next hb) (by rw [List.length_map, hlm]) eg_chk (by
    intro V hV j y q hy hq
    obtain ⟨hj, rfl⟩ := Base.ints_at hy
    rw [List.getElem?_map, List.getElem?_eq_getElem hj] at hq
    simp only [Option.map_some, Option.some.injEq] at hq
    subst hq
    have hzV := hV.size
    exact chk1_any V W1.heap.size w.heap.size ((hV.cell (p := ⟨W1.heap.size, 0, none⟩) hz2).trans u1) ((hV.cell (p := ⟨w.heap.size, 0, none⟩) (Nat.lt_trans hz1 hz2)).trans u0) (by omega) (by omega) l[j] (hw _ (List.getElem_mem hj)).1 (hw _ (List.getElem_mem hj)).2)
  have hall : ((l.map odd).any id) = l.any odd := by
    rw [List.any_map]
    rfl
  rw [hall] at CF
  have HCF := Lib.hid CF
  have HB := Lib.hid hb
  have HU := Lib.hid hU
  clear CF hall hb hb1 hb2 hz1 hz2 u0 u1 hsl hw hU
  generalize l.any odd = q at *
  cases q
  all_goals
    go_enter Try.func36, Try.ntmps36
    go_wp2_with fail
    rw [HU.out]
    with_reducible refine HCF.out.mono ?_
    rintro e w3 ⟨rfl, hb3⟩
    have HB3 := Lib.hid (HB.out.trans (hb3.mono HB.out.size))
    clear hb3
    go_wp2_with fail
    go_ret
    exact ⟨rfl, HB3.out⟩

set_option maxHeartbeats 2000000 in
theorem literals_any (w : World) (a : Option Addr) (n c : Nat) (l : List Int) (hsl : Sl w a n c (ints l)) (hw : Clause.Wf l) :
    Calls Try.prog 29 #[.slice a n c] w fun e w' => e = .returned (.bool (litsOk l)) ∧ Below w.heap.size w w' := by
  have hlm : l.length = n := by have := hsl.len; rwa [ints_len] at this
  have HC := Lib.hid (check_any w a n c l hsl hw)
  have HS := Lib.hid (fun (U : World) (hU : Below w.heap.size w U) => hsl.next hU)
  have HL : Hid (litsOk l = (decide (n ≤ 64) && (!l.any odd && decide (l = srt l)))) := by show _ = _; unfold litsOk; rw [hlm]
  clear hsl hw hlm
  by_cases h1 : n ≤ 64
  · have hd : decide ((n : Int) ≤ 64) = true := decide_eq_true (by omega)
    rw [decide_eq_true h1] at HL
    have H1 := Lib.hid h1
    clear h1
    generalize l.any odd = q at *
    cases q
    · have HSO := Lib.hid (fun (U : World) (hU : Below w.heap.size w U) => Vals.lits_any U a n c l (HS.out U hU) (by have := H1.out; omega))
      go_enter Try.func29, Try.ntmps29
      go_wp2_with fail
      with_reducible refine HC.out.mono ?_
      rintro e w3 ⟨rfl, hb3⟩
      have HB3 := Lib.hid hb3
      have HS3 := Lib.hid (HSO.out w3 hb3)
      clear hb3
      go_wp2_with fail
      with_reducible refine HS3.out.mono ?_
      rintro e w4 ⟨a4, c4, rfl, ho4, hb4⟩
      have HB4 := Lib.hid (HB3.out.trans (hb4.mono HB3.out.size))
      have HE := Lib.hid (EqI.equal_any w4 a a4 n (srt l).length c c4 l (srt l) (HS.out w4 HB4.out) (own_slI ho4))
      clear ho4 hb4
      generalize decide (l = srt l) = q at *
      go_wp2_with fail
      with_reducible refine HE.out.mono ?_
      rintro e w5 ⟨rfl, m, rfl⟩
      go_wp2_with fail
      go_ret
      exact ⟨ret_bool HL.out.symm, below_drewN HB4.out m⟩
    · go_enter Try.func29, Try.ntmps29
      go_wp2_with fail
      with_reducible refine HC.out.mono ?_
      rintro e w3 ⟨rfl, hb3⟩
      have HB3 := Lib.hid hb3
      clear hb3
      go_wp2_with fail
      go_ret
      exact ⟨ret_bool (by rw [HL.out]; rfl), HB3.out⟩
  · have hd : decide ((n : Int) ≤ 64) = false := decide_eq_false (by omega)
    rw [decide_eq_false h1] at HL
    clear h1
    go_enter Try.func29, Try.ntmps29
    go_wp2_with fail
    go_ret
    exact ⟨ret_bool (by rw [HL.out]; rfl), Below.refl _ _⟩

/-! ### facts.tagged. -/
set_option maxHeartbeats 2000000 in
theorem t11_any (w : World) (Bi : Nat) (id : Int) (hc : w.cell? ⟨Bi, 0, none⟩ = some (.int .i64 id)) (hlt : Bi < w.heap.size) (f : Fc) (a1 : Option Addr) (c1 : Nat) (a2 : Option Addr) (c2 : Nat) :
    Calls Try.prog 39 #[fagg f a1 c1 a2 c2, .pointer (some ⟨Bi, 0, none⟩)] w fun e w' => e = .returned (.bool (f.id == id && f.kind == 1)) ∧ Below w.heap.size w w' := by
  unfold fagg
  obtain ⟨U, hU⟩ : ∃ U, w.alloc (.cells #[.int .i64 f.id, .int .i64 f.kind, .int .i64 f.depth, .slice a1 f.lits.length c1, .slice a2 f.tags.length c2] 31) = U := ⟨_, rfl⟩
  have hb : Below w.heap.size w U := by rw [← hU]; exact (Below.refl _ _).alloc (Nat.le_refl _) _
  have u0 : U.cell? ⟨w.heap.size, 0, none⟩ = some (.int .i64 f.id) := by rw [← hU]; simp [go_sem]
  have u1 : U.cell? ⟨w.heap.size, 1, none⟩ = some (.int .i64 f.kind) := by rw [← hU]; simp [go_sem]
  have hc1 := (hb.cell (p := ⟨Bi, 0, none⟩) hlt).trans hc
  have HB := Lib.hid hb
  clear hb hc hlt
  generalize hp : (f.id == id) = p at *
  cases p
  all_goals
    go_enter Try.func39, Try.ntmps39
    go_wp2_with fail
    go_ret
    exact ⟨rfl, HB.out⟩

set_option maxHeartbeats 2000000 in
theorem t1_any (w : World) (Bf : Nat) (a : Option Addr) (n c : Nat) (vs : List (List Value)) (l : List Fc) (hc : w.cell? ⟨Bf, 0, none⟩ = some (.slice a n c)) (hlt : Bf < w.heap.size) (hs : SlF w a n c vs l) (id : Int) :
    Calls Try.prog 38 #[.int .i64 id, .pointer (some ⟨Bf, 0, none⟩)] w fun e w' => e = .returned (.bool (known l id)) ∧ Below w.heap.size w w' := by
  obtain ⟨U, hU⟩ : ∃ U, w.alloc (.cells #[.int .i64 id] 3) = U := ⟨_, rfl⟩
  have hb : Below w.heap.size w U := by rw [← hU]; exact (Below.refl _ _).alloc (Nat.le_refl _) _
  have u0 : U.cell? ⟨w.heap.size, 0, none⟩ = some (.int .i64 id) := by rw [← hU]; simp [go_sem]
  have hz : w.heap.size < U.heap.size := by rw [← hU]; simp
  have hc1 := (hb.cell (p := ⟨Bf, 0, none⟩) hlt).trans hc
  have CF := containsFunc U a n c vs l 39 #[] #[.pointer (some ⟨w.heap.size, 0, none⟩)] (l.map fun f => f.id == id && f.kind == 1) (hs.next hb) (by rw [List.length_map, hs.len]) eg_t11 (by
    intro V hV i f a1 c1 a2 c2 b hf hq h1 h2
    rw [List.getElem?_map, hf] at hq
    simp only [Option.map_some, Option.some.injEq] at hq
    subst hq
    exact t11_any V w.heap.size id ((hV.cell (p := ⟨w.heap.size, 0, none⟩) hz).trans u0) (Nat.lt_of_lt_of_le hz hV.size) f a1 c1 a2 c2)
  have hall : ((l.map fun f => f.id == id && f.kind == 1).any _root_.id) = known l id := by
    rw [List.any_map]
    rfl
  rw [hall] at CF
  have HCF := Lib.hid CF
  have HB := Lib.hid hb
  clear CF hall hb hs hc u0
  generalize known l id = q at *
  go_enter Try.func38, Try.ntmps38
  go_wp2_with fail
  with_reducible refine HCF.out.mono ?_
  rintro e w3 ⟨rfl, hb3⟩
  have HB3 := Lib.hid (HB.out.trans (hb3.mono HB.out.size))
  clear hb3
  go_wp2_with fail
  go_ret
  exact ⟨rfl, HB3.out⟩

set_option maxHeartbeats 2000000 in
theorem t2_any (w : World) (Bk Bf : Nat) (a : Option Addr) (n c : Nat) (vs : List (List Value)) (l : List Fc) (hk : w.cell? ⟨Bk, 0, none⟩ = some (.func (.func 38) #[] #[.pointer (some ⟨Bf, 0, none⟩)])) (hc : w.cell? ⟨Bf, 0, none⟩ = some (.slice a n c)) (hlt : Bf < w.heap.size) (hs : SlF w a n c vs l) (id : Int) :
    Calls Try.prog 40 #[.int .i64 id, .pointer (some ⟨Bk, 0, none⟩)] w fun e w' => e = .returned (.bool (!known l id)) ∧ Below w.heap.size w w' := by
  have H := Lib.hid (t1_any w Bf a n c vs l hc hlt hs id)
  clear hc hlt hs
  generalize known l id = q at *
  go_enter Try.func40, Try.ntmps40
  go_wp2_with fail
  with_reducible refine H.out.mono ?_
  rintro e w3 ⟨rfl, hb3⟩
  go_wp2_with fail
  go_ret
  exact ⟨rfl, hb3⟩
end Fact
end Go.Proofs.Ytgbpoeidpldmkaa
