/-
  interlockref10.Units: it comes to what formula.Units does.
-/
import Derived.Test.YtpanpfbhdcanhaaRefUnitsP
import Derived.Test.YtpanpfbhdcanhaaUnitsTop
import Derived.Test.YtpanpfbhdcanhaaNorm
namespace Go.Proofs.Ytpanpfbhdcanhaa
open Go.RowKit Base
set_option linter.unusedVariables false
set_option linter.unusedSimpArgs false
namespace RefU
open Units (spec run outOf Out)
open RefC

theorem out_of {w w' : World} {s : List Int × Bool × Int} {a : Option Addr} {c : Nat} (out : List Int) (ok : Bool) (er : Int) (h : s = (out, ok, er)) (hs : Sl w' a out.length c (ints out)) (hb : Below w.heap.size w w') :
    Out w s.1 s.2.1 s.2.2 (.returned (.tuple #[.slice a out.length c, .bool ok, .int .i64 er])) w' := by subst h; exact ⟨a, c, rfl, hs, hb⟩

theorem assume_drop {l σ : List Int} {k : Nat} (hk : k < l.length) : UnitsP.assume (l.drop k) σ = if UnitsP.value σ l[k] < 0 then none else UnitsP.assume (l.drop (k + 1)) (UnitsP.put σ l[k]) := by
  rw [List.drop_eq_getElem_cons hk]; rfl

theorem zeros_put_le (σ : List Int) (x : Int) : UnitsP.zeros (UnitsP.put σ x) ≤ UnitsP.zeros σ := by
  unfold UnitsP.zeros UnitsP.put
  split
  · exact UnitsP.count_set_le _ _ _ (by decide)
  · exact UnitsP.count_set_le _ _ _ (by decide)

def lenOf : Value → Nat | .slice _ n _ => n | _ => 0

set_option maxHeartbeats 8000000 in
theorem units_any (w : World) (vars : Int) (a : Option Addr) (n c : Nat) (vs : List Value) (cls : List (List Int)) (hsl : Sl2 w a n c vs cls) (hw : Formula.Wf2 cls)
    (a1 : Option Addr) (n1 c1 : Nat) (l : List Int) (hl : Sl w a1 n1 c1 (ints l)) (hlw : Clause.Wf l) :
    Calls Try.prog 15 #[.agg #[.int .i64 vars, .slice a n c], .slice a1 n1 c1] w (Out w (spec vars cls l).1 (spec vars cls l).2.1 (spec vars cls l).2.2) := by
  have hal : Below w.heap.size w (w.alloc (.cells #[.int .i64 vars, .slice a n c] 24)) := (Below.refl _ _).alloc (Nat.le_refl _) _
  have hc0 : (w.alloc (.cells #[.int .i64 vars, .slice a n c] 24)).cell? ⟨w.heap.size, 0, none⟩ = some (.int .i64 vars) := by simp
  have hc1 : (w.alloc (.cells #[.int .i64 vars, .slice a n c] 24)).cell? ⟨w.heap.size, 1, none⟩ = some (.slice a n c) := by simp
  have hz0 : (w.alloc (.cells #[.int .i64 vars, .slice a n c] 24)).heap.size = w.heap.size + 1 := by simp
  have HSL := Lib.hid (hsl.next hal)
  have HSL1 := Lib.hid (hl.next hal)
  have HC0 := Lib.hid hc0
  have HC1 := Lib.hid hc1
  have HZ0 := Lib.hid hz0
  have HAL := Lib.hid hal
  have HL := Lib.hid hsl.len
  have HL1 : Hid (l.length = n1) := by have := hl.len; rwa [ints_len] at this
  have HWF := Lib.hid hw
  have HLW := Lib.hid hlw
  have hcap := hsl.sl.cap
  have hbig := hsl.sl.big
  have hcap1 := hl.cap
  have hbig1 := hl.big
  clear hc0 hc1 hz0 hal hsl hw hl hlw
  go_enter Try.func15, Try.ntmps15
  go_wp2_with fail
  generalize w.alloc (.cells #[.int .i64 vars, .slice a n c] 24) = W at *
  have c0 := HC0.out
  have k1 := HC1.out
  refine (Formula.ref_any W vars a n c vs cls HSL.out HWF.out).mono ?_
  rintro e w1 ⟨rfl, hb1⟩
  have d0 : w1.cell? ⟨w.heap.size, 0, none⟩ = some (.int .i64 vars) := (hb1.cell (p := ⟨w.heap.size, 0, none⟩) (by rw [HZ0.out]; exact Nat.lt_succ_self _)).trans c0
  have d1 : w1.cell? ⟨w.heap.size, 1, none⟩ = some (.slice a n c) := (hb1.cell (p := ⟨w.heap.size, 1, none⟩) (by rw [HZ0.out]; exact Nat.lt_succ_self _)).trans k1
  have hlt1 : w.heap.size < w1.heap.size := by have := hb1.size; have := HZ0.out; omega
  have hbw1 : Below w.heap.size w w1 := HAL.out.trans (hb1.mono HAL.out.size)
  have HBW1 := Lib.hid hbw1
  clear c0 k1 hbw1
  by_cases hc : Formula.check vars cls = 0
  · have t1 : (Formula.check vars cls != 0) = false := by rw [bne, beq_iff_eq.2 hc]; rfl
    have hv : 0 ≤ vars ∧ vars ≤ 262144 := by
      have h := hc
      unfold Formula.check at h
      split at h
      · omega
      · rename_i hb
        unfold Formula.bad at hb
        simp only [Bool.not_eq_true, Bool.or_eq_false_iff, decide_eq_false_iff_not] at hb
        omega
    have HC := Lib.hid hc
    clear hc
    generalize hq : Formula.check vars cls = q at *
    have HQ := Lib.hid hq
    clear hq
    obtain ⟨V, rfl⟩ : ∃ V : Nat, vars = V := ⟨vars.toNat, by omega⟩
    have hV : V ≤ 262144 := by omega
    clear hv
    have HLIT : Hid (∀ c ∈ cls, ∀ x ∈ c, UnitsP.lit (V + 1) x) := fun c hc x hx => Units.check_lit (HQ.out.trans HC.out) c hc x hx
    have HD0 := Lib.hid d0
    have HD1 := Lib.hid d1
    clear d0 d1
    go_wp2_with fail
    go_loopw [7] (fun i wr => ∃ k : Nat, k ≤ n1 ∧ i = .int .i64 k ∧ Hid ((l.take k).any (Clause.badL V) = false) ∧ Below w1.heap.size w1 wr) (fun i _ => n1 - (intOf i).toNat)
    case atStart => exact ⟨0, Nat.zero_le _, rfl, rfl, Below.refl _ _⟩
    case round =>
      obtain ⟨k, hk, rfl, hI, hbr⟩ := hrel
      by_cases hlt : k < n1
      · obtain ⟨b, o, hx, rfl, hbs, hc⟩ := ((HSL1.out.next hb1).next hbr).int hlt
        have hd0 := (hbr.cell (p := ⟨w.heap.size, 0, none⟩) hlt1).trans HD0.out
        have HR := Lib.hid (fun (U : World) => Clause.refAbs_any l[k] (HLW.out _ (List.getElem_mem hx)).1 (HLW.out _ (List.getElem_mem hx)).2 U)
        have HBAD : Hid (Clause.badL V l[k] = (decide (Clause.absI l[k] < 1) || decide ((V : Int) < Clause.absI l[k]))) := rfl
        generalize hy : l[k] = x at *
        have HY := Lib.hid hy
        clear hy
        generalize Clause.absI x = y at *
        by_cases h1 : y < 1
        · have hd : decide (y < 1) = true := decide_eq_true h1
          have HS : Hid (spec V cls l = ([], false, 4)) := by
            show _ = _; unfold spec; rw [HQ.out, HC.out, if_pos rfl, if_pos (Formula.any_hit hx (by rw [HY.out, HBAD.out, hd]; rfl))]
          go_wp2_with fail
          go_quiet ((go_at_call 27; exact Calls.quiet_of_same ((HR.out _).mono fun e w' h => ⟨h.1, h.2.symm⟩)))
          go_wp2_with fail
          exact bodyPost_ret (v := .tuple #[.slice none 0 0, .bool false, .int .i64 4]) (by simp [results, Try.results15, go_sem]) rfl (out_of [] false 4 HS.out (Sl.nil _) (HBW1.out.trans (below_drewN (hbr.mono HBW1.out.size) _)))
        · have hd : decide (y < 1) = false := decide_eq_false h1
          by_cases h2 : (V : Int) < y
          · have hd2 : decide ((V : Int) < y) = true := decide_eq_true h2
            have HS : Hid (spec V cls l = ([], false, 4)) := by
              show _ = _; unfold spec; rw [HQ.out, HC.out, if_pos rfl, if_pos (Formula.any_hit hx (by rw [HY.out, HBAD.out, hd2]; simp))]
            go_wp2_with fail
            go_quiet ((go_at_call 27; exact Calls.quiet_of_same ((HR.out _).mono fun e w' h => ⟨h.1, h.2.symm⟩)))
            go_wp2_with fail
            exact bodyPost_ret (v := .tuple #[.slice none 0 0, .bool false, .int .i64 4]) (by simp [results, Try.results15, go_sem]) rfl (out_of [] false 4 HS.out (Sl.nil _) (HBW1.out.trans (below_drewN (hbr.mono HBW1.out.size) _)))
          · have hd2 : decide ((V : Int) < y) = false := decide_eq_false h2
            have HB : Hid (Clause.badL V l[k] = false) := by show _ = _; rw [HY.out, HBAD.out, hd, hd2]; rfl
            go_wp2_with fail
            go_quiet ((go_at_call 27; exact Calls.quiet_of_same ((HR.out _).mono fun e w' h => ⟨h.1, h.2.symm⟩)))
            go_wp2_with fail
            go_roundw
            case rel => exact ⟨k + 1, by omega, by go_num, Formula.any_take_more hx hI.out HB.out, below_drewN hbr _⟩
            case measure => simp [intOf]; omega
      · have HLB : Hid (l.any (Clause.badL V) = false) := by
          show _ = _
          have h := hI.out
          rwa [List.take_of_length_le (by have := HL1.out; omega)] at h
        have HLL : Hid (∀ x ∈ l, UnitsP.lit (V + 1) x) := fun x hx => by
          have h := List.any_eq_false.1 HLB.out x hx
          exact Units.badL_lit (vars := V) (by omega) (by omega) (by simpa using h)
        have HRUN : Hid (spec V cls l = (outOf (run V cls l), (run V cls l).isSome, 0)) := by show _ = _; unfold spec; rw [HQ.out, HC.out, if_pos rfl, HLB.out]; rfl
        have hk1 : ¬ ((k : Int) < n1) := by omega
        clear hk hlt hI
        go_wp2_with fail
        generalize wr = wo at *
        go_loopw [8, 9] (fun s i wr => ∃ (k m : Nat) (σ S : List Int), k ≤ n1 ∧ i = .int .i64 k ∧ Hid (UnitsP.assume l (Units.start V) = UnitsP.assume (l.drop k) σ) ∧ Hid (Rel σ S) ∧ Hid (σ.length = V + 1) ∧ Hid (S.length = m) ∧ Hid (m + UnitsP.zeros σ ≤ V + 1) ∧
          (∃ a' c', s = .slice a' m c' ∧ wr.ownsRow w1.heap.size 3 1 (.slice a' m c') m (ints S)) ∧ Below w1.heap.size w1 wr) (fun _ i _ => n1 - (intOf i).toNat)
        case atStart =>
          refine ⟨0, 0, Units.start V, [], Nat.zero_le _, rfl, rfl, ?_, ?_, rfl, ?_, ⟨none, 0, rfl, World.ownsRow_nil _ _ _ _⟩, hbr⟩
          · show Rel _ _; unfold Units.start; rw [Int.toNat_natCast]; exact rel_start V
          · show _ = _; unfold Units.start; simp
          · show _ ≤ _; unfold UnitsP.zeros; have := List.count_le_length (a := (0 : Int)) (l := Units.start V); unfold Units.start at this ⊢; simp at this ⊢
        case round =>
          obtain ⟨k, m, σ, S, hk, rfl, hA, hR, hSL, hM, hZ, ⟨a', c', rfl, hown⟩, hbr'⟩ := hrel
          obtain ⟨a9, c9, e9, hs9⟩ := own_sl hown
          simp only [Value.slice.injEq] at e9
          obtain ⟨rfl, _, rfl⟩ := e9
          have hcap' := hs9.cap
          have hbig' := hs9.big
          have HS := Lib.hid hs9
          have HO := Lib.hid hown
          clear hs9 hown
          by_cases hlt : k < n1
          · obtain ⟨b, o, hx, rfl, hbs, hc⟩ := ((HSL1.out.next hb1).next hbr').int hlt
            have hlx : UnitsP.lit σ.length l[k] := by rw [hSL.out]; exact HLL.out _ (List.getElem_mem hx)
            have HXL := Lib.hid hlx
            have HV := Lib.hid (value_any wr a' m c' S HS.out l[k] (by have := hlx.2.1; have := hSL.out; omega) (by have := hlx.2.2; have := hSL.out; omega))
            have HVV := Lib.hid (hR.out.val _ hlx)
            have HAD := Lib.hid (hA.out.trans (assume_drop hx))
            clear hlx
            generalize hy : l[k] = x at *
            have HY := Lib.hid hy
            clear hy
            rcases valueL_cases S x with ⟨e, _⟩ | ⟨e, _⟩ | ⟨e, _⟩
            · rw [e] at HV
              have HE := Lib.hid e
              clear e
              go_wp2_with fail
              refine HV.out.mono ?_; rintro e w2 ⟨rfl, rfl⟩
              go_wp2_with fail
              refine HV.out.mono ?_; rintro e w2 ⟨rfl, rfl⟩
              go_wp2_with fail
              go_roundw
              case rel =>
                refine ⟨k + 1, m, UnitsP.put σ x, S, by omega, by go_num, ?_, rel_old hR.out HXL.out HE.out, ?_, hM, ?_, ⟨a', c', rfl, HO.out⟩, hbr'⟩
                · show _ = _; rw [HAD.out, ← HVV.out, HE.out]; rfl
                · show _ = _; rw [UnitsP.put_length, hSL.out]
                · show _ ≤ _
                  exact Nat.le_trans (Nat.add_le_add_left (zeros_put_le σ x) m) hZ.out
              case measure => simp [intOf]; omega
            · rw [e] at HV
              have HN : Hid (run V cls l = none) := by
                show _ = _; unfold run; rw [HAD.out, ← HVV.out, e]; rfl
              clear e
              go_wp2_with fail
              refine HV.out.mono ?_; rintro e w2 ⟨rfl, rfl⟩
              go_wp2_with fail
              exact bodyPost_ret (v := .tuple #[.slice none 0 0, .bool false, .int .i64 0]) (by simp [results, Try.results15, go_sem]) rfl (out_of [] false 0 (by rw [HRUN.out, HN.out]; rfl) (Sl.nil _) (HBW1.out.trans (hbr'.mono HBW1.out.size)))
            · rw [e] at HV
              have HE := Lib.hid e
              clear e
              have hzp := UnitsP.zeros_put σ x HXL.out (by rw [← HVV.out]; exact HE.out)
              have hZ' := hZ.out
              have hm : m ≤ 262145 := by omega
              clear hZ'
              have HZP := Lib.hid hzp
              clear hzp
              go_wp2_with fail
              refine HV.out.mono ?_; rintro e w2 ⟨rfl, rfl⟩
              go_wp2_with fail
              refine HV.out.mono ?_; rintro e w2 ⟨rfl, rfl⟩
              go_wp2_with ((with_reducible refine wpL_push (B := w1.heap.size) (W := w1) wr (.int .i64 x) _ m (ints S) info_int Try.underlying25 ?_ ?_ ?_ ?_ ?_ HO.out ?_ ?_ ?_ hbr' ?_); rfl; rfl; rfl; rfl; rfl; (exact hbr'.size); omega; omega; (intro a3 c3 w3 hown3 hb3 hsz3))
              go_roundw
              case rel =>
                refine ⟨k + 1, m + 1, UnitsP.put σ x, S ++ [x], by omega, by go_num, ?_, rel_new hR.out HXL.out HE.out, ?_, ?_, ?_, ⟨a3, c3, rfl, ?_⟩, hb3⟩
                · show _ = _; rw [HAD.out, ← HVV.out, HE.out]; rfl
                · show _ = _; rw [UnitsP.put_length, hSL.out]
                · show _ = _; rw [List.length_append, hM.out]; rfl
                · show _ ≤ _; have h1 := hZ.out; have h2 := HZP.out; omega
                · rw [← ints_app]; exact hown3
              case measure => simp [intOf]; omega
          · have HRA : Hid (run V cls l = UnitsP.close cls (UnitsP.zeros σ + 1) σ) := by
              show _ = _
              have h := hA.out
              rw [List.drop_eq_nil_of_le (by have := HL1.out; omega)] at h
              unfold run
              rw [h]; rfl
            have hk1 : ¬ ((k : Int) < n1) := by omega
            clear hk hlt hA
            go_wp2_with fail
            go_loopw [8, 10] (fun s i wr => ∃ (m : Nat) (nn : Int) (σ S : List Int), i = .int .i64 nn ∧ -1 ≤ nn ∧ nn ≤ m ∧ Hid (Rel σ S) ∧ Hid (σ.length = V + 1) ∧ Hid (S.length = m) ∧ Hid (m + UnitsP.zeros σ ≤ V + 1) ∧
              Hid ((nn < m ∧ run V cls l = UnitsP.close cls (UnitsP.zeros σ + 1) σ) ∨ (nn = m ∧ run V cls l = some σ)) ∧
              (∃ a' c', s = .slice a' m c' ∧ wr.ownsRow w1.heap.size 3 1 (.slice a' m c') m (ints S)) ∧ Below w1.heap.size w1 wr) (fun s i _ => 2 * (V + 1 - lenOf s) + (if intOf i < lenOf s then 1 else 0))
            case atStart => exact ⟨m, -1, σ, S, rfl, by omega, by omega, hR, hSL, hM, hZ, .inl ⟨by omega, HRA.out⟩, ⟨a', c', rfl, HO.out⟩, hbr'⟩
            case round =>
              clear hbr' HS HO hR hSL hM hZ HRA hcap' hbig'
              obtain ⟨m, nn, σ, S, rfl, hn0, hn1, hR, hSL, hM, hZ, hOR, ⟨a', c', rfl, hown⟩, hbr'⟩ := hrel
              obtain ⟨a9, c9, e9, hs9⟩ := own_sl hown
              simp only [Value.slice.injEq] at e9
              obtain ⟨rfl, _, rfl⟩ := e9
              have hcap' := hs9.cap
              have hbig' := hs9.big
              have HS := Lib.hid hs9
              have HO := Lib.hid hown
              clear hs9 hown
              have hm : m ≤ 262145 := by have := hZ.out; omega
              by_cases hlt : nn < m
              · have HRC : Hid (run V cls l = UnitsP.close cls (UnitsP.zeros σ + 1) σ) := by
                  rcases hOR.out with ⟨_, h⟩ | ⟨h, _⟩
                  · exact h
                  · omega
                clear hOR
                go_wp2_with fail
                go_loopw [8, 11] (fun s i wr => ∃ (k m' : Nat) (τ T : List Int), k ≤ n ∧ i = .int .i64 k ∧ m ≤ m' ∧ Hid (UnitsP.pass cls σ false = UnitsP.pass (cls.drop k) τ (decide (m < m'))) ∧ Hid (Rel τ T) ∧ Hid (τ.length = V + 1) ∧ Hid (T.length = m') ∧ Hid (m' + UnitsP.zeros τ ≤ V + 1) ∧
                  (∃ a' c', s = .slice a' m' c' ∧ wr.ownsRow w1.heap.size 3 1 (.slice a' m' c') m' (ints T)) ∧ Below w1.heap.size w1 wr) (fun _ i _ => n - (intOf i).toNat)
                case atStart => exact ⟨0, m, σ, S, Nat.zero_le _, rfl, Nat.le_refl _, by show _ = _; simp, hR, hSL, hM, hZ, ⟨a', c', rfl, HO.out⟩, hbr'⟩
                case round =>
                  clear hbr' HS HO hcap' hbig'
                  obtain ⟨k, m', τ, T, hk, rfl, hmm, hP, hR', hSL', hM', hZ', ⟨a', c', rfl, hown⟩, hbr'⟩ := hrel
                  obtain ⟨a9, c9, e9, hs9⟩ := own_sl hown
                  simp only [Value.slice.injEq] at e9
                  obtain ⟨rfl, _, rfl⟩ := e9
                  have hcap' := hs9.cap
                  have hbig' := hs9.big
                  have HS := Lib.hid hs9
                  have HO := Lib.hid hown
                  clear hs9 hown
                  have hm' : m' ≤ 262145 := by have := hZ'.out; omega
                  have hd1 := (hbr'.cell (p := ⟨w.heap.size, 1, none⟩) hlt1).trans HD1.out
                  by_cases hltk : k < n
                  · obtain ⟨b, o, a6, c6, hx, rfl, hbs, hc, hrow, _⟩ := ((HSL.out.next hb1).next hbr').at hltk
                    have hlk : ∀ x ∈ cls[k], UnitsP.lit τ.length x := fun x hx' => by rw [hSL'.out]; exact HLIT.out _ (List.getElem_mem hx) x hx'
                    have HLK := Lib.hid hlk
                    have HAL' := Lib.hid (ask_left hR'.out cls[k] hlk)
                    have HLEFT := Lib.hid (left_any wr a6 cls[k].length c6 cls[k] hrow (fun x hx' => by have h := hlk x hx'; have h2 := hSL'.out; unfold UnitsP.lit at h; omega) a' m' c' T HS.out)
                    have HPA := Lib.hid (show UnitsP.pass cls σ false = UnitsP.pass (cls[k] :: cls.drop (k + 1)) τ (decide (m < m')) by rw [hP.out, List.drop_eq_getElem_cons hx])
                    clear hrow hlk hP
                    generalize hq : UnitsP.ask τ cls[k] = q at *
                    have HQ' := Lib.hid hq
                    clear hq
                    generalize cls[k] = ck at *
                    generalize hlen : ck.length = lk at *
                    clear hlen
                    cases q with
                    | none =>
                      have HN : Hid (run V cls l = none) := by
                        show _ = _
                        rw [HRC.out]
                        simp only [UnitsP.close, HPA.out, Units.pass_no τ ck _ _ HQ'.out]
                      rw [HAL'.out] at HLEFT
                      go_wp2_with fail
                      refine HLEFT.out.mono ?_; rintro e w2 ⟨rfl, rfl⟩
                      go_wp2_with fail
                      exact bodyPost_ret (v := .tuple #[.slice none 0 0, .bool false, .int .i64 0]) (by simp [results, Try.results15, go_sem]) rfl (out_of [] false 0 (by rw [HRUN.out, HN.out]; rfl) (Sl.nil _) (HBW1.out.trans (hbr'.mono HBW1.out.size)))
                    | some x =>
                      rw [HAL'.out] at HLEFT
                      by_cases hx0 : x = 0
                      · subst hx0
                        have HP := Lib.hid (HPA.out.trans (Units.pass_miss τ ck _ _ HQ'.out))
                        go_wp2_with fail
                        refine HLEFT.out.mono ?_; rintro e w2 ⟨rfl, rfl⟩
                        go_wp2_with fail
                        go_roundw
                        case rel => exact ⟨k + 1, m', τ, T, by omega, by go_num, hmm, HP, hR', hSL', hM', hZ', ⟨a', c', rfl, HO.out⟩, hbr'⟩
                        case measure => simp [intOf]; omega
                      · have t2 : (x != 0) = true := by rw [bne, beq_eq_false_iff_ne.2 hx0]; rfl
                        have hval := UnitsP.ask_val τ ck x HQ'.out hx0
                        have HP := Lib.hid (HPA.out.trans (Units.pass_hit τ ck _ _ x HQ'.out hx0))
                        have HXL := Lib.hid (HLK.out x hval.2)
                        have HVV : Hid (valueL T x = 0) := (hR'.out.val x (HLK.out x hval.2)).trans hval.1
                        have HZP := Lib.hid (UnitsP.zeros_put τ x (HLK.out x hval.2) hval.1)
                        clear hval hx0
                        go_wp2_with fail
                        refine HLEFT.out.mono ?_; rintro e w2 ⟨rfl, rfl⟩
                        go_wp2_with ((with_reducible refine wpL_push (B := w1.heap.size) (W := w1) wr (.int .i64 x) _ m' (ints T) info_int Try.underlying25 ?_ ?_ ?_ ?_ ?_ HO.out ?_ ?_ ?_ hbr' ?_); rfl; rfl; rfl; rfl; rfl; (exact hbr'.size); omega; omega; (intro a3 c3 w3 hown3 hb3 hsz3))
                        go_roundw
                        case rel =>
                          refine ⟨k + 1, m' + 1, UnitsP.put τ x, T ++ [x], by omega, by go_num, by omega, ?_, rel_new hR'.out HXL.out HVV.out, ?_, ?_, ?_, ⟨a3, c3, rfl, ?_⟩, hb3⟩
                          · show _ = _; rw [HP.out, decide_eq_true (show m < m' + 1 by omega)]
                          · show _ = _; rw [UnitsP.put_length, hSL'.out]
                          · show _ = _; rw [List.length_append, hM'.out]; rfl
                          · show _ ≤ _; have h1 := hZ'.out; have h2 := HZP.out; omega
                          · rw [← ints_app]; exact hown3
                        case measure => simp [intOf]; omega
                  · have HPA := Lib.hid (show UnitsP.pass cls σ false = some (τ, decide (m < m')) by rw [hP.out, List.drop_of_length_le (by rw [HL.out]; omega)]; rfl)
                    have hlσ : ∀ c ∈ cls, ∀ x ∈ c, UnitsP.lit σ.length x := by rw [hSL.out]; exact HLIT.out
                    have HC2 : Hid (((m : Int) < m' ∧ run V cls l = UnitsP.close cls (UnitsP.zeros τ + 1) τ) ∨ ((m : Int) = m' ∧ run V cls l = some τ)) := by
                      show _ ∨ _
                      by_cases hb : m < m'
                      · left
                        refine ⟨by omega, ?_⟩
                        rw [HRC.out]
                        refine UnitsP.close_step cls σ hlσ τ ?_
                        rw [HPA.out, decide_eq_true hb]
                      · right
                        refine ⟨by omega, ?_⟩
                        rw [HRC.out]
                        simp only [UnitsP.close, HPA.out, decide_eq_false hb, Bool.false_eq_true, if_false]
                    clear hlσ hP
                    have hkn : ¬ ((k : Int) < n) := by omega
                    clear hltk hk
                    go_wp2_with fail
                    go_roundw
                    case rel => exact ⟨m', m, τ, T, rfl, by omega, by omega, hR', hSL', hM', hZ', HC2, ⟨a', c', rfl, HO.out⟩, hbr'⟩
                    case measure =>
                      have h1 := hZ'.out
                      show 2 * (V + 1 - m') + (if (m : Int) < (m' : Int) then 1 else 0) < 2 * (V + 1 - m) + (if nn < (m : Int) then 1 else 0)
                      rw [if_pos hlt]
                      split <;> omega
              · have HRS : Hid (run V cls l = some σ) := by
                  rcases hOR.out with ⟨h, _⟩ | ⟨_, h⟩
                  · omega
                  · exact h
                have HNT := Lib.hid (norm_told hR.out (by rw [hSL.out]; omega))
                have HWS : Hid (Clause.Wf S) := fun x hx => by have h := hR.out.lits x hx; have h2 := hSL.out; unfold UnitsP.lit at h; omega
                have HNORM := Lib.hid (norm_any wr a' m c' S HS.out HWS.out (by omega))
                go_wp2_with fail
                refine HNORM.out.mono ?_
                rintro e w2 ⟨a3, c3, rfl, hown3, hb3⟩
                obtain ⟨a9, c9, e9, hs9⟩ := own_sl hown3
                simp only [Value.slice.injEq] at e9
                obtain ⟨rfl, _, rfl⟩ := e9
                go_wp2_with fail
                exact bodyPost_ret (v := .tuple #[.slice a3 (norm S).length c3, .bool true, .int .i64 0]) (by simp [results, Try.results15, go_sem]) rfl (out_of (norm S) true 0 (by rw [HRUN.out, HRS.out]; unfold outOf; rw [HNT.out]; rfl) hs9 (HBW1.out.trans ((hbr'.mono HBW1.out.size).trans (hb3.mono (Nat.le_trans HBW1.out.size hbr'.size)))))
  · have HQ : Hid (Formula.check vars cls = 9) := by
      show _ = _
      have h := hc
      unfold Formula.check at h ⊢
      split at h
      · rename_i hb; rw [if_pos hb]
      · exact absurd rfl h
    have HS : Hid (spec vars cls l = ([], false, 9)) := by show _ = _; unfold spec; rw [if_neg hc]
    rw [HQ.out]
    clear hc
    go_wp2_with fail
    exact bodyPost_ret (v := .tuple #[.slice none 0 0, .bool false, .int .i64 9]) (by simp [results, Try.results15, go_sem]) rfl (out_of [] false 9 HS.out (Sl.nil _) HBW1.out)
end RefU
end Go.Proofs.Ytpanpfbhdcanhaa
