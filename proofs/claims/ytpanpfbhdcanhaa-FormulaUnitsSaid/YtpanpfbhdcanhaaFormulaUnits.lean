/-
  interlocklaw11.FormulaUnits: the walk.
-/
import Derived.Test.YtpanpfbhdcanhaaAlive
import Derived.Test.YtpanpfbhdcanhaaUnitsSound
import Derived.Test.YtpanpfbhdcanhaaModels
namespace Go.Proofs.Ytpanpfbhdcanhaa
open Go.RowKit Base ModelsP
set_option linter.unusedVariables false
set_option linter.unusedSimpArgs false
namespace LawUnits

theorem is_range {s : ByteArray} {x : Int} (h : CubeP.is s.data.toList x = true) : -(s.size : Int) ≤ x ∧ x ≤ s.size := by
  unfold CubeP.is at h
  simp only [Bool.and_eq_true, decide_eq_true_eq] at h
  have hl : (s.data.toList.length : Int) = s.size := by simp
  omega

set_option maxHeartbeats 4000000 in
theorem any (w : World) (vars : Int) (a : Option Addr) (n c : Nat) (vs : List Value) (cls : List (List Int)) (hsl : Sl2 w a n c vs cls) (hw : Formula.Wf2 cls)
    (a1 : Option Addr) (n1 c1 : Nat) (l : List Int) (hl : Sl w a1 n1 c1 (ints l)) (hlw : Clause.Wf l) :
    Calls Try.prog 3 #[.agg #[.int .i64 vars, .slice a n c], .slice a1 n1 c1] w fun e w' => e = .returned (.bool true) ∧ Below w.heap.size w w' := by
  have hal : Below w.heap.size w (w.alloc (.cells #[.int .i64 vars, .slice a n c] 24)) := (Below.refl _ _).alloc (Nat.le_refl _) _
  have hbox : Models.Box (w.alloc (.cells #[.int .i64 vars, .slice a n c] 24)) w.heap.size vars a n c := ⟨by simp, by simp, by simp⟩
  have HBOX := Lib.hid hbox
  have HSL := Lib.hid (hsl.next hal)
  have HSL1 := Lib.hid (hl.next hal)
  have HAL := Lib.hid hal
  have HWF := Lib.hid hw
  have HLW := Lib.hid hlw
  have HLAW := Lib.hid (Sound.law (vars := vars) (cls := cls) (l := l))
  clear hal hbox hsl hl hw hlw
  go_enter Try.func3, Try.ntmps3
  go_wp2_with fail
  generalize w.alloc (.cells #[.int .i64 vars, .slice a n c] 24) = W at *
  refine (Alive.alive_any W).mono ?_
  rintro e w1 ⟨rfl, hb1⟩
  have hx1 := HBOX.out.next hb1
  have c0 := hx1.c0
  have k1 := hx1.c1
  go_wp2_with fail
  have HU := Lib.hid (Units.units_any w1 vars a n c vs cls (HSL.out.next hb1) HWF.out a1 n1 c1 l (HSL1.out.next hb1) HLW.out)
  generalize Units.spec vars cls l = sp at *
  obtain ⟨out, ok, er⟩ := sp
  refine HU.out.mono ?_
  rintro e w2 ⟨ao, co, rfl, hso, hb2⟩
  have hx2 := hx1.next hb2
  clear c0 k1
  have c0 := hx2.c0
  have k1 := hx2.c1
  have hbW2 : Below W.heap.size W w2 := hb1.trans (hb2.mono hb1.size)
  have HEND : Hid (Below w.heap.size w w2) := HAL.out.trans (hbW2.mono HAL.out.size)
  by_cases he : er = 0
  · have HE0 := Lib.hid (HLAW.out.2 he)
    subst he
    by_cases h8 : 8 < vars
    · go_wp2_with fail
      refine (Alive.num_any _ _).mono ?_
      rintro e w3 ⟨rfl, rfl⟩
      go_wp2_with fail
      refine (Alive.num_any _ _).mono ?_
      rintro e w3 ⟨rfl, rfl⟩
      go_wp2_with fail
      go_ret
      exact ⟨by rfl, HEND.out⟩
    · have hv : 0 ≤ vars := by
        have h := HE0.out.1
        unfold Formula.check at h
        split at h
        · omega
        · rename_i hb
          unfold Formula.bad at hb
          simp only [Bool.not_eq_true, Bool.or_eq_false_iff, decide_eq_false_iff_not] at hb
          omega
      obtain ⟨V, rfl⟩ : ∃ V : Nat, vars = V := ⟨vars.toNat, by omega⟩
      have HM := Lib.hid (Models.models_any w2 V (by omega) a n c vs cls (HSL.out.next hbW2) HWF.out a1 n1 c1 l (HSL1.out.next hbW2) HLW.out)
      have HSZ : Hid (∀ y ∈ models V cls l, y.size ≤ 16) := fun y hy => by
        unfold models at hy
        rw [allS_size _ y (List.mem_filter.1 hy).1]
        omega
      generalize models V cls l = ms at *
      go_wp2_with fail
      refine (Alive.num_any _ _).mono ?_
      rintro e w3 ⟨rfl, rfl⟩
      go_wp2_with fail
      refine HM.out.mono ?_
      rintro e w3 ⟨am, cm, rfl, hsm, hb3⟩
      have HEND3 : Hid (Below w.heap.size w w3) := HEND.out.trans (hb3.mono HEND.out.size)
      have HSM := Lib.hid hsm
      have HSO := Lib.hid (hso.next hb3)
      clear hsm hso
      cases ok
      · have h := HE0.out.2.1 rfl
        obtain ⟨h1, h2⟩ := h
        subst h1; subst h2
        go_wp2_with fail
        go_ret
        exact ⟨by rfl, HEND3.out⟩
      · have HALL := Lib.hid (HE0.out.2.2 rfl)
        have HLM : Hid (ms.length = ms.length) := rfl
        have hmb : ms.length ≤ 9223372036854775807 := by have h1 := HSM.out.cap; have h2 := HSM.out.big; omega
        have hob : out.length ≤ 9223372036854775807 := by have h1 := HSO.out.cap; have h2 := HSO.out.big; omega
        obtain ⟨nm, hnm⟩ : ∃ nm, nm = ms.length := ⟨_, rfl⟩
        obtain ⟨no, hno⟩ : ∃ no, no = out.length := ⟨_, rfl⟩
        rw [← hnm] at HSM hmb
        rw [← hno] at HSO hob
        rw [← hnm]
        rw [← hno]
        have HNM := Lib.hid hnm
        have HNO := Lib.hid hno
        clear hnm hno
        go_wp2_with fail
        go_loopw [9] (fun i wr => ∃ k : Nat, k ≤ nm ∧ i = .int .i64 k ∧ Hid (∃ z, wr = w3.drewN z)) (fun i _ => nm - (intOf i).toNat)
        case atStart => exact ⟨0, Nat.zero_le _, rfl, 0, rfl⟩
        case round =>
          obtain ⟨k, hk, rfl, hdr⟩ := hrel
          by_cases hlt : k < nm
          · obtain ⟨g, q, hy, rfl, hgs, hcy0⟩ := str_at HSM.out hlt
            have HYM := Lib.hid (List.getElem_mem hy)
            generalize ms[k] = y at *
            generalize wr = wo at *
            go_wp2_with fail
            go_loopw [10] (fun i wr => ∃ j : Nat, j ≤ no ∧ i = .int .i64 j ∧ Hid (∃ z, wr = w3.drewN z)) (fun i _ => no - (intOf i).toNat)
            case atStart => exact ⟨0, Nat.zero_le _, rfl, hdr⟩
            case round =>
              obtain ⟨j, hj, rfl, hdr2⟩ := hrel
              have hbr : Below w3.heap.size w3 wr := by obtain ⟨z, rfl⟩ := hdr2.out; exact below_drewN (Below.refl _ _) z
              have hcy := (hbr.cell (p := ⟨g, q + k, none⟩) hgs).trans hcy0
              by_cases hjn : j < no
              · obtain ⟨g1, q1, hx1', rfl, hgs1, hcl⟩ := (HSO.out.next hbr).int hjn
                have htrue : CubeP.is y.data.toList out[j] = true := HALL.out y HYM.out out[j] (List.getElem_mem hx1')
                have hsz : y.size ≤ 16 := HSZ.out y HYM.out
                have hr := is_range htrue
                have HIS := Lib.hid (fun (U : World) => True.refIs_any y (by omega) out[j] (by omega) (by omega) U)
                rw [htrue] at HIS
                clear htrue hr
                generalize out[j] = x at *
                go_wp2_with fail
                go_quiet ((go_at_call 11; exact Calls.quiet_of_same ((HIS.out _).mono fun e w' h => ⟨h.1, h.2.symm⟩)))
                go_wp2_with fail
                go_roundw
                case rel => exact ⟨j + 1, by omega, by go_num, Models.drew_more hdr2.out _⟩
                case measure => simp [intOf]; omega
              · go_wp2_with fail
                go_roundw
                case rel => exact ⟨k + 1, by omega, by go_num, hdr2⟩
                case measure => simp [intOf]; omega
          · go_wp2_with fail
            go_ret
            refine ⟨by rfl, ?_⟩
            obtain ⟨z, rfl⟩ := hdr.out
            exact below_drewN HEND3.out z
  · have HE1 := Lib.hid (HLAW.out.1 he)
    have hne : (er != 0) = true := by rw [bne, beq_eq_false_iff_ne.2 he]; rfl
    have hne2 : (er == 0) = false := beq_eq_false_iff_ne.2 he
    have h2 := HE1.out
    subst h2
    clear he
    go_wp2_with fail
    refine (Alive.num_any _ _).mono ?_
    rintro e w3 ⟨rfl, rfl⟩
    go_wp2_with fail
    refine (Alive.num_any _ _).mono ?_
    rintro e w3 ⟨rfl, rfl⟩
    go_wp2_with fail
    go_ret
    exact ⟨by rfl, HEND.out⟩
end LawUnits
end Go.Proofs.Ytpanpfbhdcanhaa
