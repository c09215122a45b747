/-
  interlockref10.Models.
-/
import Derived.Test.YthhkngpbaflfiaaModelsP
import Derived.Test.YthhkngpbaflfiaaStep
import Derived.Test.YthhkngpbaflfiaaFormulaCheck
import Derived.Test.YthhkngpbaflfiaaPlainInts
import Derived.Deep.RegionHeld3
import Derived.Deep.DeepCutAuto
namespace Go.Proofs.Ythhkngpbaflfiaa
open Go.RowKit Base ModelsP
set_option linter.unusedVariables false
set_option linter.unusedSimpArgs false
namespace Models

theorem info_str : (Try.prog.info? 9).map (fun i => (i.zero, i.size, i.bytes)) = some (some (.string ⟨#[]⟩), 1, 16) := by kernel_rfl

def Out (w : World) (L : List ByteArray) (e : Ending) (w' : World) : Prop :=
  ∃ a c, e = .returned (.slice a L.length c) ∧ Sl w' a L.length c (strs L) ∧ Below w.heap.size w w'

/-- The formula's box. -/
structure Box (W : World) (N : Nat) (vars : Int) (a : Option Addr) (n c : Nat) : Prop where
  c0 : W.cell? ⟨N, 0, none⟩ = some (.int .i64 vars)
  c1 : W.cell? ⟨N, 1, none⟩ = some (.slice a n c)
  lt : N < W.heap.size

theorem Box.next {W W' : World} {N : Nat} {vars : Int} {a : Option Addr} {n c : Nat} (h : Box W N vars a n c) (hb : Below W.heap.size W W') : Box W' N vars a n c :=
  ⟨(hb.cell (p := ⟨N, 0, none⟩) h.lt).trans h.c0, (hb.cell (p := ⟨N, 1, none⟩) h.lt).trans h.c1, Nat.lt_of_lt_of_le h.lt hb.size⟩

/-- What is held through the call of True. -/
structure Held (B N : Nat) (wq : World) (V : Int) (a : Option Addr) (n c g q : Nat) (y : ByteArray) (w' : World) : Prop where
  below : Below B wq w'
  c0 : w'.cell? ⟨N, 0, none⟩ = some (.int .i64 V)
  c1 : w'.cell? ⟨N, 1, none⟩ = some (.slice a n c)
  cs : w'.cell? ⟨g, q, none⟩ = some (.string y)

theorem held_in {B N : Nat} {wq : World} {V : Int} {a : Option Addr} {n c g q : Nat} {y : ByteArray} {w' : World} (h : Held B N wq V a n c g q y w' ∧ w'.cell? ⟨N, 0, none⟩ = some (.int .i64 V) ∧ w'.cell? ⟨N, 1, none⟩ = some (.slice a n c) ∧ w'.cell? ⟨g, q, none⟩ = some (.string y)) : Held B N wq V a n c g q y w' := h.1
theorem held_all {B N : Nat} {wq : World} {V : Int} {a : Option Addr} {n c g q : Nat} {y : ByteArray} {w' : World} (h : Held B N wq V a n c g q y w') : Held B N wq V a n c g q y w' ∧ w'.cell? ⟨N, 0, none⟩ = some (.int .i64 V) ∧ w'.cell? ⟨N, 1, none⟩ = some (.slice a n c) ∧ w'.cell? ⟨g, q, none⟩ = some (.string y) := ⟨h, h.c0, h.c1, h.cs⟩
theorem held_first {N : Nat} {wq : World} {V : Int} {a : Option Addr} {n c g q : Nat} {y : ByteArray} (c0 : wq.cell? ⟨N, 0, none⟩ = some (.int .i64 V)) (c1 : wq.cell? ⟨N, 1, none⟩ = some (.slice a n c)) (cs : wq.cell? ⟨g, q, none⟩ = some (.string y)) :
    Held wq.heap.size N wq V a n c g q y wq.drew ∧ wq.drew.cell? ⟨N, 0, none⟩ = some (.int .i64 V) ∧ wq.drew.cell? ⟨N, 1, none⟩ = some (.slice a n c) ∧ wq.drew.cell? ⟨g, q, none⟩ = some (.string y) := held_all ⟨(Below.refl _ _).drew, c0, c1, cs⟩

theorem drew_more {w wr : World} (h : ∃ m, wr = w.drewN m) (k : Nat) : ∃ m, wr.drewN k = w.drewN m := by
  obtain ⟨m, rfl⟩ := h
  exact ⟨m + k, World.drewN_drewN _ _ _⟩

theorem holds_eq (V : Int) (cls : List (List Int)) (l : List Int) (y : ByteArray) : (True.tru V cls y && (l.take l.length).all (CubeP.is y.data.toList)) = holds V cls l y := by rw [List.take_length]; rfl

theorem all_more {T : Bool} {l : List Int} {p : Int → Bool} {j : Nat} (hj : j < l.length) : (T && (l.take (j + 1)).all p) = ((T && (l.take j).all p) && p l[j]) := by
  rw [List.take_succ_eq_append_getElem hj, List.all_append]; simp [Bool.and_assoc]

set_option maxRecDepth 4000 in
set_option maxHeartbeats 8000000 in
theorem models_any (w : World) (V : Nat) (hV : V ≤ 16) (a : Option Addr) (n c : Nat) (vs : List Value) (cls : List (List Int)) (hsl : Sl2 w a n c vs cls) (hw : Formula.Wf2 cls)
    (a1 : Option Addr) (n1 c1 : Nat) (l : List Int) (hl : Sl w a1 n1 c1 (ints l)) (hlw : Clause.Wf l) :
    Calls Try.prog 21 #[.agg #[.int .i64 V, .slice a n c], .slice a1 n1 c1] w (Out w (models V cls l)) := by
  have hal : Below w.heap.size w (w.alloc (.cells #[.int .i64 V, .slice a n c] 24)) := (Below.refl _ _).alloc (Nat.le_refl _) _
  have hbox : Box (w.alloc (.cells #[.int .i64 V, .slice a n c] 24)) w.heap.size V a n c := ⟨by simp, by simp, by simp⟩
  have HBOX := Lib.hid hbox
  have HSL := Lib.hid (hsl.next hal)
  have HSL1 := Lib.hid (hl.next hal)
  have HAL := Lib.hid hal
  have HL1 : Hid (l.length = n1) := by have := hl.len; rwa [ints_len] at this
  have HWF := Lib.hid hw
  have HLW := Lib.hid hlw
  have hcap1 := hl.cap
  have hbig1 := hl.big
  have hz0 : (w.alloc (.cells #[.int .i64 V, .slice a n c] 24)).heap.size = w.heap.size + 1 := by simp
  have HZ0 := Lib.hid hz0
  have hown0 : Hid (((w.alloc (.cells #[.int .i64 V, .slice a n c] 24)).alloc (.cells #[.string ⟨#[]⟩] 9)).ownsRow (w.heap.size + 1) 9 1 (.slice (some ⟨w.heap.size + 1, 0, none⟩) 1 1) 1 (strs (allS 0))) := by
    have h := World.ownsRow_lit (base := w.heap.size + 1) (e := 9) (size := 1) (w.alloc (.cells #[.int .i64 V, .slice a n c] 24)) #[.string ⟨#[]⟩] 1 (by simp) (by unfold maxLen; omega) (by simp)
    rw [hz0] at h
    exact h
  clear hal hbox hsl hl hw hlw hz0
  go_enter Try.func21, Try.ntmps21
  go_wp2_with fail
  generalize w.alloc (.cells #[.int .i64 V, .slice a n c] 24) = W at *
  have HBW : Hid (Below (w.heap.size + 1) W (W.alloc (.cells #[.string ⟨#[]⟩] 9))) := (Below.refl _ _).alloc (by rw [HZ0.out]; exact Nat.le_refl _) _
  generalize W.alloc (.cells #[.string ⟨#[]⟩] 9) = W2 at *
  go_loopw [5, 6] (fun s i wr => ∃ (k m : Nat), k ≤ V ∧ i = .int .i64 k ∧ Hid ((allS k).length = m) ∧ m ≤ 65536 ∧ (∃ a' c', s = .slice a' m c' ∧ wr.ownsRow (w.heap.size + 1) 9 1 (.slice a' m c') m (strs (allS k))) ∧ Below (w.heap.size + 1) W wr) (fun _ i _ => V - (intOf i).toNat)
  case atStart => exact ⟨0, 1, Nat.zero_le _, rfl, rfl, by omega, ⟨_, 1, rfl, hown0.out⟩, HBW.out⟩
  case round =>
    obtain ⟨k, m, hk, rfl, hM, hm, ⟨a', c', rfl, hown⟩, hbr⟩ := hrel
    obtain ⟨a9, c9, e9, hs9⟩ := own_sl hown
    simp only [Value.slice.injEq] at e9
    obtain ⟨rfl, _, rfl⟩ := e9
    have hcap' := hs9.cap
    have hbig' := hs9.big
    have HS := Lib.hid hs9
    have HO := Lib.hid hown
    clear hs9 hown
    have hbrW : Below W.heap.size W wr := by rw [HZ0.out]; exact hbr
    have c0 := (HBOX.out.next hbrW).c0
    have hbase : w.heap.size + 1 ≤ wr.heap.size := by have := hbr.size; have := HZ0.out; omega
    by_cases hlt : k < V
    · have hm2 : m ≤ 32768 := by
        have h := hM.out
        rw [allS_len] at h
        have h2 : 2 ^ k ≤ 2 ^ 15 := Nat.pow_le_pow_right (by decide) (by omega)
        omega
      go_wp2_with fail
      generalize wr = wo at *
      go_loopw [7, 8] (fun s i wq => ∃ (j : Nat), j ≤ m ∧ i = .int .i64 j ∧ (∃ a2 c2, s = .slice a2 (2 * j) c2 ∧ wq.ownsRow wo.heap.size 9 1 (.slice a2 (2 * j) c2) (2 * j) (strs (((allS k).take j).flatMap two))) ∧ Below wo.heap.size wo wq) (fun _ i _ => m - (intOf i).toNat)
      case atStart => exact ⟨0, Nat.zero_le _, rfl, ⟨none, 0, rfl, World.ownsRow_nil _ _ _ _⟩, Below.refl _ _⟩
      case round =>
        obtain ⟨j, hj, rfl, ⟨a2, c2, rfl, hown2⟩, hbq⟩ := hrel
        have HO2 := Lib.hid hown2
        clear hown2
        have hbase2 : wo.heap.size ≤ wr.heap.size := hbq.size
        by_cases hjm : j < m
        · obtain ⟨g, q, hy, rfl, hgs, hcy⟩ := str_at (HS.out.next hbq) hjm
          have HT := Lib.hid (take_two (allS k) j hy)
          have hys : (allS k)[j].size ≤ 16 := by rw [allS_size k _ (List.getElem_mem hy)]; omega
          generalize (allS k)[j] = y at *
          have hys2 : ¬ 9223372036854775807 < y.size + 1 := by omega
          go_wp2_with fail
          go_region_law (first | (refine step_lit (by rfl) (by rfl) wo.heap.size _ #[.string (y ++ b0), .string (y ++ b1)] 2 (.slice a2 (2 * j) c2) (2 * j) (strs (((allS k).take j).flatMap two)) info_str Try.underlying38 (by rfl) (by rfl) (by omega) (by rfl) (by rfl) (by rfl) (by intro u hu; simp at hu; rcases hu with rfl | rfl <;> rfl) HO2.out.drew (by exact hbase2) (by omega) (by omega) hbq.drew ?_; intro a3 c3 w3 hown3 hb3 hz3) | fail)
          all_goals
            go_wp2_with fail
            go_roundw
            case rel =>
              refine ⟨j + 1, by omega, by go_num, ⟨a3, c3, by congr 1, ?_⟩, hb3⟩
              rw [HT.out, strs_app]
              exact hown3
            case measure => simp [intOf]; omega
        · have hjm' : j = m := by omega
          have HF : Hid (((allS k).take j).flatMap two = allS (k + 1)) := by
            show _ = _
            rw [hjm', ← hM.out, List.take_length]; rfl
          have HM2 : Hid ((allS (k + 1)).length = 2 * j) := by
            show _ = _
            rw [allS, two_len, hM.out, hjm']
          clear hjm'
          go_wp2_with fail
          go_roundw
          case rel =>
            refine ⟨k + 1, 2 * j, by omega, by go_num, HM2, by omega, ⟨a2, c2, rfl, ?_⟩, hbr.trans (hbq.mono hbase)⟩
            rw [← HF.out]
            exact own_mono HO2.out hbase
          case measure => simp [intOf]; omega
    · have hkV : k = V := by omega
      have HMV : Hid ((allS V).length = m) := by rw [← hkV]; exact hM
      have HSV : Hid (Sl wr a' m c' (strs (allS V))) := by rw [← hkV]; exact HS
      have hkn : ¬ ((k : Int) < V) := by omega
      clear hkV hlt hk
      go_wp2_with fail
      generalize wr = wo at *
      have HBX := Lib.hid (HBOX.out.next hbrW)
      go_loopw [9, 10] (fun s i wr => ∃ (k m2 : Nat), k ≤ m ∧ i = .int .i64 k ∧ Hid ((((allS V).take k).filter (holds V cls l)).length = m2) ∧ m2 ≤ k ∧ (∃ a2 c2, s = .slice a2 m2 c2 ∧ wr.ownsRow wo.heap.size 9 1 (.slice a2 m2 c2) m2 (strs (((allS V).take k).filter (holds V cls l)))) ∧ Below wo.heap.size wo wr) (fun _ i _ => m - (intOf i).toNat)
      case atStart => exact ⟨0, 0, Nat.zero_le _, rfl, rfl, Nat.le_refl _, ⟨none, 0, rfl, World.ownsRow_nil _ _ _ _⟩, Below.refl _ _⟩
      case round =>
        obtain ⟨k, m2, hk, rfl, hM2, hmk, ⟨a2, c2, rfl, hown2⟩, hbq⟩ := hrel
        have HO2 := Lib.hid hown2
        clear hown2
        have hbase2 : wo.heap.size ≤ wr.heap.size := hbq.size
        by_cases hlt : k < m
        · obtain ⟨g, q, hy, rfl, hgs, hcy0⟩ := str_at HSV.out hlt
          have hcy : wr.cell? ⟨g, q + k, none⟩ = some (.string (allS V)[k]) := (hbq.cell (p := ⟨g, q + k, none⟩) hgs).trans hcy0
          have hbx := HBX.out.next hbq
          have d0 := hbx.c0
          have d1 := hbx.c1
          have hbWr : Below W.heap.size W wr := hbrW.trans (hbq.mono hbrW.size)
          have HTF := Lib.hid (take_filter (allS V) (holds V cls l) k hy)
          have hys : (allS V)[k].size ≤ 16 := by rw [allS_size V _ (List.getElem_mem hy)]; omega
          generalize (allS V)[k] = y at *
          have HTR := Lib.hid (fun (U : World) (hU : Held wr.heap.size w.heap.size wr V a n c g (q + k) y U) => (True.refTrue_any U V a n c vs cls ((HSL.out.next hbWr).next hU.below) HWF.out y (by omega)).mono (fun e w' h => (⟨h.1, ⟨hU.below.trans (h.2.mono hU.below.size), (h.2.cell (p := ⟨w.heap.size, 0, none⟩) (Nat.lt_of_lt_of_le hbx.lt hU.below.size)).trans hU.c0, (h.2.cell (p := ⟨w.heap.size, 1, none⟩) (Nat.lt_of_lt_of_le hbx.lt hU.below.size)).trans hU.c1, (h.2.cell (p := ⟨g, q + k, none⟩) (Nat.lt_of_lt_of_le (Nat.lt_of_lt_of_le hgs hbase2) hU.below.size)).trans hU.cs⟩⟩ : e = .returned (.bool (True.tru V cls y)) ∧ Held wr.heap.size w.heap.size wr V a n c g (q + k) y w')))
          have HH := Lib.hid (holds_eq V cls l y)
          generalize True.tru V cls y = T at *
          generalize holds V cls l y = hh at *
          clear hbx
          go_upto_region 15 with fail
          go_cut [11] (fun s11 wx => s11 = .bool T ∧ Below wr.heap.size wr wx)
          case first =>
            go_region_held3 (fun w' => Held wr.heap.size w.heap.size wr V a n c g (q + k) y w' ∧ w'.cell? ⟨w.heap.size, 0, none⟩ = some (.int .i64 V) ∧ w'.cell? ⟨w.heap.size, 1, none⟩ = some (.slice a n c) ∧ w'.cell? ⟨g, q + k, none⟩ = some (.string y)) (first | exact held_all (by assumption) | exact held_first d0 d1 hcy)
              (first | (go_at_call 25; refine (HTR.out _ (held_in (by assumption))).mono ?_; rintro e w' ⟨rfl, hS'⟩) | fail)
            all_goals (go_wp2_with fail; go_meet; exact ⟨rfl, (held_in (by assumption)).below⟩)
          case rest =>
            obtain ⟨rfl, hbc⟩ := hcut
            clear HTR d0 d1 hcy
            have hlc : wo.heap.size ≤ wc.heap.size := Nat.le_trans hbase2 hbc.size
            have hbqc : Below wo.heap.size wo wc := hbq.trans (hbc.mono hbase2)
            have HOc := Lib.hid (own_next HO2.out hbc)
            go_wp2_with fail
            generalize wr = wp at *
            go_loopw [11, 12] (fun s i wr => ∃ (j : Nat), j ≤ n1 ∧ i = .int .i64 j ∧ (∃ b, s = .bool b ∧ Hid (b = (T && (l.take j).all (CubeP.is y.data.toList)))) ∧ Hid (∃ z, wr = wc.drewN z)) (fun _ i _ => n1 - (intOf i).toNat)
            case atStart => exact ⟨0, Nat.zero_le _, rfl, ⟨T, rfl, by show _ = _; simp⟩, 0, rfl⟩
            case round =>
              obtain ⟨j, hj, rfl, ⟨b, rfl, hB⟩, hdr⟩ := hrel
              have hbcr : Below wc.heap.size wc wr := by obtain ⟨z, rfl⟩ := hdr.out; exact below_drewN (Below.refl _ _) z
              have hbor : Below wo.heap.size wo wr := hbqc.trans (hbcr.mono hlc)
              have hcy := (hbor.cell (p := ⟨g, q + k, none⟩) hgs).trans hcy0
              by_cases hjn : j < n1
              · have hbWr2 : Below W.heap.size W wr := hbrW.trans (hbor.mono hbrW.size)
                obtain ⟨g1, q1, hx1, rfl, hgs1, hcl⟩ := (HSL1.out.next hbWr2).int hjn
                have HIS := Lib.hid (fun (U : World) => True.refIs_any y (by omega) l[j] (HLW.out _ (List.getElem_mem hx1)).1 (HLW.out _ (List.getElem_mem hx1)).2 U)
                have HAM := Lib.hid (all_more (T := T) (p := CubeP.is y.data.toList) hx1)
                rw [← hB.out] at HAM
                generalize l[j] = x at *
                generalize CubeP.is y.data.toList x = bi at *
                cases b
                · have HAM' : Hid (false = (T && (l.take (j + 1)).all (CubeP.is y.data.toList))) := by show _ = _; rw [HAM.out]; rfl
                  go_wp2_with fail
                  go_quiet (fail)
                  go_wp2_with fail
                  go_roundw
                  case rel => exact ⟨j + 1, by omega, by go_num, ⟨_, rfl, HAM'⟩, drew_more hdr.out _⟩
                  case measure => simp [intOf]; omega
                · have HAM' : Hid (bi = (T && (l.take (j + 1)).all (CubeP.is y.data.toList))) := by show _ = _; rw [HAM.out]; rfl
                  go_wp2_with fail
                  go_quiet ((go_at_call 34; exact Calls.quiet_of_same ((HIS.out _).mono fun e w' h => ⟨h.1, h.2.symm⟩)))
                  go_wp2_with fail
                  go_roundw
                  case rel => exact ⟨j + 1, by omega, by go_num, ⟨_, rfl, HAM'⟩, drew_more hdr.out _⟩
                  case measure => simp [intOf]; omega
              · have HBH : Hid (b = hh) := by
                  show _ = _
                  rw [hB.out, ← HH.out, List.take_of_length_le (by have := HL1.out; omega), List.take_of_length_le (Nat.le_refl _)]
                cases b
                · have HF : Hid (((allS V).take (k + 1)).filter (holds V cls l) = ((allS V).take k).filter (holds V cls l)) := by
                    show _ = _; rw [HTF.out, ← HBH.out]; simp
                  go_wp2_with fail
                  go_roundw
                  case rel =>
                    refine ⟨k + 1, m2, by omega, by go_num, ?_, by omega, ⟨a2, c2, rfl, ?_⟩, hbor⟩
                    · show _ = _; rw [HF.out, hM2.out]
                    · rw [HF.out]; exact own_next HOc.out hbcr
                  case measure => simp [intOf]; omega
                · have HF : Hid (((allS V).take (k + 1)).filter (holds V cls l) = ((allS V).take k).filter (holds V cls l) ++ [y]) := by
                    show _ = _; rw [HTF.out, ← HBH.out]; simp
                  have HOr := Lib.hid (own_next HOc.out hbcr)
                  go_wp2_with ((with_reducible refine wpL_push (B := wo.heap.size) (W := wo) wr (.string y) _ m2 (strs (((allS V).take k).filter (holds V cls l))) info_str Try.underlying38 ?_ ?_ ?_ ?_ ?_ HOr.out ?_ ?_ ?_ hbor ?_); rfl; rfl; rfl; rfl; rfl; (exact hbor.size); omega; omega; (intro a3 c3 w3 hown3 hb3 hsz3))
                  go_roundw
                  case rel =>
                    refine ⟨k + 1, m2 + 1, by omega, by go_num, ?_, by omega, ⟨a3, c3, rfl, ?_⟩, hb3⟩
                    · show _ = _; rw [HF.out, List.length_append, hM2.out]; rfl
                    · rw [HF.out, strs_app]; exact hown3
                  case measure => simp [intOf]; omega
        · have HF : Hid (((allS V).take k).filter (holds V cls l) = models V cls l) := by
            show _ = _
            rw [List.take_of_length_le (by have := HMV.out; omega)]
            unfold models
            rw [Int.toNat_natCast]
          have hM3 := hM2.out
          rw [HF.out] at HO2 hM3
          obtain ⟨a9, c9, e9, hs9⟩ := own_sl HO2.out
          simp only [Value.slice.injEq] at e9
          obtain ⟨rfl, _, rfl⟩ := e9
          have HS9 := Lib.hid hs9
          have HM3 := Lib.hid hM3
          clear hs9 hM3
          go_wp2_with fail
          go_ret
          refine ⟨a2, c2, by rw [HM3.out]; rfl, by rw [HM3.out]; exact HS9.out, HAL.out.trans ((hbrW.trans (hbq.mono hbrW.size)).mono HAL.out.size)⟩
end Models
end Go.Proofs.Ythhkngpbaflfiaa
