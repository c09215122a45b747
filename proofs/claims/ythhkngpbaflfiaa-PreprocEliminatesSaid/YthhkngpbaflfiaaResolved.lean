/-
  preproc.resolved: all resolvents, behind others, cleaned.
-/
import Derived.Test.YthhkngpbaflfiaaParts
import Derived.Test.YthhkngpbaflfiaaResolve
import Derived.Test.YthhkngpbaflfiaaCleaned
namespace Go.Proofs.Ythhkngpbaflfiaa
open Go.RowKit Base
set_option linter.unusedVariables false
set_option linter.unusedSimpArgs false
namespace Elim

theorem resos_more {W A : List (List Int)} {v : Int} {i : Nat} (hi : i < W.length) : resos (W.take (i + 1)) A v = resos (W.take i) A v ++ row W[i] A v := by
  unfold resos
  rw [List.take_succ_eq_append_getElem hi, List.flatMap_append]
  simp

theorem row_more {A : List (List Int)} {x : List Int} {v : Int} {j : Nat} (hj : j < A.length) : row x (A.take (j + 1)) v = row x (A.take j) v ++ [(Clause.resolve x A[j] v).1] := by
  unfold row
  rw [List.take_succ_eq_append_getElem hj, List.map_append]
  rfl

theorem part_len (l : List (List Int)) (v : Int) : (withs l v).length ≤ l.length ∧ (agains l v).length ≤ l.length ∧ (rests l v).length ≤ l.length :=
  ⟨List.length_filter_le _ _, List.length_filter_le _ _, List.length_filter_le _ _⟩

theorem mul_bound {i n j : Nat} (hi : i < n) (hj : j < n) (hn : n ≤ 1048576) : (n + i * n + j + 1) * 24 ≤ 140737488355328 := by
  have h1 : i * n ≤ 1048576 * 1048576 := Nat.mul_le_mul (by omega) hn
  omega

theorem mix_of {w w1 : World} {v : Value} {n : Nat} {us : List Value} {L : List (List Int)} (h : w1.ownsRow w.heap.size 29 1 v n us) (hr : RowsV w us L) (hb : Below w.heap.size w w1) : Mix w1 w.heap.size 29 3 v n us L :=
  ⟨h, by have h1 := h.1; have h2 := hr.1; omega, fun i x xs hx hxs => (RowOk.of_sl (hr.2 i x xs hx hxs) (Nat.le_refl _)).next hb⟩

theorem own_sl' {w : World} {B : Nat} {e : TypeId} {a : Option Addr} {n c : Nat} {us : List Value} (h : w.ownsRow B e 1 (.slice a n c) n us) : Sl w a n c us := by
  obtain ⟨a', c', hv, hs⟩ := own_sl h
  simp only [Value.slice.injEq] at hv
  obtain ⟨rfl, _, rfl⟩ := hv
  exact hs

def ResolvedOut (w : World) (l : List (List Int)) (v most : Int) (e : Ending) (w' : World) : Prop :=
  ∃ a' c' vals, e = .returned (.tuple #[.slice a' (elim l v).length c', .bool (decide (((elim l v).length : Int) ≤ most))]) ∧ Own2 w' w.heap.size 29 3 (.slice a' (elim l v).length c') (elim l v).length vals (elim l v) ∧ Below w.heap.size w w'

set_option maxRecDepth 8000 in
set_option maxHeartbeats 8000000 in
theorem resolved_any (w : World) (a : Option Addr) (n c : Nat) (vs : List Value) (l : List (List Int)) (hsl : Sl2 w a n c vs l) (hw : ∀ x ∈ l, Clause.Wf x) (hlen : ∀ x ∈ l, x.length ≤ 1024) (hn : n ≤ 1048576) (v : Int) (hv : 1 ≤ v) (hv1 : v ≤ 262144) (most : Int) :
    Calls Try.prog 35 #[.slice a n c, .int .i64 v, .int .i64 most] w (ResolvedOut w l v most) := by
  have HPA := Lib.hid (parts_any w a n c vs l hsl hn v hv hv1)
  have HL := Lib.hid hsl.len
  have HW := Lib.hid hw
  have HLEN := Lib.hid hlen
  have HN := Lib.hid hn
  have HV : Hid (1 ≤ v ∧ v ≤ 262144) := ⟨hv, hv1⟩
  have HPL := Lib.hid (part_len l v)
  have HWI : Hid (∀ x ∈ withs l v, Clause.Wf x ∧ x.length ≤ 1024) := fun x hx => ⟨hw x (mem_parts (.inl hx)), hlen x (mem_parts (.inl hx))⟩
  have HAG : Hid (∀ x ∈ agains l v, Clause.Wf x ∧ x.length ≤ 1024) := fun x hx => ⟨hw x (mem_parts (.inr (.inl hx))), hlen x (mem_parts (.inr (.inl hx)))⟩
  have HAW := Lib.hid (all_wf hv hw)
  have HALN := Lib.hid (all_len hv hlen)
  have HALL : Hid (all l v = rests l v ++ resos (withs l v) (agains l v) v) := rfl
  have HRO : Hid (ResolvedOut w l v most = fun e w' => ∃ a' c' vals, e = .returned (.tuple #[.slice a' (Pre.cleaned (all l v)).length c', .bool (decide (((Pre.cleaned (all l v)).length : Int) ≤ most))]) ∧ Own2 w' w.heap.size 29 3 (.slice a' (Pre.cleaned (all l v)).length c') (Pre.cleaned (all l v)).length vals (Pre.cleaned (all l v)) ∧ Below w.heap.size w w') := rfl
  unfold PartsOut at HPA
  generalize ResolvedOut w l v most = R at *
  generalize withs l v = WI at *
  generalize agains l v = AG at *
  generalize rests l v = RE at *
  generalize all l v = ALL at *
  clear hsl hw hlen hn hv hv1
  go_enter Try.func35, Try.ntmps35
  go_wp2_with fail
  refine HPA.out.mono ?_
  rintro e w1 ⟨a1, c1, a2, c2, a3, c3, u1, u2, u3, rfl, hth, hr1, hr2, hr3, hb1⟩
  have HM1 := Lib.hid (mix_of hth.o3 hr3 hb1)
  have HTH := Lib.hid hth
  have HR1 := Lib.hid hr1
  have HR2 := Lib.hid hr2
  have HB1 := Lib.hid hb1
  have hcap1 := (own_sl' hth.o1).cap
  have hbig1 := (own_sl' hth.o1).big
  have hcap2 := (own_sl' hth.o2).cap
  have hbig2 := (own_sl' hth.o2).big
  clear hth hr1 hr2 hr3 hb1 HPA
  go_wp2_with fail
  go_loopw [10, 26] (fun x3 s wr => ∃ i m : Nat, i ≤ WI.length ∧ s = .int .i64 i ∧ m ≤ n + i * n ∧ ∃ a3 c3 u3, x3 = .slice a3 m c3 ∧ Hid (Three wr w.heap.size 29 (.slice a1 WI.length c1) (.slice a2 AG.length c2) (.slice a3 m c3) WI.length AG.length m u1 u2 u3) ∧
    Hid (Mix wr w.heap.size 29 3 (.slice a3 m c3) m u3 (RE ++ resos (WI.take i) AG v)) ∧ Hid (Below w.heap.size w wr)) (fun _ s _ => WI.length - (intOf s).toNat)
  case atStart => exact ⟨0, RE.length, Nat.zero_le _, rfl, by have h1 := HPL.out.2.2; have h2 := HL.out; omega, a3, c3, u3, rfl, HTH.out, by show Mix _ _ _ _ _ _ _ _; simpa [resos] using HM1.out, HB1.out⟩
  case round =>
    obtain ⟨i, m, hi, rfl, hmi, a3, c3, u3, rfl, hth, hmix, hbr⟩ := hrel
    by_cases hlt : i < WI.length
    · obtain ⟨b, o, a4, c4, hx, rfl, hbs, hc, hs4, hv4⟩ := (HR1.out.sl2 hbr.out (own_sl' hth.out.o1)).at hlt
      have HX : Hid (IntsV w (.slice a4 WI[i].length c4) WI[i]) := HR1.out.2 i _ _ hv4 (List.getElem?_eq_getElem hx)
      have HXW := Lib.hid (HWI.out _ (List.getElem_mem hx))
      have HRM := Lib.hid (resos_more (A := AG) (v := v) hx)
      have HIN : Hid (i < n) := by have h1 := HPL.out.1; have h2 := HL.out; show _ < _; omega
      clear hs4 hv4
      generalize hxi : WI[i] = x at *
      clear hxi
      go_wp2_with fail
      generalize wr = wq at *
      have HMI := Lib.hid hmi
      clear hmi
      go_loopw [10, 32] (fun x3 s wr => ∃ j m : Nat, j ≤ AG.length ∧ s = .int .i64 j ∧ Hid (m ≤ n + i * n + j) ∧ ∃ a3 c3 u3, x3 = .slice a3 m c3 ∧ Hid (Three wr w.heap.size 29 (.slice (some ⟨b, o, none⟩) WI.length c1) (.slice a2 AG.length c2) (.slice a3 m c3) WI.length AG.length m u1 u2 u3) ∧
        Hid (Mix wr w.heap.size 29 3 (.slice a3 m c3) m u3 (RE ++ resos (WI.take i) AG v ++ row x (AG.take j) v)) ∧ Hid (Below w.heap.size w wr)) (fun _ s _ => AG.length - (intOf s).toNat)
      case atStart => exact ⟨0, m, Nat.zero_le _, rfl, HMI.out, a3, c3, u3, rfl, hth.out, by show Mix _ _ _ _ _ _ _ _; simpa [row] using hmix.out, hbr.out⟩
      case round =>
        obtain ⟨j, m, hj, rfl, hmj, a3, c3, u3, rfl, hth, hmix, hbr⟩ := hrel
        by_cases hlj : j < AG.length
        · obtain ⟨b5, o5, a5, c5, hxj, rfl, hbs5, hc5, hs5, hv5⟩ := (HR2.out.sl2 hbr.out (own_sl' hth.out.o2)).at hlj
          have HYW := Lib.hid (HAG.out _ (List.getElem_mem hxj))
          have HRW := Lib.hid (row_more (x := x) (v := v) hxj)
          have hjn : j < n := by have h1 := HPL.out.2.1; have h2 := HL.out; omega
          have HSZ : Hid ((m + 1) * 24 ≤ 140737488355328) := Nat.le_trans (Nat.mul_le_mul_right 24 (Nat.succ_le_succ hmj.out)) (mul_bound HIN.out hjn HN.out)
          obtain ⟨a4', c4', e4, hs4⟩ := HX.out.below hbr.out (Nat.le_refl _)
          simp only [Value.slice.injEq, true_and] at e4
          obtain ⟨rfl, rfl⟩ := e4
          have RS := Clause.resolve_any wr a4 _ c4 x hs4 HXW.out.1 a5 _ c5 AG[j] hs5 HYW.out.1 (by have h1 := HXW.out.2; have h2 := HYW.out.2; omega) v (by have := HV.out; omega) (by have := HV.out; omega)
          unfold Clause.ResolveOut at RS
          have HRS := Lib.hid RS
          clear RS hs4 hs5 hv5
          generalize (Clause.resolve x AG[j] v).1 = z at *
          generalize (Clause.resolve x AG[j] v).2 = er at *
          generalize AG[j] = y at *
          go_wp2_with fail
          refine HRS.out.mono ?_
          rintro e w5 ⟨a6, c6, rfl, ho6, hb6⟩
          have HT5 := Lib.hid (hth.out.next hb6)
          have HM5 := Lib.hid (hmix.out.next hb6)
          have hsz : w.heap.size ≤ wr.heap.size := hbr.out.size
          have HO5 : Hid (RowOk w5 w.heap.size 3 (.slice a6 z.length c6) z) := RowOk.of_own (own_mono ho6 hsz)
          have HB5 := Lib.hid (hbr.out.trans (hb6.mono hbr.out.size))
          have hsz5 : w.heap.size ≤ w5.heap.size := HB5.out.size
          clear ho6 hb6 hth hmix hbr HRS
          go_wp2_with ((with_reducible refine wpL_pushB (B := w.heap.size) w5 (.slice a6 z.length c6) (.slice a3 m c3) m u3 info24 Try.underlying22 ?_ ?_ ?_ ?_ ?_ HT5.out.o3 ?_ ?_ ?_ ?_); rfl; rfl; rfl; rfl; rfl; exact hsz5; exact HSZ.out; (have := HSZ.out; omega); (intro a7 c7 w7 hown7 hg7 hob7))
          have HT := Lib.hid (HT5.out.push3 hown7 hg7 hob7)
          have HMX := Lib.hid (HM5.out.push (by decide) HO5.out hown7 hg7)
          have HB := Lib.hid (Base.below_grown HT5.out.o3 hg7 HB5.out (Nat.le_refl _) hsz5)
          have HMJ : Hid (m + 1 ≤ n + i * n + (j + 1)) := Nat.succ_le_succ hmj.out
          clear hown7 hg7 hob7
          go_roundw
          case rel => exact ⟨j + 1, m + 1, by omega, by go_num, HMJ.out, a7, c7, _, rfl, HT.out, by show Mix _ _ _ _ _ _ _ _; rw [HRW.out, ← List.append_assoc]; exact HMX.out, HB.out⟩
          case measure => simp [intOf]; omega
        · have hje : j = AG.length := by omega
          subst hje
          have HTK : Hid (AG.take AG.length = AG) := List.take_length
          have HMJ : Hid (m ≤ n + (i + 1) * n) := by
            have h1 := HPL.out.2.1
            have h2 := HL.out
            have h3 := hmj.out
            have h4 : (i + 1) * n = i * n + n := Nat.succ_mul i n
            show _ ≤ _
            omega
          have hmix' := hmix.out
          rw [HTK.out, List.append_assoc, ← HRM.out] at hmix'
          have HMX := Lib.hid hmix'
          clear hmix'
          go_wp2_with fail
          go_roundw
          case rel => exact ⟨i + 1, m, by omega, by go_num, HMJ.out, a3, c3, u3, rfl, hth.out, HMX.out, hbr.out⟩
          case measure => simp [intOf]; omega
    · have hie : i = WI.length := by omega
      subst hie
      have hmix' := hmix.out
      rw [List.take_length, ← HALL.out] at hmix'
      have hmm : ALL.length = m := hmix'.len
      have HMX := Lib.hid hmix'
      have hmn : m * 24 ≤ 140737488355328 := by
        have h1 := HPL.out.1
        have h2 := HL.out
        have h3 : WI.length * n ≤ 1048576 * 1048576 := Nat.mul_le_mul (by have := HN.out; omega) HN.out
        have h4 := HN.out
        omega
      have CL := Pre.cleaned_any wr a3 m c3 u3 ALL hmix'.sl2' HAW.out hmn (fun x hx => by have := HALN.out x hx; omega)
      unfold Pre.RowsOut at CL
      have HCL := Lib.hid CL
      clear CL hmix' hmi hmn hmm
      have hro := HRO.out
      subst hro
      clear HRO
      generalize Pre.cleaned ALL = G at *
      go_wp2_with fail
      refine HCL.out.mono ?_
      rintro e w9 ⟨a9, c9, v9, rfl, ho9, hb9⟩
      have hcap9 := ho9.sl2'.sl.cap
      have hbig9 := ho9.sl2'.sl.big
      have HO9 := Lib.hid (ho9.mono hbr.out.size)
      have HB9 := Lib.hid (hbr.out.trans (hb9.mono hbr.out.size))
      clear ho9 hb9
      go_wp2_with fail
      exact bodyPost_ret (v := .tuple #[.slice a9 G.length c9, .bool (decide ((G.length : Int) ≤ most))]) (by simp [results, Try.results35, go_sem]) rfl ⟨a9, c9, v9, rfl, HO9.out, HB9.out⟩

end Elim
end Go.Proofs.Ythhkngpbaflfiaa
