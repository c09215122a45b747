/-
  preproc.parts: clauses with a literal, with its opposite, and without both.
-/
import Derived.Test.YthhkngpbaflfiaaPushB
import Derived.Test.YthhkngpbaflfiaaCont
import Derived.Test.YthhkngpbaflfiaaElimP
namespace Go.Proofs.Ythhkngpbaflfiaa
open Go.RowKit Base
set_option linter.unusedVariables false
set_option linter.unusedSimpArgs false
namespace Elim

theorem info24 : (Try.prog.info? 29).map (fun i => (i.zero, i.size, i.bytes)) = some (some (.slice none 0 0), 1, 24) := by kernel_rfl

theorem take_flt {l : List (List Int)} {p : List Int → Bool} {k : Nat} (hk : k < l.length) : (l.take (k + 1)).filter p = (l.take k).filter p ++ (if p l[k] = true then [l[k]] else []) := by
  rw [List.take_succ_eq_append_getElem hk, List.filter_append]
  congr 1
  simp only [List.filter_cons, List.filter_nil]

def PartsOut (w : World) (l : List (List Int)) (v : Int) (e : Ending) (w' : World) : Prop :=
  ∃ a1 c1 a2 c2 a3 c3 u1 u2 u3, e = .returned (.tuple #[.slice a1 (withs l v).length c1, .slice a2 (agains l v).length c2, .slice a3 (rests l v).length c3]) ∧
    Three w' w.heap.size 29 (.slice a1 (withs l v).length c1) (.slice a2 (agains l v).length c2) (.slice a3 (rests l v).length c3) (withs l v).length (agains l v).length (rests l v).length u1 u2 u3 ∧
    RowsV w u1 (withs l v) ∧ RowsV w u2 (agains l v) ∧ RowsV w u3 (rests l v) ∧ Below w.heap.size w w'

set_option maxRecDepth 4000 in
set_option maxHeartbeats 8000000 in
theorem parts_any (w : World) (a : Option Addr) (n c : Nat) (vs : List Value) (l : List (List Int)) (hsl : Sl2 w a n c vs l) (hn : n ≤ 1048576) (v : Int) (hv : 1 ≤ v) (hv1 : v ≤ 262144) :
    Calls Try.prog 55 #[.slice a n c, .int .i64 v] w (PartsOut w l v) := by
  have hcap := hsl.sl.cap
  have hbig := hsl.sl.big
  have HS := Lib.hid hsl
  have HL := Lib.hid hsl.len
  have HV : Hid (1 ≤ v ∧ v ≤ 262144) := ⟨hv, hv1⟩
  have HPO : Hid (PartsOut w l v = fun e w' => ∃ a1 c1 a2 c2 a3 c3 u1 u2 u3, e = .returned (.tuple #[.slice a1 (withs l v).length c1, .slice a2 (agains l v).length c2, .slice a3 (rests l v).length c3]) ∧
    Three w' w.heap.size 29 (.slice a1 (withs l v).length c1) (.slice a2 (agains l v).length c2) (.slice a3 (rests l v).length c3) (withs l v).length (agains l v).length (rests l v).length u1 u2 u3 ∧
    RowsV w u1 (withs l v) ∧ RowsV w u2 (agains l v) ∧ RowsV w u3 (rests l v) ∧ Below w.heap.size w w') := rfl
  generalize PartsOut w l v = R at *
  clear hsl
  go_enter Try.func55, Try.ntmps55
  go_wp2_with fail
  go_loopw [7, 8, 9, 14] (fun x1 x2 x3 s wr => ∃ i m1 m2 m3 : Nat, i ≤ n ∧ s = .int .i64 i ∧ m1 ≤ i ∧ m2 ≤ i ∧ m3 ≤ i ∧ ∃ a1 c1 a2 c2 a3 c3 u1 u2 u3, x1 = .slice a1 m1 c1 ∧ x2 = .slice a2 m2 c2 ∧ x3 = .slice a3 m3 c3 ∧
    Hid (Three wr w.heap.size 29 (.slice a1 m1 c1) (.slice a2 m2 c2) (.slice a3 m3 c3) m1 m2 m3 u1 u2 u3) ∧ Hid (RowsV w u1 (withs (l.take i) v)) ∧ Hid (RowsV w u2 (agains (l.take i) v)) ∧ Hid (RowsV w u3 (rests (l.take i) v)) ∧ Hid (Below w.heap.size w wr)) (fun _ _ _ s _ => n - (intOf s).toNat)
  case atStart => exact ⟨0, 0, 0, 0, Nat.zero_le _, rfl, Nat.le_refl _, Nat.le_refl _, Nat.le_refl _, none, 0, none, 0, none, 0, [], [], [], rfl, rfl, rfl, Three.nil _ _ _, RowsV.nil _, RowsV.nil _, RowsV.nil _, Below.refl _ _⟩
  case round =>
    obtain ⟨i, m1, m2, m3, hi, rfl, h1, h2, h3, a1, c1, a2, c2, a3, c3, u1, u2, u3, rfl, rfl, rfl, hth, hr1, hr2, hr3, hbr⟩ := hrel
    by_cases hlt : i < n
    · obtain ⟨b, o, a4, c4, hx, rfl, hbs, hc, hs4, _⟩ := HS.out.at hlt
      have hcr := (hbr.out.cell (p := ⟨b, o + i, none⟩) hbs).trans hc
      have C1 := Lib.hid (Cont.contains_any wr a4 _ c4 l[i] (hs4.next hbr.out) v)
      have C2 := Lib.hid (Cont.contains_any wr a4 _ c4 l[i] (hs4.next hbr.out) (-v))
      have HIV : Hid (IntsV w (.slice a4 l[i].length c4) l[i]) := ⟨a4, c4, rfl, hs4⟩
      have T1 : Hid (withs (l.take (i + 1)) v = withs (l.take i) v ++ (if decide (v ∈ l[i]) = true then [l[i]] else [])) := take_flt hx
      have T2 : Hid (agains (l.take (i + 1)) v = agains (l.take i) v ++ (if (!decide (v ∈ l[i]) && decide (-v ∈ l[i])) = true then [l[i]] else [])) := take_flt hx
      have T3 : Hid (rests (l.take (i + 1)) v = rests (l.take i) v ++ (if (!decide (v ∈ l[i]) && !decide (-v ∈ l[i])) = true then [l[i]] else [])) := take_flt hx
      have hvI : -9223372036854775808 ≤ -v := by have := HV.out; omega
      have hsz := hbr.out.size
      clear hc hs4
      have HN : Hid ((i + 1) * 24 ≤ 140737488355328) := by show _ ≤ _; omega
      cases hq1 : decide (v ∈ l[i])
      · rw [hq1] at C1 T1 T2 T3
        cases hq2 : decide (-v ∈ l[i])
        · rw [hq2] at C2 T2 T3
          simp only [if_true, if_false, Bool.false_eq_true, Bool.not_true, Bool.not_false, Bool.true_and, Bool.false_and, Bool.and_true, Bool.and_false, List.append_nil] at T1 T2 T3
          clear hq1 hq2
          have hvv := HV.out
          go_wp2_with fail
          refine C1.out.mono ?_
          rintro e w6 ⟨rfl, rfl⟩
          go_wp2_with fail
          refine C2.out.mono ?_
          rintro e w6 ⟨rfl, rfl⟩
          go_wp2_with ((with_reducible refine wpL_pushB (B := w.heap.size) wr (.slice a4 l[i].length c4) (.slice a3 m3 c3) m3 u3 info24 Try.underlying22 ?_ ?_ ?_ ?_ ?_ hth.out.o3 ?_ ?_ ?_ ?_); rfl; rfl; rfl; rfl; rfl; exact hsz; (have := HN.out; omega); (have := HN.out; omega); (intro a7 c7 w7 hown7 hg7 hob7))
          have HT := Lib.hid (hth.out.push3 hown7 hg7 hob7)
          have HB := Lib.hid (below_grown hth.out.o3 hg7 hbr.out (Nat.le_refl _) hsz)
          clear hown7 hg7 hob7 hth hbr
          go_roundw
          case rel => exact ⟨i + 1, m1, m2, m3 + 1, by omega, by go_num, by omega, by omega, by omega, a1, c1, a2, c2, a7, c7, _, _, _, rfl, rfl, rfl, HT.out, by show RowsV _ _ _; rw [T1.out]; exact hr1.out, by show RowsV _ _ _; rw [T2.out]; exact hr2.out, by show RowsV _ _ _; rw [T3.out]; exact hr3.out.snoc HIV.out, HB.out⟩
          case measure => simp [intOf]; omega
        · rw [hq2] at C2 T2 T3
          simp only [if_true, if_false, Bool.false_eq_true, Bool.not_true, Bool.not_false, Bool.true_and, Bool.false_and, Bool.and_true, Bool.and_false, List.append_nil] at T1 T2 T3
          clear hq1 hq2
          have hvv := HV.out
          go_wp2_with fail
          refine C1.out.mono ?_
          rintro e w6 ⟨rfl, rfl⟩
          go_wp2_with fail
          refine C2.out.mono ?_
          rintro e w6 ⟨rfl, rfl⟩
          go_wp2_with ((with_reducible refine wpL_pushB (B := w.heap.size) wr (.slice a4 l[i].length c4) (.slice a2 m2 c2) m2 u2 info24 Try.underlying22 ?_ ?_ ?_ ?_ ?_ hth.out.o2 ?_ ?_ ?_ ?_); rfl; rfl; rfl; rfl; rfl; exact hsz; (have := HN.out; omega); (have := HN.out; omega); (intro a7 c7 w7 hown7 hg7 hob7))
          have HT := Lib.hid (hth.out.push2 hown7 hg7 hob7)
          have HB := Lib.hid (below_grown hth.out.o2 hg7 hbr.out (Nat.le_refl _) hsz)
          clear hown7 hg7 hob7 hth hbr
          go_roundw
          case rel => exact ⟨i + 1, m1, m2 + 1, m3, by omega, by go_num, by omega, by omega, by omega, a1, c1, a7, c7, a3, c3, _, _, _, rfl, rfl, rfl, HT.out, by show RowsV _ _ _; rw [T1.out]; exact hr1.out, by show RowsV _ _ _; rw [T2.out]; exact hr2.out.snoc HIV.out, by show RowsV _ _ _; rw [T3.out]; exact hr3.out, HB.out⟩
          case measure => simp [intOf]; omega
      · rw [hq1] at C1 T1 T2 T3
        simp only [if_true, if_false, Bool.false_eq_true, Bool.not_true, Bool.not_false, Bool.true_and, Bool.false_and, Bool.and_true, Bool.and_false, List.append_nil] at T1 T2 T3
        clear hq1
        go_wp2_with fail
        refine C1.out.mono ?_
        rintro e w6 ⟨rfl, rfl⟩
        go_wp2_with ((with_reducible refine wpL_pushB (B := w.heap.size) wr (.slice a4 l[i].length c4) (.slice a1 m1 c1) m1 u1 info24 Try.underlying22 ?_ ?_ ?_ ?_ ?_ hth.out.o1 ?_ ?_ ?_ ?_); rfl; rfl; rfl; rfl; rfl; exact hsz; (have := HN.out; omega); (have := HN.out; omega); (intro a7 c7 w7 hown7 hg7 hob7))
        have HT := Lib.hid (hth.out.push1 hown7 hg7 hob7)
        have HB := Lib.hid (below_grown hth.out.o1 hg7 hbr.out (Nat.le_refl _) hsz)
        clear hown7 hg7 hob7 hth hbr
        go_roundw
        case rel => exact ⟨i + 1, m1 + 1, m2, m3, by omega, by go_num, by omega, by omega, by omega, a7, c7, a2, c2, a3, c3, _, _, _, rfl, rfl, rfl, HT.out, by show RowsV _ _ _; rw [T1.out]; exact hr1.out.snoc HIV.out, by show RowsV _ _ _; rw [T2.out]; exact hr2.out, by show RowsV _ _ _; rw [T3.out]; exact hr3.out, HB.out⟩
        case measure => simp [intOf]; omega
    · have hie : l.take i = l := List.take_of_length_le (by rw [HL.out]; omega)
      rw [hie] at hr1 hr2 hr3
      have e1 : m1 = (withs l v).length := by have h1 := hth.out.o1.1; have h2 := hr1.out.1; omega
      have e2 : m2 = (agains l v).length := by have h1 := hth.out.o2.1; have h2 := hr2.out.1; omega
      have e3 : m3 = (rests l v).length := by have h1 := hth.out.o3.1; have h2 := hr3.out.1; omega
      clear hie
      have hpo := HPO.out
      subst hpo
      clear HPO
      subst e1
      subst e2
      subst e3
      go_wp2_with fail
      exact bodyPost_ret (v := .tuple #[.slice a1 (withs l v).length c1, .slice a2 (agains l v).length c2, .slice a3 (rests l v).length c3]) (by simp [results, Try.results55, go_sem]) rfl ⟨a1, c1, a2, c2, a3, c3, u1, u2, u3, rfl, hth.out, hr1.out, hr2.out, hr3.out, hbr.out⟩

end Elim
end Go.Proofs.Ythhkngpbaflfiaa
