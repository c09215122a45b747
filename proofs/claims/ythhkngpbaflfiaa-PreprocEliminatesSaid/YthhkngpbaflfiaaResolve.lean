/-
  clause.Resolve: two clauses resolved by a variable.
-/
import Derived.Test.YthhkngpbaflfiaaCNorm
import Derived.Test.YthhkngpbaflfiaaWithout
import Derived.Test.YthhkngpbaflfiaaCont
import Derived.Test.YthhkngpbaflfiaaClauseP
namespace Go.Proofs.Ythhkngpbaflfiaa
open Go.RowKit Base
set_option linter.unusedVariables false
set_option linter.unusedSimpArgs false
namespace Clause
open RefC (norm)

def ResolveOut (w : World) (L : List Int) (r : Int) (e : Ending) (w' : World) : Prop :=
  ∃ a' c', e = .returned (.tuple #[.slice a' L.length c', .int .i64 r]) ∧ w'.ownsRow w.heap.size 3 1 (.slice a' L.length c') L.length (ints L) ∧ Below w.heap.size w w'

theorem resolve_none {a b : List Int} {v : Int} (h : v < 1 ∨ v ∉ a ∨ -v ∉ b) : resolve a b v = ([], 71) := by unfold resolve; rw [if_pos h]
theorem resolve_some {a b : List Int} {v : Int} (h0 : ¬ v < 1) (h1 : v ∈ a) (h2 : -v ∈ b) : resolve a b v = (norm (wo a v ++ wo b (-v)), 0) := by
  unfold resolve wo
  rw [if_neg (by simp [h0, h1, h2])]

theorem info : (Try.prog.info? 3).map (fun i => (i.zero, i.size, i.bytes)) = some (some (.int .i64 0), 1, 8) := by kernel_rfl

set_option maxHeartbeats 2000000 in
theorem resolve_any (w : World) (a : Option Addr) (n c : Nat) (xs : List Int) (hsl : Sl w a n c (ints xs)) (hw : Wf xs) (a2 : Option Addr) (n2 c2 : Nat) (ys : List Int) (hsl2 : Sl w a2 n2 c2 (ints ys)) (hw2 : Wf ys)
    (hn : (n + n2) * 8 ≤ 140737488355328) (v : Int) (h0 : -9223372036854775808 ≤ v) (h1 : v ≤ 9223372036854775807) :
    Calls Try.prog 56 #[.slice a n c, .slice a2 n2 c2, .int .i64 v] w (ResolveOut w (resolve xs ys v).1 (resolve xs ys v).2) := by
  have l1 : xs.length = n := by have := hsl.len; rw [ints_len] at this; exact this
  have l2 : ys.length = n2 := by have := hsl2.len; rw [ints_len] at this; exact this
  have C1 := Lib.hid (Cont.contains_any w a n c xs hsl v)
  have C2 := Lib.hid (Cont.contains_any w a2 n2 c2 ys hsl2 (-v))
  by_cases hv : v < 1
  · have HR := Lib.hid (resolve_none (a := xs) (b := ys) (.inl hv))
    clear hsl hsl2 hw hw2 l1 l2 C1 C2 h0 h1 hn
    go_enter Try.func56, Try.ntmps56
    go_wp2_with fail
    refine bodyPost_ret (v := .tuple #[.slice none 0 0, .int .i64 71]) (by simp [results, Try.results56, go_sem]) rfl ?_
    rw [HR.out]
    exact ⟨none, 0, rfl, World.ownsRow_nil _ _ _ _, Below.refl _ _⟩
  · by_cases hin : v ∈ xs
    · rw [decide_eq_true hin] at C1
      by_cases hin2 : -v ∈ ys
      · rw [decide_eq_true hin2] at C2
        have HR := Lib.hid (resolve_some hv hin hin2)
        have hneg : wrap64 (-v) = -v := wrap_neg (by omega) h1
        have W1 := Lib.hid (without_any w a n c xs hsl (by omega) v)
        have HW := Lib.hid (And.intro hw hw2)
        have HN := Lib.hid hn
        have HL := Lib.hid (And.intro l1 l2)
        have HS2 := Lib.hid hsl2
        have HV := Lib.hid (And.intro h0 h1)
        clear hsl hsl2 hw hw2 l1 l2 hn h0 h1 hin hin2
        go_enter Try.func56, Try.ntmps56
        go_wp2_with fail
        refine C1.out.mono ?_; rintro e w1 ⟨rfl, rfl⟩
        go_wp2_with fail
        refine C2.out.mono ?_; rintro e w1 ⟨rfl, rfl⟩
        go_wp2_with fail
        refine W1.out.mono ?_; rintro e w1 ⟨b1, m1, d1, rfl, hown1, hb1⟩
        have hm1 : (wo xs v).length = m1 := by have := hown1.1; rw [ints_len] at this; omega
        have hm1n : m1 ≤ n := by rw [← hm1, ← HL.out.1]; exact wo_len _ _
        have W2 := Lib.hid (without_any w1 a2 n2 c2 ys (HS2.out.next hb1) (by have := HN.out; omega) (-v))
        have HO1 := Lib.hid hown1
        have HB1 := Lib.hid hb1
        have HM1 := Lib.hid (And.intro hm1 hm1n)
        clear hown1 hb1 hm1 hm1n
        go_wp2_with fail
        refine W2.out.mono ?_; rintro e w2 ⟨b2, m2, d2, rfl, hown2, hb2⟩
        have hm2 : (wo ys (-v)).length = m2 := by have := hown2.1; rw [ints_len] at this; omega
        have hm2n : m2 ≤ n2 := by rw [← hm2, ← HL.out.2]; exact wo_len _ _
        obtain ⟨b2', d2', hv2, hsl2⟩ := own_sl hown2
        simp only [Value.slice.injEq] at hv2
        obtain ⟨rfl, _, rfl⟩ := hv2
        have HSL2 := Lib.hid hsl2
        have HO2 := Lib.hid (own_next HO1.out hb2)
        have HB2 := Lib.hid (HB1.out.trans (hb2.mono HB1.out.size))
        have hsz : (m1 + m2) * 8 ≤ 140737488355328 := by have := HN.out; have := HM1.out.2; omega
        have HSZ := Lib.hid (And.intro hsz (And.intro hm2 hm2n))
        clear hown2 hb2 hm2 hm2n hsl2 hsz
        go_wp2_with ((with_reducible refine wpL_app (B := w.heap.size) (W := w) _ m1 _ _ m2 _ (ints (wo ys (-v))) info Try.underlying29 ?_ ?_ ?_ ?_ HO2.out HSL2.out ?_ ?_ ?_ HB2.out ?_); rfl; rfl; rfl; (intro u hu; obtain ⟨x, _, rfl⟩ := List.mem_map.1 hu; rfl); exact HB2.out.size; exact HSZ.out.1; (have := HSZ.out.1; omega); (intro a3 c3 w3 hown3 hb3 hs3))
        have hown3' : w3.ownsRow w.heap.size 3 1 (.slice a3 (m1 + m2) c3) (m1 + m2) (ints (wo xs v ++ wo ys (-v))) := by
          have e : ints (wo xs v ++ wo ys (-v)) = ints (wo xs v) ++ ints (wo ys (-v)) := by simp [ints]
          rw [e]; exact hown3
        obtain ⟨a3', c3', hv3, hsl3⟩ := own_sl hown3'
        simp only [Value.slice.injEq] at hv3
        obtain ⟨rfl, _, rfl⟩ := hv3
        have hwf : Wf (wo xs v ++ wo ys (-v)) := by
          intro y hy
          rcases List.mem_append.1 hy with h | h
          · exact HW.out.1 y ((List.mem_filter.1 h).1)
          · exact HW.out.2 y ((List.mem_filter.1 h).1)
        have N := Lib.hid (norm_any w3 a3 (m1 + m2) c3 _ hsl3 hwf HSZ.out.1)
        have HB3 := Lib.hid hb3
        clear hown3 hown3' hsl3 hwf hb3 hs3
        go_wp2_with fail
        refine N.out.mono ?_; rintro e w4 ⟨a4, c4, rfl, hown4, hb4⟩
        have HO4 := Lib.hid (own_mono hown4 HB3.out.size)
        have HB4 := Lib.hid (HB3.out.trans (hb4.mono HB3.out.size))
        clear hown4 hb4
        generalize norm (wo xs v ++ wo ys (-v)) = L at *
        generalize hlen : L.length = m at *
        have HLEN := Lib.hid hlen
        clear hlen
        go_wp2_with fail
        refine bodyPost_ret (v := .tuple #[.slice a4 m c4, .int .i64 0]) (by simp [results, Try.results56, go_sem]) rfl ?_
        rw [HR.out]
        exact ⟨a4, c4, by rw [HLEN.out], by rw [HLEN.out]; exact HO4.out, HB4.out⟩
      · rw [decide_eq_false hin2] at C2
        have HR := Lib.hid (resolve_none (a := xs) (b := ys) (.inr (.inr hin2)))
        have hneg : wrap64 (-v) = -v := wrap_neg (by omega) h1
        clear hsl hsl2 hw hw2 l1 l2 h0 h1 hin hin2 hn
        go_enter Try.func56, Try.ntmps56
        go_wp2_with fail
        refine C1.out.mono ?_; rintro e w1 ⟨rfl, rfl⟩
        go_wp2_with fail
        refine C2.out.mono ?_; rintro e w1 ⟨rfl, rfl⟩
        go_wp2_with fail
        refine bodyPost_ret (v := .tuple #[.slice none 0 0, .int .i64 71]) (by simp [results, Try.results56, go_sem]) rfl ?_
        rw [HR.out]
        exact ⟨none, 0, rfl, World.ownsRow_nil _ _ _ _, Below.refl _ _⟩
    · rw [decide_eq_false hin] at C1
      have HR := Lib.hid (resolve_none (a := xs) (b := ys) (.inr (.inl hin)))
      clear hsl hsl2 hw hw2 l1 l2 C2 h0 h1 hin hn
      go_enter Try.func56, Try.ntmps56
      go_wp2_with fail
      refine C1.out.mono ?_; rintro e w1 ⟨rfl, rfl⟩
      go_wp2_with fail
      refine bodyPost_ret (v := .tuple #[.slice none 0 0, .int .i64 71]) (by simp [results, Try.results56, go_sem]) rfl ?_
      rw [HR.out]
      exact ⟨none, 0, rfl, World.ownsRow_nil _ _ _ _, Below.refl _ _⟩

end Clause
end Go.Proofs.Ythhkngpbaflfiaa
