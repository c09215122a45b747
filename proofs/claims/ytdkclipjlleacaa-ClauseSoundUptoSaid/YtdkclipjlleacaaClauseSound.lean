/-
  interlocklaw10.ClauseSound: the walk: what makes both clauses true makes what is resolved true; what a clause subsumes; it in order.
-/
import Derived.Test.YtdkclipjlleacaaClauseAlive
import Derived.Test.YtdkclipjlleacaaSub
import Derived.Test.YtdkclipjlleacaaRefOne
import Derived.Test.YtdkclipjlleacaaOpen
namespace Go.Proofs.Ytdkclipjlleacaa.clauseSound
open Go.RowKit Base
set_option linter.unusedVariables false
set_option linter.unusedSimpArgs false
open RefC (norm always)

theorem sound {s : ByteArray} {a b : List Int} {v : Int} (h : (Clause.resolve a b v).2 = 0) (ha : True.one s a = true) (hb : True.one s b = true) : True.one s (Clause.resolve a b v).1 = true := by
  unfold Clause.resolve at h ⊢
  split at h
  · simp at h
  · rename_i hc
    rw [if_neg hc]
    exact Clause.resolve_sound (by omega) ha hb

theorem resolve_r (a b : List Int) (v : Int) : (Clause.resolve a b v).2 = 0 ∨ (Clause.resolve a b v).2 = 71 := by
  unfold Clause.resolve
  split
  · exact .inr rfl
  · exact .inl rfl

theorem resolve_wf {a b : List Int} {v : Int} (ha : Clause.Wf a) (hb : Clause.Wf b) : Clause.Wf (Clause.resolve a b v).1 := by
  unfold Clause.resolve
  split
  · intro y hy; simp at hy
  · refine Clause.norm_wf fun y hy => ?_
    rcases List.mem_append.1 hy with h | h
    · exact ha y ((List.mem_filter.1 h).1)
    · exact hb y ((List.mem_filter.1 h).1)

set_option maxHeartbeats 4000000 in
theorem walk (a0 : Option Addr) (c0 : Nat) (x0 : List Int) {w : World} (s0 : Sl w a0 x0.length c0 (ints x0)) (w0 : Clause.Wf x0) (z0 : Open.bulkInts x0 ≤ 1048576)
    (a1 : Option Addr) (c1 : Nat) (x1 : List Int) (s1 : Sl w a1 x1.length c1 (ints x1)) (w1 : Clause.Wf x1) (z1 : Open.bulkInts x1 ≤ 1048576)
    (v : Int) (wv : -9223372036854775808 ≤ v ∧ v ≤ 9223372036854775807) (s : ByteArray) (hs : s.size ≤ 1048576) (W : World) (hW : W = w) :
    Calls Try.prog 3 #[.slice a0 x0.length c0, .slice a1 x1.length c1, .int .i64 v, .string s] W fun e w' => e = .returned (.bool true) ∧ Below W.heap.size W w' := by
  subst hW
  rw [Open.bulkInts_eq] at z0 z1
  have HA := Lib.hid (ClauseLaw.alive_any W)
  have R := fun V (hV : Below W.heap.size W V) => Clause.resolve_any V a0 _ c0 x0 (s0.next hV) w0 a1 _ c1 x1 (s1.next hV) w1 (by omega) v wv.1 wv.2
  have N := fun V (hV : Below W.heap.size W V) => Clause.norm_any V a0 _ c0 x0 (s0.next hV) w0 (by omega)
  have O0 := fun V (hV : Below W.heap.size W V) => True.refOne_any V s (by omega) a0 _ c0 x0 (s0.next hV) w0
  have O1 := fun V (hV : Below W.heap.size W V) => True.refOne_any V s (by omega) a1 _ c1 x1 (s1.next hV) w1
  have SB := fun V (hV : Below W.heap.size W V) => Clause.subsumes_any V a0 _ c0 x0 (s0.next hV) a1 _ c1 x1 (s1.next hV)
  have HON := Lib.hid (Clause.any_norm s.data.toList x0)
  have HSUB : Hid (Clause.subs x0 x1 = true → True.one s x0 = true → True.one s x1 = true) := fun h h' => Clause.any_subs (Clause.subs_iff.1 h) h'
  have HSND := Lib.hid (@sound s x0 x1 v)
  have HRR := Lib.hid (resolve_r x0 x1 v)
  have HRW := Lib.hid (resolve_wf (v := v) w0 w1)
  have HNW := Lib.hid (Clause.norm_wf w0)
  have HR := Lib.hid R
  have HN := Lib.hid N
  have HO0 := Lib.hid O0
  have HO1 := Lib.hid O1
  have HSB := Lib.hid SB
  have hs9 : s.size ≤ 9223372036854775807 := by omega
  have HSS := Lib.hid hs9
  clear R N O0 O1 SB s0 s1 w0 w1 z0 z1 wv hs9
  generalize x0.length = n0 at *
  generalize x1.length = n1 at *
  go_enter Try.func3, Try.ntmps3
  go_wp2_with fail
  refine HA.out.mono ?_; rintro e w1 ⟨rfl, hb1⟩
  have HB1 := Lib.hid hb1
  clear hb1
  go_wp2_with fail
  refine (HR.out w1 HB1.out).mono ?_; rintro e w2 ⟨a2, c2, rfl, hown, hb⟩
  have HB2 := Lib.hid (HB1.out.trans (hb.mono HB1.out.size))
  have HSP := Lib.hid (Clause.own_ints hown)
  clear hb hown
  generalize hP : (Clause.resolve x0 x1 v).1 = P at *
  generalize hr : (Clause.resolve x0 x1 v).2 = r at *
  generalize hpl : P.length = pl at *
  clear hP hr hpl
  go_wp2_with fail
  refine (HN.out w2 HB2.out).mono ?_; rintro e w3 ⟨a3, c3, rfl, hown, hb⟩
  have HB3 := Lib.hid (HB2.out.trans (hb.mono HB2.out.size))
  have HSN := Lib.hid (Clause.own_ints hown)
  have HSP3 := Lib.hid (HSP.out.next hb)
  clear hb hown
  have HONE : Hid (True.one s (norm x0) = True.one s x0) := HON.out
  generalize norm x0 = L at *
  generalize hll : L.length = ll at *
  clear hll
  go_wp2_with fail
  refine (HO0.out w3 HB3.out).mono ?_; rintro e w4 ⟨rfl, rfl⟩
  go_wp2_with fail
  refine (HO1.out _ HB3.out).mono ?_; rintro e w4 ⟨rfl, rfl⟩
  have ON := True.refOne_any w3 s HSS.out a3 _ c3 L HSN.out HNW.out
  rw [HONE.out] at ON
  have HON2 := Lib.hid ON
  have HOP := Lib.hid (fun V (hV : Below w3.heap.size w3 V) => True.refOne_any V s HSS.out a2 _ c2 P (HSP3.out.next hV) HRW.out)
  have NUM := Lib.hid (fun V => ClauseLaw.num_any r V (by rcases HRR.out with h | h <;> omega) (by rcases HRR.out with h | h <;> omega))
  clear ON
  generalize True.one s x0 = p at *
  generalize True.one s x1 = q at *
  generalize Clause.subs x0 x1 = t at *
  generalize True.one s P = z at *
  go_wp2_with fail
  refine HON2.out.mono ?_; rintro e w4 ⟨rfl, rfl⟩
  have hpp : (p != p) = false := by cases p <;> rfl
  go_wp2_with fail
  refine (HSB.out _ HB3.out).mono ?_; rintro e w4 ⟨rfl, hb4⟩
  have HB4 := Lib.hid (HB3.out.trans (hb4.mono HB3.out.size))
  have HB34 := Lib.hid hb4
  have HRR' := HRR
  clear hb4
  rcases HRR'.out with h0 | h71
  · subst h0
    cases t <;> cases p <;> cases q
    all_goals
      first
      | (exact absurd (HSUB.out rfl rfl) (by decide))
      | (go_wp2_with fail
         refine (NUM.out _).mono ?_; rintro e w5 ⟨rfl, rfl⟩
         first
         | (go_wp2_with fail
            go_ret
            exact ⟨rfl, HB4.out⟩)
         | (have hz : z = true := by first | exact HSND.out rfl rfl rfl | exact HSND.out rfl trivial trivial | exact HSND.out trivial trivial trivial
            subst hz
            by_cases hv : (s.size : Int) < v
            · go_wp2_with fail
              go_ret
              exact ⟨rfl, HB4.out⟩
            · go_wp2_with fail
              refine (HOP.out _ HB34.out).mono ?_; rintro e w6 ⟨rfl, rfl⟩
              go_wp2_with fail
              go_ret
              exact ⟨rfl, HB4.out⟩))
  · subst h71
    cases t <;> cases p <;> cases q
    all_goals
      first
      | (exact absurd (HSUB.out rfl rfl) (by decide))
      | (go_wp2_with fail
         refine (NUM.out _).mono ?_; rintro e w5 ⟨rfl, rfl⟩
         go_wp2_with fail
         go_ret
         exact ⟨rfl, HB4.out⟩)
end Go.Proofs.Ytdkclipjlleacaa.clauseSound
