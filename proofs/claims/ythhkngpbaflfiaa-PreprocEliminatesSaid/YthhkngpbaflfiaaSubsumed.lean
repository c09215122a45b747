/-
  preproc.subsumed: clauses in order, each once, without those that another one says.
-/
import Derived.Test.YthhkngpbaflfiaaCleaned
import Derived.Test.YthhkngpbaflfiaaSub
import Derived.Test.YthhkngpbaflfiaaConcatR
import Derived.Test.YthhkngpbaflfiaaStep
namespace Go.Proofs.Ythhkngpbaflfiaa
open Go.RowKit Base
set_option linter.unusedVariables false
set_option linter.unusedSimpArgs false
namespace Pre
open RefC (norm always)

theorem eg_says : SlfR.Enters 47 := enters_of Try.func47 (by kernel_rfl) rfl

set_option maxHeartbeats 400000 in
theorem says1_any (w : World) (a : Option Addr) (n c : Nat) (xs : List Int) (hsl : Sl w a n c (ints xs)) (a2 : Option Addr) (n2 c2 : Nat) (ys : List Int) (hsl2 : Sl w a2 n2 c2 (ints ys)) (B : Nat) (hc : w.cell? ⟨B, 0, none⟩ = some (.slice a n c)) :
    Calls Try.prog 47 #[.slice a2 n2 c2, .pointer (some ⟨B, 0, none⟩)] w fun e w' => e = .returned (.bool (Clause.subs ys xs)) ∧ Below w.heap.size w w' := by
  have H := Lib.hid (Clause.subsumes_any w a2 n2 c2 ys hsl2 a n c xs hsl)
  clear hsl hsl2
  go_enter Try.func47, Try.ntmps47
  go_wp2_with fail
  refine H.out.mono ?_
  rintro e w1 ⟨rfl, hb⟩
  go_wp2_with fail
  go_ret
  exact ⟨ret_bool rfl, hb⟩

theorem sl_drop {w : World} {g o n c : Nat} {vs : List Value} (h : Sl w (some ⟨g, o, none⟩) n c vs) {k : Nat} (hk : k ≤ n) : Sl w (some ⟨g, o + k, none⟩) (n - k) (c - k) (vs.drop k) := by
  refine ⟨by rw [List.length_drop, h.len], by have := h.cap; omega, by have := h.big; omega, fun h => (by cases h), fun j x hx => ?_⟩
  rw [List.getElem?_drop] at hx
  obtain ⟨b, o', ha, hb, hc⟩ := h.cell _ x hx
  simp only [Option.some.injEq, Addr.mk.injEq] at ha
  obtain ⟨rfl, rfl, _⟩ := ha
  exact ⟨g, o + k, rfl, hb, by rw [Nat.add_assoc]; exact hc⟩

theorem sl_empty (w : World) (a : Addr) (vs : List Value) (k : Nat) (hk : vs.length ≤ k) : Sl w (some a) 0 0 (vs.drop k) := by
  rw [List.drop_eq_nil_of_le hk]
  exact ⟨rfl, Nat.le_refl _, by omega, fun h => (by cases h), fun j x hx => by simp at hx⟩

theorem skip_at {α β : Type} {vs : List α} {ys : List β} (hl : vs.length = ys.length) {k j : Nat} {v : α} {y : β} (hv : (vs.take k ++ vs.drop (k + 1))[j]? = some v) (hy : (ys.take k ++ ys.drop (k + 1))[j]? = some y) :
    ∃ i : Nat, vs[i]? = some v ∧ ys[i]? = some y := by
  have l1 : (vs.take k).length = (ys.take k).length := by simp [hl]
  by_cases hj : j < (vs.take k).length
  · rw [List.getElem?_append_left hj] at hv
    rw [List.getElem?_append_left (by omega)] at hy
    rw [List.getElem?_take] at hv hy
    split at hv
    · rename_i h
      rw [if_pos h] at hy
      exact ⟨j, hv, hy⟩
    · cases hv
  · rw [List.getElem?_append_right (by omega), List.getElem?_drop] at hv
    rw [List.getElem?_append_right (by omega), ← l1, List.getElem?_drop] at hy
    exact ⟨_, hv, hy⟩

/-- Is it said by another one? The call that asks. -/
theorem says_any {w1 V : World} {a1 : Option Addr} {m c1 : Nat} {vals : List Value} {L : List (List Int)} (hs : Sl2 w1 a1 m c1 vals L) (hV : Below w1.heap.size w1 V) {k : Nat} (hk : k < m) {a3 : Option Addr} {xl c3 B : Nat} (hx : vals[k]? = some (.slice a3 xl c3))
    (hB : B < V.heap.size) (hcell : V.cell? ⟨B, 0, none⟩ = some (.slice a3 xl c3)) {a5 : Option Addr} {c5 M T : Nat} (hT : T = ConcatR.tot [vals.take k, vals.drop (k + 1)]) (hown : V.ownsRow M 29 1 (.slice a5 T c5) T [vals.take k, vals.drop (k + 1)].flatten) :
    Calls Try.prog 36 #[.slice a5 T c5, .func (.func 47) #[] #[.pointer (some ⟨B, 0, none⟩)]] V fun e w' => e = .returned (.bool (said L k)) ∧ Below V.heap.size V w' := by
  have hvl : vals.length = L.length := by rw [hs.sl.len, hs.len]
  have hkL : k < L.length := by rw [hs.len]; exact hk
  have hfl : [vals.take k, vals.drop (k + 1)].flatten = vals.take k ++ vals.drop (k + 1) := by simp
  rw [hfl] at hown
  obtain ⟨a5', c5', hv5, hsl5⟩ := own_sl hown
  simp only [Value.slice.injEq] at hv5
  obtain ⟨rfl, _, rfl⟩ := hv5
  obtain ⟨a3', c3', hv3, hsl3⟩ := hs.row k _ _ hx (List.getElem?_eq_getElem hkL)
  simp only [Value.slice.injEq] at hv3
  obtain ⟨rfl, rfl, rfl⟩ := hv3
  have hTl : (L.take k ++ L.drop (k + 1)).length = T := by
    rw [hT]; simp [ConcatR.tot, hvl]
  have CF := SlfR.containsFunc V a5 T c5 (vals.take k ++ vals.drop (k + 1)) 47 #[] #[.pointer (some ⟨B, 0, none⟩)] ((L.take k ++ L.drop (k + 1)).map fun y => Clause.subs y L[k]) hsl5 (by rw [List.length_map]; exact hTl) eg_says (by
    intro W hW j v b hv hb
    rw [List.getElem?_map, Option.map_eq_some_iff] at hb
    obtain ⟨ys, hys, rfl⟩ := hb
    obtain ⟨i, hi1, hi2⟩ := skip_at hvl hv hys
    obtain ⟨a6, c6, rfl, hs6⟩ := hs.row i v ys hi1 hi2
    have hWb : Below w1.heap.size w1 W := hV.trans (hW.mono hV.size)
    exact says1_any W a3 _ c3 L[k] (hsl3.next hWb) a6 _ c6 ys (hs6.next hWb) B ((hW.cell (p := ⟨B, 0, none⟩) hB).trans hcell))
  have e : ((L.take k ++ L.drop (k + 1)).map fun y => Clause.subs y L[k]).any id = said L k := by
    rw [List.any_map]
    unfold said
    rw [List.getD_eq_getElem?_getD, List.getElem?_eq_getElem hkL]
    rfl
  rw [e] at CF
  exact CF

set_option maxHeartbeats 4000000 in
theorem subsumed_any (w : World) (a : Option Addr) (n c : Nat) (vs : List Value) (cls : List (List Int)) (hsl : Sl2 w a n c vs cls) (hw : Formula.Wf2 cls) (hn : n * 24 ≤ 140737488355328) (hlen : ∀ l ∈ cls, l.length * 8 ≤ 140737488355328) :
    Calls Try.prog 28 #[.slice a n c] w (RowsOut w (subsumed cls)) := by
  have HC := Lib.hid (cleaned_any w a n c vs cls hsl hw hn hlen)
  have hml : (cleaned cls).length ≤ n := by rw [← hsl.len]; exact len_cleaned cls
  have hwl : Formula.Wf2 (cleaned cls) := by
    intro l hl
    obtain ⟨y, hy, rfl, _⟩ := mem_cleaned.1 hl
    exact Clause.norm_wf (hw y hy)
  have HN := Lib.hid hn
  have HWL := Lib.hid hwl
  have hsubd : subsumed cls = sub (cleaned cls) := rfl
  rw [hsubd]
  generalize cleaned cls = L at *
  generalize hLm : L.length = m at *
  have HLM := Lib.hid hLm
  have HML := Lib.hid hml
  clear hsl hw hn hlen hsubd hwl hLm hml
  go_enter Try.func28, Try.ntmps28
  go_wp2_with fail
  refine HC.out.mono ?_
  rintro e w1 ⟨a1, c1, vals, rfl, hmix, hb1⟩
  rw [HLM.out] at hmix ⊢
  have hs := hmix.sl2'
  have hcap := hs.sl.cap
  have hbig := hs.sl.big
  have HMX := Lib.hid hmix
  have HB1 := Lib.hid hb1
  have HS := Lib.hid hs
  have HV := Lib.hid hmix.vlen
  obtain ⟨N, hN⟩ : ∃ N, N = w1.heap.size := ⟨_, rfl⟩
  have HNN := Lib.hid hN
  clear hmix hb1 hs hN
  go_wp2_with fail
  go_loopw [3, 11] (fun v i wr => ∃ k t : Nat, k ≤ m ∧ i = .int .i64 k ∧ (∃ a' c', v = .slice a' t c' ∧ Hid (wr.ownsRow N 29 1 (.slice a' t c') t ((kept L k).map fun i => vals.getD i (.slice none 0 0)))) ∧ Hid (Below N w1 wr)) (fun _ i _ => m - (intOf i).toNat)
  case atStart => exact ⟨0, 0, Nat.zero_le _, rfl, ⟨none, 0, rfl, World.ownsRow_nil _ _ _ _⟩, Below.refl _ _⟩
  case round =>
    obtain ⟨k, t, hk, rfl, ⟨a', c', rfl, hown⟩, hbr⟩ := hrel
    have hbw : Below w1.heap.size w1 wr := by rw [← HNN.out]; exact hbr.out
    by_cases hlt : k < m
    · obtain ⟨g, o, a3, c3, hx, rfl, hgs, hc, hs3, hvk⟩ := HS.out.at hlt
      have k0 := (hbw.cell (p := ⟨g, o + k, none⟩) hgs).trans hc
      generalize hxl : L[k].length = xl at *
      have hkc : k ≤ c1 := by omega
      have hkc2 : k + 1 ≤ c1 := by omega
      have hwr : IntKind.i64.wrap ((k : Int) + 1) = (k : Int) + 1 := by simp [IntKind.wrap, IntKind.bits, IntKind.signed]; omega
      have hg1 : (0 : Int) ≤ (k : Int) + 1 := by omega
      have hg2 : (k : Int) + 1 ≤ (m : Int) := by omega
      have hg3 : (k : Int) ≤ (k : Int) + 1 := by omega
      have hT : Sl w1 (some ⟨g, o, none⟩) k c1 (vals.take k) := HS.out.sl.take (by omega)
      have hD : Sl w1 (if c1 = k + 1 then some ⟨g, o, none⟩ else some ⟨g, o + (k + 1), none⟩) (m - (k + 1)) (c1 - (k + 1)) (vals.drop (k + 1)) := by
        by_cases hce : c1 = k + 1
        · rw [if_pos hce, hce, show m - (k + 1) = 0 by omega, Nat.sub_self]
          exact sl_empty w1 _ vals (k + 1) (by rw [HV.out]; omega)
        · rw [if_neg hce]
          exact sl_drop HS.out.sl (by omega)
      have h5 : Below wr.heap.size wr (wr.alloc (.cells #[.slice a3 xl c3] 29)) := (Below.refl _ _).alloc (Nat.le_refl _) _
      have hz5 : (wr.alloc (.cells #[.slice a3 xl c3] 29)).heap.size = wr.heap.size + 1 := by simp
      have hc5 : (wr.alloc (.cells #[.slice a3 xl c3] 29)).cell? ⟨wr.heap.size, 0, none⟩ = some (.slice a3 xl c3) := by simp
      have hown' := own_next hown.out h5
      have HVK := Lib.hid hvk
      have HPREP : Hid (∀ (ad : Option Addr), Sl w1 ad (m - (k + 1)) (c1 - (k + 1)) (vals.drop (k + 1)) → ∀ W6, W6 = ((wr.alloc (.cells #[.slice a3 xl c3] 29)).alloc (.cells #[.slice (some ⟨g, o, none⟩) k c1, .slice ad (m - (k + 1)) (c1 - (k + 1))] 22)).drew →
          (Calls Try.prog 46 #[.slice (some ⟨wr.heap.size + 1, 0, none⟩) 2 2] W6 fun e w' => ∃ a' c', e = .returned (.slice a' (ConcatR.tot [vals.take k, vals.drop (k + 1)]) c') ∧ w'.ownsRow W6.heap.size 29 1 (.slice a' (ConcatR.tot [vals.take k, vals.drop (k + 1)]) c') (ConcatR.tot [vals.take k, vals.drop (k + 1)]) [vals.take k, vals.drop (k + 1)].flatten ∧ Below W6.heap.size W6 w') ∧
          Below w1.heap.size w1 W6 ∧ w1.heap.size ≤ W6.heap.size ∧ wr.heap.size < W6.heap.size ∧ W6.cell? ⟨wr.heap.size, 0, none⟩ = some (.slice a3 xl c3) ∧ W6.ownsRow N 29 1 (.slice a' t c') t ((kept L k).map fun i => vals.getD i (.slice none 0 0))) := by
        intro ad had W6 hW6
        have h6 : Below (wr.alloc (.cells #[.slice a3 xl c3] 29)).heap.size (wr.alloc (.cells #[.slice a3 xl c3] 29)) W6 := by
          rw [hW6]; exact ((Below.refl _ _).alloc (Nat.le_refl _) _).drew
        have hbw6 : Below w1.heap.size w1 W6 := hbw.trans ((h5.trans (h6.mono h5.size)).mono hbw.size)
        have hsl6 : Sl W6 (some ⟨wr.heap.size + 1, 0, none⟩) 2 2 [.slice (some ⟨g, o, none⟩) k c1, .slice ad (m - (k + 1)) (c1 - (k + 1))] := by
          have := sl_new (wr.alloc (.cells #[.slice a3 xl c3] 29)) #[.slice (some ⟨g, o, none⟩) k c1, .slice ad (m - (k + 1)) (c1 - (k + 1))] 22 2 rfl (by decide)
          rw [hz5] at this
          rw [hW6]
          exact this.next ((Below.refl _ _).drew)
        have htot : ConcatR.tot [vals.take k, vals.drop (k + 1)] ≤ m := by
          have := HV.out
          simp [ConcatR.tot]
          omega
        refine ⟨?_, hbw6, hbw6.size, ?_, ?_, own_next hown' h6⟩
        · refine ConcatR.concat W6 _ 2 2 _ [vals.take k, vals.drop (k + 1)] hsl6 ⟨rfl, ?_⟩ ?_ (by have := HN.out; have := HML.out; omega) (by have := HN.out; have := HML.out; omega)
          · intro j v u hv hu
            match j, hv, hu with
            | 0, hv, hu =>
              simp at hv hu; subst hv; subst hu
              have hl : (vals.take k).length = k := by rw [List.length_take, HV.out]; omega
              exact ⟨_, _, by rw [hl], by rw [hl]; exact hT.next hbw6⟩
            | 1, hv, hu =>
              simp at hv hu; subst hv; subst hu
              have hl : (vals.drop (k + 1)).length = m - (k + 1) := by rw [List.length_drop, HV.out]
              exact ⟨_, _, by rw [hl], by rw [hl]; exact had.next hbw6⟩
          · have hone : ∀ v ∈ vals, v.oneCell' = true := by
              intro v hv
              obtain ⟨j, hj, rfl⟩ := List.getElem_of_mem hv
              obtain ⟨_, _, e, _⟩ := HS.out.row j _ _ (List.getElem?_eq_getElem hj) (List.getElem?_eq_getElem (by rw [HS.out.len, ← HV.out]; exact hj))
              rw [e]; rfl
            intro u hu v hv
            simp at hu
            rcases hu with rfl | rfl
            · exact hone v (List.mem_of_mem_take hv)
            · exact hone v (List.mem_of_mem_drop hv)
        · rw [hW6]; show wr.heap.size < (World.alloc _ _).heap.size; simp; omega
        · refine (h6.cell (p := ⟨wr.heap.size, 0, none⟩) (by rw [hz5]; show wr.heap.size < wr.heap.size + 1; omega)).trans hc5
      have HSAY : Hid (∀ V a5 c5 M, Below w1.heap.size w1 V → wr.heap.size < V.heap.size → V.cell? ⟨wr.heap.size, 0, none⟩ = some (.slice a3 xl c3) → V.ownsRow M 29 1 (.slice a5 (ConcatR.tot [vals.take k, vals.drop (k + 1)]) c5) (ConcatR.tot [vals.take k, vals.drop (k + 1)]) [vals.take k, vals.drop (k + 1)].flatten →
          Calls Try.prog 36 #[.slice a5 (ConcatR.tot [vals.take k, vals.drop (k + 1)]) c5, .func (.func 47) #[] #[.pointer (some ⟨wr.heap.size, 0, none⟩)]] V fun e w' => e = .returned (.bool (said L k)) ∧ Below V.heap.size V w') :=
        fun V a5 c5 M h1 h2 h3 h4 => says_any HS.out h1 hlt hvk h2 h3 rfl h4
      have HD := Lib.hid hD
      clear hc hs3 hvk h5 hz5 hc5 hown' hbw hbr hT hD
      by_cases hce : c1 = k + 1
      · have hD := HD.out
        rw [if_pos hce] at hD
        subst hce
        have hm0 : m - (k + 1) = 0 := by omega
        rw [Nat.sub_self, hm0] at hD HPREP
        have HP := Lib.hid (HPREP.out _ hD _ rfl)
        clear hD HD HPREP
        have HCON := Lib.hid HP.out.1
        have HB6 := Lib.hid HP.out.2.1
        have HZ6 := Lib.hid HP.out.2.2.1
        have HZ5 := Lib.hid HP.out.2.2.2.1
        have HCELL := Lib.hid HP.out.2.2.2.2.1
        have HOW6 := Lib.hid HP.out.2.2.2.2.2
        clear HP
        go_wp2_with fail
        go_region_law (first | (go_simp; go_at_call 46; refine HCON.out.mono ?_; rintro e w6 ⟨a5, c5, rfl, hown5, hb5⟩) | (go_simp; go_at_call 36; refine (HSAY.out w6 a5 c5 _ (HB6.out.trans (hb5.mono HZ6.out)) (Nat.lt_of_lt_of_le HZ5.out hb5.size) ((hb5.cell (p := ⟨wr.heap.size, 0, none⟩) HZ5.out).trans HCELL.out) hown5).mono ?_; rintro e w7 ⟨rfl, hb7⟩))
        all_goals
          have HB7 := Lib.hid (HB6.out.trans ((hb5.trans (hb7.mono hb5.size)).mono HZ6.out))
          have hc7 := (hb7.cell (p := ⟨wr.heap.size, 0, none⟩) (Nat.lt_of_lt_of_le HZ5.out hb5.size)).trans ((hb5.cell (p := ⟨wr.heap.size, 0, none⟩) HZ5.out).trans HCELL.out)
          have HO7 := Lib.hid (own_next (own_next HOW6.out hb5) hb7)
          clear hb5 hb7 hown5
          cases hsd : said L k
          · have HKM : Hid (kept L (k + 1) = kept L k ++ [k]) := by show _ = _; rw [kept_more, hsd]; rfl
            have hN7 : N ≤ w7.heap.size := Nat.le_trans (Nat.le_of_eq HNN.out) HB7.out.size
            have htk : t ≤ k := by have h1 := hown.out.1; have h2 := kept_len L k; simp at h1; omega
            have hb7N : Below N w1 w7 := by rw [HNN.out]; exact HB7.out
            have HT8 : Hid ((t + 1) * 24 ≤ 140737488355328) := by show _ ≤ _; have := HN.out; have := HML.out; omega
            go_wp2_with ((with_reducible refine wpL_push (B := N) (W := w1) _ (.slice a3 xl c3) _ t _ info24 Try.underlying22 ?_ ?_ ?_ ?_ ?_ HO7.out hN7 HT8.out ?_ hb7N ?_); rfl; rfl; rfl; rfl; rfl; (have := HT8.out; omega); (intro a8 c8 w8 hown8 hb8 hs8))
            go_roundw
            case rel =>
              refine ⟨k + 1, t + 1, by omega, by go_num, ⟨a8, c8, by go_num, ?_⟩, hb8⟩
              show World.ownsRow _ _ _ _ _ _ _
              rw [HKM.out, List.map_append]
              have e : vals.getD k (.slice none 0 0) = .slice a3 xl c3 := by rw [List.getD_eq_getElem?_getD, HVK.out]; rfl
              simp only [List.map_cons, List.map_nil, e]
              exact hown8
            case measure => simp [intOf]; omega
          · have HKM : Hid (kept L (k + 1) = kept L k) := by show _ = _; rw [kept_more, hsd]; simp
            go_wp2_with fail
            go_roundw
            case rel =>
              refine ⟨k + 1, t, by omega, by go_num, ⟨a', c', rfl, ?_⟩, ?_⟩
              · show World.ownsRow _ _ _ _ _ _ _
                rw [HKM.out]; exact HO7.out
              · show Below _ _ _
                rw [HNN.out]; exact HB7.out
            case measure => simp [intOf]; omega
      · have hD := HD.out
        rw [if_neg hce] at hD
        have HP := Lib.hid (HPREP.out _ hD _ rfl)
        clear hD HD HPREP
        have HCON := Lib.hid HP.out.1
        have HB6 := Lib.hid HP.out.2.1
        have HZ6 := Lib.hid HP.out.2.2.1
        have HZ5 := Lib.hid HP.out.2.2.2.1
        have HCELL := Lib.hid HP.out.2.2.2.2.1
        have HOW6 := Lib.hid HP.out.2.2.2.2.2
        clear HP
        go_wp2_with fail
        go_region_law (first | (go_simp; go_at_call 46; refine HCON.out.mono ?_; rintro e w6 ⟨a5, c5, rfl, hown5, hb5⟩) | (go_simp; go_at_call 36; refine (HSAY.out w6 a5 c5 _ (HB6.out.trans (hb5.mono HZ6.out)) (Nat.lt_of_lt_of_le HZ5.out hb5.size) ((hb5.cell (p := ⟨wr.heap.size, 0, none⟩) HZ5.out).trans HCELL.out) hown5).mono ?_; rintro e w7 ⟨rfl, hb7⟩))
        all_goals
          have HB7 := Lib.hid (HB6.out.trans ((hb5.trans (hb7.mono hb5.size)).mono HZ6.out))
          have hc7 := (hb7.cell (p := ⟨wr.heap.size, 0, none⟩) (Nat.lt_of_lt_of_le HZ5.out hb5.size)).trans ((hb5.cell (p := ⟨wr.heap.size, 0, none⟩) HZ5.out).trans HCELL.out)
          have HO7 := Lib.hid (own_next (own_next HOW6.out hb5) hb7)
          clear hb5 hb7 hown5
          cases hsd : said L k
          · have HKM : Hid (kept L (k + 1) = kept L k ++ [k]) := by show _ = _; rw [kept_more, hsd]; rfl
            have hN7 : N ≤ w7.heap.size := Nat.le_trans (Nat.le_of_eq HNN.out) HB7.out.size
            have htk : t ≤ k := by have h1 := hown.out.1; have h2 := kept_len L k; simp at h1; omega
            have hb7N : Below N w1 w7 := by rw [HNN.out]; exact HB7.out
            have HT8 : Hid ((t + 1) * 24 ≤ 140737488355328) := by show _ ≤ _; have := HN.out; have := HML.out; omega
            go_wp2_with ((with_reducible refine wpL_push (B := N) (W := w1) _ (.slice a3 xl c3) _ t _ info24 Try.underlying22 ?_ ?_ ?_ ?_ ?_ HO7.out hN7 HT8.out ?_ hb7N ?_); rfl; rfl; rfl; rfl; rfl; (have := HT8.out; omega); (intro a8 c8 w8 hown8 hb8 hs8))
            go_roundw
            case rel =>
              refine ⟨k + 1, t + 1, by omega, by go_num, ⟨a8, c8, by go_num, ?_⟩, hb8⟩
              show World.ownsRow _ _ _ _ _ _ _
              rw [HKM.out, List.map_append]
              have e : vals.getD k (.slice none 0 0) = .slice a3 xl c3 := by rw [List.getD_eq_getElem?_getD, HVK.out]; rfl
              simp only [List.map_cons, List.map_nil, e]
              exact hown8
            case measure => simp [intOf]; omega
          · have HKM : Hid (kept L (k + 1) = kept L k) := by show _ = _; rw [kept_more, hsd]; simp
            go_wp2_with fail
            go_roundw
            case rel =>
              refine ⟨k + 1, t, by omega, by go_num, ⟨a', c', rfl, ?_⟩, ?_⟩
              · show World.ownsRow _ _ _ _ _ _ _
                rw [HKM.out]; exact HO7.out
              · show Below _ _ _
                rw [HNN.out]; exact HB7.out
            case measure => simp [intOf]; omega
    · have hkm : k = m := by omega
      subst hkm
      have ht : ((kept L k).map fun i => L.getD i []).length = t := by have h1 := hown.out.1; simp at h1 ⊢; exact h1
      have HHO := Lib.hid hown.out
      have HBR := Lib.hid (show Below w1.heap.size w1 wr by rw [← HNN.out]; exact hbr.out)
      have HTT := Lib.hid ht
      clear ht hown hbr hbw
      go_wp2_with fail
      go_ret
      have hsub : sub L = (kept L k).map fun i => L.getD i [] := by unfold sub; rw [HLM.out]
      rw [hsub]
      refine ⟨a', c', (kept L k).map fun i => vals.getD i (.slice none 0 0), by rw [HTT.out]; rfl, ?_, HB1.out.trans (HBR.out.mono HB1.out.size)⟩
      rw [HTT.out]
      refine ⟨own_mono HHO.out (by rw [HNN.out]; exact HB1.out.size), HTT.out, fun i x xs hx hxs => ?_⟩
      rw [List.getElem?_map, Option.map_eq_some_iff] at hx hxs
      obtain ⟨j, hj, rfl⟩ := hx
      obtain ⟨j', hj', rfl⟩ := hxs
      rw [hj] at hj'
      simp only [Option.some.injEq] at hj'
      subst hj'
      have hjm := (mem_kept.1 (List.mem_of_getElem? hj)).1
      have hv : vals[j]? = some (vals.getD j (.slice none 0 0)) := by rw [List.getD_eq_getElem?_getD, List.getElem?_eq_getElem (by rw [HV.out]; exact hjm)]; rfl
      have hl : L[j]? = some (L.getD j []) := by rw [List.getD_eq_getElem?_getD, List.getElem?_eq_getElem (by rw [HLM.out]; exact hjm)]; rfl
      obtain ⟨a6, c6, e6, ho6⟩ := HMX.out.row j _ _ hv hl
      exact ⟨a6, c6, e6, own_next ho6 HBR.out⟩

end Pre
end Go.Proofs.Ythhkngpbaflfiaa
