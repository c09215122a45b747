/-
  facts.Active, put, Assume, Lemma, New.
-/
import Derived.Test.YtgbpoeidpldmkaaFactH
namespace Go.Proofs.Ytgbpoeidpldmkaa
open Go.RowKit Base
set_option linter.unusedVariables false
set_option linter.unusedSimpArgs false
namespace Fact
open Vals (srt srt_spec srt_one)

theorem active_take {l : List Fc} {k : Nat} (hk : k < l.length) : active (l.take (k + 1)) = active (l.take k) ++ (if l[k].kind = 1 then [l[k].id] else []) := by
  unfold active
  rw [List.take_succ_eq_append_getElem hk, List.filter_append, List.map_append]
  by_cases h : l[k].kind = 1 <;> simp [h]
theorem active_len (l : List Fc) : (active l).length ≤ l.length := by
  unfold active
  rw [List.length_map]
  exact List.length_filter_le _ _

set_option maxHeartbeats 4000000 in
theorem active_any (w : World) (t : Tb) (a : Option Addr) (c : Nat) (vs : List (List Value)) (hs : SlF w a t.facts.length c vs t.facts) (hn : (t.facts.length + 1) * 8 ≤ 140737488355328) :
    Calls Try.prog 33 #[tagg t a c] w fun e w' => ∃ a' c', e = .returned (.slice a' (active t.facts).length c') ∧ w'.ownsRow w.heap.size 3 1 (.slice a' (active t.facts).length c') (active t.facts).length (ints (active t.facts)) ∧ Below w.heap.size w w' := by
  unfold tagg
  obtain ⟨W1, hW1⟩ : ∃ U, w.alloc (.cells #[.int .i64 t.next, .int .i64 t.depth, .slice a t.facts.length c] 24) = U := ⟨_, rfl⟩
  obtain ⟨hb1, x1⟩ := tbox _ _ _ _ _ _ _ hW1
  have q2 := x1.at' 2 _ rfl
  have HS := Lib.hid (hs.next hb1)
  have hcap := hs.sl.cap
  have hbig := hs.sl.big
  have HB := Lib.hid hb1
  have HN := Lib.hid hn
  clear hs hb1 x1 hn
  generalize hnn : t.facts.length = n at *
  have HNN := Lib.hid hnn
  clear hnn
  go_enter Try.func33, Try.ntmps33
  go_wp2_with fail
  go_loopw [3, 9] (fun s i wr => ∃ (k m : Nat) (a' : Option Addr) (c' : Nat), k ≤ n ∧ i = .int .i64 k ∧ s = .slice a' m c' ∧ Hid ((active (t.facts.take k)).length = m) ∧ Hid (wr.ownsRow W1.heap.size 3 1 (.slice a' m c') m (ints (active (t.facts.take k)))) ∧ Hid (Below W1.heap.size W1 wr)) (fun _ i _ => n - (intOf i).toNat)
  case atStart => exact ⟨0, 0, none, 0, Nat.zero_le _, rfl, rfl, rfl, World.ownsRow_nil _ _ _ _, Below.refl _ _⟩
  case round =>
    obtain ⟨k, m, a', c', hk, rfl, rfl, hm, hO, hB⟩ := hrel
    by_cases hlt : k < n
    · obtain ⟨b, o, a1, c1, a2, c2, hx, hae, hbs, ⟨d0, d1, d2, d3, d4⟩, hs1, hs2, _⟩ := (HS.out.next hB.out).at hlt
      subst hae
      have HT := Lib.hid (active_take hx)
      have HM8 : Hid ((m + 1) * 8 ≤ 140737488355328) := by
        show _ ≤ _
        have h := active_len (t.facts.take k)
        rw [List.length_take] at h
        have := hm.out
        have := HN.out
        omega
      generalize t.facts[k] = y at *
      generalize hA : active (t.facts.take k) = A at *
      clear hA hs1 hs2
      obtain ⟨W5, hW5⟩ : ∃ U, wr.alloc (.cells #[.int .i64 y.id, .int .i64 y.kind, .int .i64 y.depth, .slice a1 y.lits.length c1, .slice a2 y.tags.length c2] 31) = U := ⟨_, rfl⟩
      have hb5 : Below wr.heap.size wr W5 := by rw [← hW5]; exact (Below.refl _ _).alloc (Nat.le_refl _) _
      have x5 := BoxN.new wr #[.int .i64 y.id, .int .i64 y.kind, .int .i64 y.depth, .slice a1 y.lits.length c1, .slice a2 y.tags.length c2] 31
      rw [hW5] at x5
      have y0 := x5.at' 0 _ rfl
      have y1 := x5.at' 1 _ rfl
      have HO5 := Lib.hid (own_next hO.out hb5)
      have HB5 := Lib.hid (hB.out.trans (hb5.mono hB.out.size))
      clear x5 hb5
      by_cases h1 : y.kind = 1
      · have v1 : (y.kind == 1) = true := by simp [h1]
        have HR : Hid ((if y.kind = 1 then [y.id] else []) = [y.id]) := if_pos h1
        clear h1
        go_wp2_with ((with_reducible refine wpL_push W1.heap.size W5 (.int .i64 y.id) (.slice a' m c') m (ints A) info_int Try.underlying26 rfl ?_ ?_ ?_ rfl HO5.out HB5.out.size HM8.out ?_ HB5.out ?_); rfl; rfl; rfl; (have := HM8.out; omega); (intro a8 c8 w8 hown8 hb8 hz8))
        have HO8 := Lib.hid hown8
        have HB8 := Lib.hid hb8
        clear hown8 hb8 hz8 d0 d1 d2 d3 d4 y0 y1 hW5
        go_wp2_with fail
        go_roundw
        case rel =>
          refine ⟨k + 1, m + 1, a8, c8, by omega, by go_num, rfl, ?_, ?_, HB8.out⟩
          · show _ = _
            rw [HT.out, HR.out, List.length_append, hm.out]
            rfl
          · show World.ownsRow _ _ _ _ _ _ _
            rw [HT.out, HR.out]
            have e : ints (A ++ [y.id]) = ints A ++ [.int .i64 y.id] := by simp [ints]
            rw [e]
            exact HO8.out
        case measure => simp [intOf]; omega
      · have v1 : (y.kind == 1) = false := by simp [h1]
        have HR : Hid ((if y.kind = 1 then [y.id] else []) = []) := if_neg h1
        clear h1
        go_wp2_with fail
        go_roundw
        case rel => exact ⟨k + 1, m, a', c', by omega, by go_num, rfl, by rw [HT.out, HR.out, List.append_nil]; exact hm, by rw [HT.out, HR.out, List.append_nil]; exact HO5.out, HB5.out⟩
        case measure => simp [intOf]; omega
    · have HE : Hid (t.facts.take k = t.facts) := List.take_of_length_le (by have := HNN.out; omega)
      rw [HE.out] at hm hO
      go_wp2_with fail
      go_ret
      have hm := hm.out
      subst hm
      exact ⟨a', c', rfl, own_mono hO.out HB.out.size, HB.out.trans (hB.out.mono HB.out.size)⟩

theorem block_set {w : World} {b o : Nat} {cs : Array Value} {t : TypeId} {fr : Nat × Nat} {u : Value} (h : w.heap[b]? = some (.cells cs t fr)) : (w.setCell ⟨b, o, none⟩ u).heap[b]? = some (.cells (cs.setIfInBounds o u) t fr) := by
  simp [World.setCell, Array.getElem?_modify, h]

set_option maxRecDepth 8000 in
set_option maxHeartbeats 16000000 in
theorem put_any (w : World) (t : Tb) (a : Option Addr) (c : Nat) (vs : List (List Value)) (hs : SlF w a t.facts.length c vs t.facts) (hw : WfF t.facts) (kind : Int) (hk : kind = 1 ∨ kind = 2) (al : Option Addr) (nl cl : Nat) (l : List Int) (hl : Sl w al nl cl (ints l)) (hnl : nl * 8 ≤ 140737488355328) (hwl : Clause.Wf l) :
    Calls Try.prog 20 #[tagg t a c, .int .i64 kind, .slice al nl cl] w fun e w' => ∃ a' c' vs', e = .returned (.tuple #[tagg (putT t kind l).1 a' c', .int .i64 (putT t kind l).2.1, .int .i64 (putT t kind l).2.2]) ∧ FOwn w' w.heap.size a' (putT t kind l).1.facts.length c' vs' (putT t kind l).1.facts ∧ Below w.heap.size w w' := by
  have HTA := Lib.hid (fun (U : World) (hU : Below w.heap.size w U) => table_any U t a c vs (hs.next hU) hw)
  have HCO := Lib.hid (fun (hok : tableOk t = true) (U : World) (hU : Below w.heap.size w U) => copied_any U t a c vs (hs.next hU) (by have := (ok_of hok).len; omega) (WfF.fit hok hw))
  have HAC := Lib.hid (fun (hok : tableOk t = true) (U : World) (hU : Below w.heap.size w U) => active_any U t a c vs (hs.next hU) (by have := (ok_of hok).len; omega))
  have HSO := Lib.hid (fun (U : World) (hU : Below w.heap.size w U) => Vals.lits_any U al nl cl l (hl.next hU) hnl)
  have HWS : Hid (Clause.Wf (srt l)) := fun x hx => hwl x (srt_one l hx)
  have hcap := hs.sl.cap
  clear hs hw hl hnl hwl
  have HPT : Hid (putT t kind l = if tableOk t = true then if litsOk (srt l) = true then if t.facts.length = 64 then (zero, 0, 3) else if t.next = 1099511627776 then (zero, 0, 4) else (put t kind (srt l), t.next, 0) else (zero, 0, 23) else (zero, 0, 9)) := rfl
  generalize putT t kind l = R at *
  unfold tagg at *
  obtain ⟨W1, hW1⟩ : ∃ U, w.alloc (.cells #[.int .i64 t.next, .int .i64 t.depth, .slice a t.facts.length c] 24) = U := ⟨_, rfl⟩
  obtain ⟨W2, hW2⟩ : ∃ U, W1.alloc (.cells #[.int .i64 0, .int .i64 0, .slice none 0 0] 24) = U := ⟨_, rfl⟩
  obtain ⟨hb1, x1⟩ := tbox _ _ _ _ _ _ _ hW1
  obtain ⟨hb2, x2⟩ := tbox _ _ _ _ _ _ _ hW2
  have x12 := x1.next hb2 x1.lt
  have hbw := hb1.trans (hb2.mono hb1.size)
  have HB := Lib.hid hbw
  have HX1 := Lib.hid x12
  have HX2 := Lib.hid x2
  have HLE := Lib.hid hb1.size
  have HLL := Lib.hid x2.lt
  have HS2 := Lib.hid (HSO.out W2 hbw)
  clear hb1 hb2 x1 x2 x12 hbw HSO
  generalize hst : srt l = st at *
  clear hst
  go_enter Try.func20, Try.ntmps20
  go_wp2_with fail
  with_reducible refine HS2.out.mono ?_
  rintro e w3 ⟨ax, cx, rfl, hox, hb3⟩
  have HB3 := Lib.hid (HB.out.trans (hb3.mono HB.out.size))
  have HZ23 := Lib.hid hb3.size
  have HOX := Lib.hid hox
  have x13 := HX1.out.next hb3 HX1.out.lt
  have HX13 := Lib.hid x13
  have HX23 := Lib.hid (HX2.out.next hb3 HX2.out.lt)
  have HT3 := Lib.hid (HTA.out w3 HB3.out)
  have q0 := x13.at' 0 _ rfl
  have q1 := x13.at' 1 _ rfl
  have q2 := x13.at' 2 _ rfl
  clear hb3 hox x13 HTA
  by_cases hok : tableOk t = true
  case neg =>
    rw [if_neg hok] at HT3 HPT
    have HR : Hid (R = (zero, 0, 9)) := HPT.out
    clear hok
    go_wp2_with fail
    with_reducible refine HT3.out.mono ?_
    rintro e w4 ⟨rfl, hb4⟩
    have HB4 := Lib.hid (HB3.out.trans (hb4.mono HB3.out.size))
    have x4 := HX23.out.next hb4 HX23.out.lt
    clear hb4 q0 q1 q2
    have s0 := x4.at' 0 _ rfl
    have s1 := x4.at' 1 _ rfl
    have s2 := x4.at' 2 _ rfl
    have f0 := x4.fz 0
    have f1 := x4.fz 1
    have f2 := x4.fz 2
    clear x4
    go_wp2_with fail
    refine bodyPost_ret (v := .tuple #[.agg #[.int .i64 0, .int .i64 0, .slice none 0 0], .int .i64 0, .int .i64 9]) (by simp [results, Try.results20, go_sem, s0, s1, s2]) rfl ?_
    rw [HR.out]
    exact ⟨none, 0, [], rfl, FOwn.nil _ _, below_set3 HB4.out HLE.out _ _ _⟩
  case pos =>
    rw [if_pos hok] at HT3 HPT
    have HOK := Lib.hid hok
    clear hok
    go_wp2_with fail
    with_reducible refine HT3.out.mono ?_
    rintro e w4 ⟨rfl, hb4⟩
    have HB4 := Lib.hid (HB3.out.trans (hb4.mono HB3.out.size))
    have HX14 := Lib.hid (HX13.out.next hb4 HX13.out.lt)
    have HZ24 := Lib.hid (Nat.le_trans HZ23.out hb4.size)
    have HX24 := Lib.hid (HX23.out.next hb4 HX23.out.lt)
    have HO4 := Lib.hid (own_next HOX.out hb4)
    have HL4 := Lib.hid (literals_any w4 ax st.length cx st (own_slI HO4.out) HWS.out)
    clear hb4 q0 q1 q2
    generalize hlo : litsOk st = lo at *
    have HLO := Lib.hid hlo
    clear hlo
    cases lo
    case false =>
      have HR : Hid (R = (zero, 0, 23)) := by show _ = _; rw [HPT.out]; rfl
      go_wp2_with fail
      with_reducible refine HL4.out.mono ?_
      rintro e w5 ⟨rfl, hb5⟩
      have HB5 := Lib.hid (HB4.out.trans (hb5.mono HB4.out.size))
      have x4 := HX24.out.next hb5 HX24.out.lt
      clear hb5
      have s0 := x4.at' 0 _ rfl
      have s1 := x4.at' 1 _ rfl
      have s2 := x4.at' 2 _ rfl
      have f0 := x4.fz 0
      have f1 := x4.fz 1
      have f2 := x4.fz 2
      clear x4
      go_wp2_with fail
      refine bodyPost_ret (v := .tuple #[.agg #[.int .i64 0, .int .i64 0, .slice none 0 0], .int .i64 0, .int .i64 23]) (by simp [results, Try.results20, go_sem, s0, s1, s2]) rfl ?_
      rw [HR.out]
      exact ⟨none, 0, [], rfl, FOwn.nil _ _, below_set3 HB5.out HLE.out _ _ _⟩
    case true =>
      have HP2 : Hid (R = if t.facts.length = 64 then (zero, 0, 3) else if t.next = 1099511627776 then (zero, 0, 4) else (put t kind st, t.next, 0)) := by show _ = _; rw [HPT.out]; rfl
      clear HPT
      go_wp2_with fail
      with_reducible refine HL4.out.mono ?_
      rintro e w5 ⟨rfl, hb5⟩
      have HB5 := Lib.hid (HB4.out.trans (hb5.mono HB4.out.size))
      have x15 := HX14.out.next hb5 HX14.out.lt
      have x25 := HX24.out.next hb5 HX24.out.lt
      have HX15 := Lib.hid x15
      have HZ25 := Lib.hid (Nat.le_trans HZ24.out hb5.size)
      have HX25 := Lib.hid x25
      have HO5 := Lib.hid (own_next HO4.out hb5)
      have q0 := x15.at' 0 _ rfl
      have q1 := x15.at' 1 _ rfl
      have q2 := x15.at' 2 _ rfl
      clear hb5 x15
      by_cases h64 : t.facts.length = 64
      case pos =>
        have v64 : ((t.facts.length : Int) == 64) = true := by rw [h64]; rfl
        have HR : Hid (R = (zero, 0, 3)) := by show _ = _; rw [HP2.out, if_pos h64]
        clear h64
        have s0 := x25.at' 0 _ rfl
        have s1 := x25.at' 1 _ rfl
        have s2 := x25.at' 2 _ rfl
        have f0 := x25.fz 0
        have f1 := x25.fz 1
        have f2 := x25.fz 2
        clear x25
        go_wp2_with fail
        refine bodyPost_ret (v := .tuple #[.agg #[.int .i64 0, .int .i64 0, .slice none 0 0], .int .i64 0, .int .i64 3]) (by simp [results, Try.results20, go_sem, s0, s1, s2]) rfl ?_
        rw [HR.out]
        exact ⟨none, 0, [], rfl, FOwn.nil _ _, below_set3 HB5.out HLE.out _ _ _⟩
      case neg =>
        have v64 : ((t.facts.length : Int) == 64) = false := by simp; omega
        by_cases hnx : t.next = 1099511627776
        case pos =>
          have vnx : (t.next == 1099511627776) = true := by rw [hnx]; rfl
          have HR : Hid (R = (zero, 0, 4)) := by show _ = _; rw [HP2.out, if_neg h64, if_pos hnx]
          clear h64 hnx
          have s0 := x25.at' 0 _ rfl
          have s1 := x25.at' 1 _ rfl
          have s2 := x25.at' 2 _ rfl
          have f0 := x25.fz 0
          have f1 := x25.fz 1
          have f2 := x25.fz 2
          clear x25
          go_wp2_with fail
          refine bodyPost_ret (v := .tuple #[.agg #[.int .i64 0, .int .i64 0, .slice none 0 0], .int .i64 0, .int .i64 4]) (by simp [results, Try.results20, go_sem, s0, s1, s2]) rfl ?_
          rw [HR.out]
          exact ⟨none, 0, [], rfl, FOwn.nil _ _, below_set3 HB5.out HLE.out _ _ _⟩
        case neg =>
          have vnx : (t.next == 1099511627776) = false := by simp [hnx]
          have HR : Hid (R = (put t kind st, t.next, 0)) := by show _ = _; rw [HP2.out, if_neg h64, if_neg hnx]
          have hn1 : 1 ≤ t.next := (ok_of HOK.out).n1
          have hn2 : t.next ≤ 1099511627776 := (ok_of HOK.out).n2
          have HC5 := Lib.hid (HCO.out HOK.out w5 HB5.out)
          have HN72 : Hid ((t.facts.length + 1) * 72 ≤ 140737488355328) := by show _ ≤ _; have := (ok_of HOK.out).len; omega
          clear h64 hnx x25
          generalize hnn : t.facts.length = n at *
          have HNN := Lib.hid hnn
          clear hnn
          go_wp2_with fail
          with_reducible refine HC5.out.mono ?_
          rintro e w6 ⟨a6, c6, vs6, rfl, hk6, hb6⟩
          obtain ⟨W7, hW7⟩ : ∃ U, w6.alloc (.cells #[.int .i64 t.next, .int .i64 t.depth, .slice a6 n c6] 24) = U := ⟨_, rfl⟩
          obtain ⟨hb7, x7⟩ := tbox _ _ _ _ _ _ _ hW7
          have ht7 : W7.heap[w6.heap.size]? = some (.cells #[.int .i64 t.next, .int .i64 t.depth, .slice a6 n c6] 24 (0, 0)) := by rw [← hW7]; show (w6.heap.push _)[w6.heap.size]? = _; simp
          obtain ⟨W8, hW8⟩ : ∃ U, W7.alloc (.cells #[.int .i64 t.next, .int .i64 kind, .int .i64 t.depth, .slice ax st.length cx, .slice none 0 0] 31) = U := ⟨_, rfl⟩
          have hb8 : Below W7.heap.size W7 W8 := by rw [← hW8]; exact (Below.refl _ _).alloc (Nat.le_refl _) _
          have x8 : BoxN W7.heap.size [.int .i64 t.next, .int .i64 kind, .int .i64 t.depth, .slice ax st.length cx, .slice none 0 0] W8 := by
            have h := BoxN.new W7 #[.int .i64 t.next, .int .i64 kind, .int .i64 t.depth, .slice ax st.length cx, .slice none 0 0] 31
            rw [hW8] at h
            exact h
          have hb68 : Below w6.heap.size w6 W8 := hb7.trans (hb8.mono hb7.size)
          have x78 := x7.next hb8 x7.lt
          have ht8 : W8.heap[w6.heap.size]? = some (.cells #[.int .i64 t.next, .int .i64 t.depth, .slice a6 n c6] 24 (0, 0)) := (hb8.block w6.heap.size x7.lt).trans ht7
          have x17 := (HX15.out.next hb6 HX15.out.lt).next hb7 (Nat.lt_of_lt_of_le HX15.out.lt hb6.size)
          have x18 := x17.next hb8 x17.lt
          have q0 := x17.at' 0 _ rfl
          have q1 := x17.at' 1 _ rfl
          have HB6 := Lib.hid (HB5.out.trans (hb6.mono HB5.out.size))
          have HB68 := Lib.hid hb68
          have HZ56 := Lib.hid hb6.size
          have HK6 := Lib.hid hk6
          have HX2 := Lib.hid ((HX25.out.next hb6 HX25.out.lt).next hb68 (Nat.lt_of_lt_of_le HX25.out.lt hb6.size))
          have HO6 := Lib.hid (own_next HO5.out hb6)
          have HX78 := Lib.hid x78
          have HX8 := Lib.hid x8
          have HT8 := Lib.hid ht8
          have HX18 := Lib.hid x18
          have HW8 := Lib.hid hW8
          have HW25 : Hid (W2.heap.size ≤ w5.heap.size) := HZ25.out
          have HL12 : Hid (W1.heap.size < W2.heap.size) := HLL.out
          have HZ67L : Hid (w6.heap.size < W7.heap.size) := x7.lt
          have HZ67 : Hid (w6.heap.size ≤ W7.heap.size) := hb7.size
          have HZ61 : Hid (W1.heap.size < w6.heap.size) := Nat.lt_of_lt_of_le HL12.out (Nat.le_trans HZ25.out hb6.size)
          have HWL : Hid (w.heap.size ≤ W2.heap.size) := HB.out.size
          have HWL6 : Hid (w.heap.size ≤ w6.heap.size) := HB6.out.size
          clear hb6 hk6 hb7 x7 ht7 hb8 x8 hb68 x78 ht8 x17 x18 hW8
          go_upto_region 13 with fail
          rw [HW8.out]
          clear q0 q1 hW7
          rcases hk with rfl | rfl
          · have HK10 := Lib.hid ((HK6.out.next HB68.out).mono HW25.out)
            have HX3 := HX8
            have HXO := HX78
            have HXR := HX2
            have HT10 := HT8
            have HB10 := Lib.hid (HB6.out.trans (HB68.out.mono HB6.out.size))
            have HZ10 : Hid (W2.heap.size ≤ W8.heap.size) := Nat.le_trans (Nat.le_trans HW25.out HZ56.out) HB68.out.size
            have HROW : Hid (FcOwn W8 W2.heap.size (fcells (fresh t 1 st) ax cx none 0) (fresh t 1 st)) := ⟨ax, cx, none, 0, rfl, own_next HO6.out HB68.out, World.ownsRow_nil _ _ _ _⟩
            have m2 := HXO.out.at' 2 _ rfl
            have e0 := HX3.out.at' 0 _ rfl
            have e1 := HX3.out.at' 1 _ rfl
            have e2 := HX3.out.at' 2 _ rfl
            have e3 := HX3.out.at' 3 _ rfl
            have e4 := HX3.out.at' 4 _ rfl
            obtain ⟨V, hV⟩ : ∃ U, W8.alloc (.cells #[.int .i64 t.next, .int .i64 1, .int .i64 t.depth, .slice ax st.length cx, .slice none 0 0] 31) = U := ⟨_, rfl⟩
            have hbv : Below W8.heap.size W8 V := by rw [← hV]; exact (Below.refl _ _).alloc (Nat.le_refl _) _
            have xv := BoxN.new W8 #[.int .i64 t.next, .int .i64 1, .int .i64 t.depth, .slice ax st.length cx, .slice none 0 0] 31
            rw [hV] at xv
            have HXV := Lib.hid xv
            have HKV := Lib.hid (HK10.out.next hbv)
            have HRV := Lib.hid (HROW.out.next hbv)
            have HXO2 := Lib.hid (HXO.out.next hbv HXO.out.lt)
            have HX32 := Lib.hid (HX3.out.next hbv HX3.out.lt)
            have HXR2 := Lib.hid (HXR.out.next hbv HXR.out.lt)
            have HTV := Lib.hid ((hbv.block w6.heap.size HXO.out.lt).trans HT10.out)
            have HBV := Lib.hid (HB10.out.trans (hbv.mono HB10.out.size))
            have HLG := Lib.hid (fun q (hq : (Value.slice a6 n c6).ownBlock = some q) => (HK6.out.outer.lt q hq))
            have HZV : Hid (W2.heap.size ≤ V.heap.size) := Nat.le_trans HZ10.out hbv.size
            clear hbv xv
            go_wp2_with ((with_reducible refine wpL_pushK (k := 5) (by decide) W2.heap.size (.slice a6 n c6) n vs6 ⟨W8.heap.size, 0, none⟩ 1 (fcells (fresh t 1 st) ax cx none 0) info_fact Try.underlying22 rfl ?_ ?_ (one5 _ _ _ _ _) rfl HKV.out.outer ?_ HZV.out HN72.out ?_ ?_); rfl; rfl; (intro j z hz; rw [Addr.add_lit, Nat.zero_add]; exact HXV.out.at' j z hz); (have := HN72.out; omega); (intro aw cw w11 hown11 hg11; have xo := box_grown HXO2.out hg11 (fun q hq => Nat.ne_of_lt (HLG.out q hq).2); have n0 := xo.at' 0 _ rfl; have n1 := xo.at' 1 _ rfl; have n2 := xo.at' 2 _ rfl; have z0 := xo.fz 0; have z2 := xo.fz 2; have x3 := box_grown HX32.out hg11 (fun q hq => Nat.ne_of_lt (Nat.lt_of_lt_of_le (HLG.out q hq).2 HZ67.out)); have i0 := x3.at' 0 _ rfl; have xr := box_grown HXR2.out hg11 (fun q hq => (Nat.ne_of_lt (Nat.lt_of_lt_of_le HL12.out (HKV.out.outer.lt q hq).1)).symm); have HXO3 := Lib.hid xo; have HX33 := Lib.hid x3; have HXR3 := Lib.hid xr; have HT11 := Lib.hid ((hg11.block w6.heap.size (Array.getElem?_eq_some_iff.1 HTV.out).1 (fun e => Nat.ne_of_lt (HLG.out _ e.symm).2 rfl)).trans HTV.out); have HP11 := Lib.hid (HKV.out.push HRV.out hown11 hg11); have HB11 := Lib.hid (HBV.out.grown hg11 HBV.out.size (fun q hq => Nat.le_trans HWL.out (HKV.out.outer.lt q hq).1)); clear hown11 hg11 xo x3 xr))
            obtain ⟨w12, hw12⟩ : ∃ U, w11.setCell ⟨w6.heap.size, 2, none⟩ (.slice aw (n + 1) cw) = U := ⟨_, rfl⟩
            obtain ⟨w13, hw13⟩ : ∃ U, w12.setCell ⟨w6.heap.size, 0, none⟩ (.int .i64 (t.next + 1)) = U := ⟨_, rfl⟩
            have x12 := HXO3.out.set 2 (.slice aw (n + 1) cw)
            rw [hw12] at x12
            have x13 := x12.set 0 (.int .i64 (t.next + 1))
            rw [hw13] at x13
            have l0 := x12.at' 0 _ rfl
            have l1 := x12.fz 0
            have k0 := x13.at' 0 _ rfl
            have k1 := x13.at' 1 _ rfl
            have k2 := x13.at' 2 _ rfl
            have hne3 : w6.heap.size ≠ W7.heap.size := Nat.ne_of_lt HZ67L.out
            have hner : w6.heap.size ≠ W1.heap.size := (Nat.ne_of_lt HZ61.out).symm
            have y13 := (HX33.out.other (a := ⟨w6.heap.size, 2, none⟩) hne3 (.slice aw (n + 1) cw)).other (a := ⟨w6.heap.size, 0, none⟩) hne3 (.int .i64 (t.next + 1))
            rw [hw12, hw13] at y13
            have r13 := (HXR3.out.other (a := ⟨w6.heap.size, 2, none⟩) hner (.slice aw (n + 1) cw)).other (a := ⟨w6.heap.size, 0, none⟩) hner (.int .i64 (t.next + 1))
            rw [hw12, hw13] at r13
            have P13 := (HP11.out.setT (o := 2) (u := .slice aw (n + 1) cw) HT11.out).setT (o := 0) (u := .int .i64 (t.next + 1)) (block_set HT11.out)
            rw [hw12, hw13] at P13
            have B13 := (HB11.out.setCell (p := ⟨w6.heap.size, 2, none⟩) HWL6.out (.slice aw (n + 1) cw)).setCell (p := ⟨w6.heap.size, 0, none⟩) HWL6.out (.int .i64 (t.next + 1))
            rw [hw12, hw13] at B13
            have j0 := y13.at' 0 _ rfl
            have hn31 : W1.heap.size ≠ W7.heap.size := Nat.ne_of_lt (Nat.lt_trans HZ61.out HZ67L.out)
            have j0s := (((y13.other (a := ⟨W1.heap.size, 0, none⟩) hn31 (.int .i64 (t.next + 1))).other (a := ⟨W1.heap.size, 1, none⟩) hn31 (.int .i64 t.depth)).other (a := ⟨W1.heap.size, 2, none⟩) hn31 (.slice aw (n + 1) cw)).at' 0 _ rfl
            have s0 := r13.at' 0 _ rfl
            have s1 := r13.at' 1 _ rfl
            have s2 := r13.at' 2 _ rfl
            have f0 := r13.fz 0
            have f1 := r13.fz 1
            have f2 := r13.fz 2
            have HP13 := Lib.hid P13
            have HB13 := Lib.hid B13
            clear x12 x13 y13 r13 P13 B13 hne3 hner hn31 hV e0 e1 e2 e3 e4 m2
            go_upto_region 17 with fail
            go_region
            all_goals go_wp2_with fail
            all_goals refine bodyPost_ret (v := .tuple #[.agg #[.int .i64 (t.next + 1), .int .i64 t.depth, .slice aw (n + 1) cw], .int .i64 t.next, .int .i64 0]) (by simp [results, Try.results20, go_sem, s0, s1, s2]) rfl ?_
            all_goals
              rw [HR.out]
              have hlen : (put t 1 st).facts.length = n + 1 := by
                show (t.facts ++ [fresh t 1 st]).length = n + 1
                rw [List.length_append, HNN.out]
                rfl
              refine ⟨aw, cw, vs6 ++ [fcells (fresh t 1 st) ax cx none 0], ?_, ?_, (below_set3 HB13.out HLE.out _ _ _).drew⟩
              · rw [hlen]; rfl
              · rw [hlen]
                exact ((HP13.out.set3 HL12.out _ _ _).mono HWL.out).next (Below.refl _ _).drew
          · have z1 := HX18.out.at' 0 _ rfl
            have z2 := HX18.out.at' 1 _ rfl
            have z3 := HX18.out.at' 2 _ rfl
            have HB8 := Lib.hid (HB6.out.trans (HB68.out.mono HB6.out.size))
            have HA8 := Lib.hid (HAC.out HOK.out W8 HB8.out)
            go_wp2_with fail
            with_reducible refine HA8.out.mono ?_
            rintro e w9 ⟨at9, ct9, rfl, ho9, hb9⟩
            obtain ⟨w10, hw10⟩ : ∃ U, w9.setCell ⟨W7.heap.size, 4, none⟩ (.slice at9 (active t.facts).length ct9) = U := ⟨_, rfl⟩
            have x9 := HX8.out.next hb9 HX8.out.lt
            have g4 := x9.at' 4 _ rfl
            have h4 := x9.fz 4
            have x10 := x9.set 4 (.slice at9 (active t.facts).length ct9)
            rw [hw10] at x10
            have hb10 : Below w6.heap.size w6 w10 := by
              rw [← hw10]
              exact (HB68.out.trans (hb9.mono HB68.out.size)).setCell (p := ⟨W7.heap.size, 4, none⟩) (Nat.le_of_lt HZ67L.out) _
            have hne7 : W7.heap.size ≠ w6.heap.size := (Nat.ne_of_lt HZ67L.out).symm
            have xo10 := (HX78.out.next hb9 HX78.out.lt).other (a := ⟨W7.heap.size, 4, none⟩) hne7 (.slice at9 (active t.facts).length ct9)
            rw [hw10] at xo10
            have hne1 : W7.heap.size ≠ W1.heap.size := (Nat.ne_of_lt (Nat.lt_trans HZ61.out HZ67L.out)).symm
            have xr10 := (HX2.out.next hb9 HX2.out.lt).other (a := ⟨W7.heap.size, 4, none⟩) hne1 (.slice at9 (active t.facts).length ct9)
            rw [hw10] at xr10
            have ht10 : w10.heap[w6.heap.size]? = some (.cells #[.int .i64 t.next, .int .i64 t.depth, .slice a6 n c6] 24 (0, 0)) := by
              rw [← hw10]
              simp only [World.setCell, Array.getElem?_modify]
              rw [if_neg hne7]
              exact (hb9.block w6.heap.size HX78.out.lt).trans HT8.out
            have ho10 : w10.ownsRow W8.heap.size 3 1 (.slice at9 (active t.facts).length ct9) (active t.facts).length (ints (active t.facts)) := by
              rw [← hw10]
              exact ownsRow_setCell_below (a := ⟨W7.heap.size, 4, none⟩) ho9 HX8.out.lt _
            have HK10 := Lib.hid ((HK6.out.next hb10).mono HW25.out)
            have HX3 := Lib.hid x10
            have HXO := Lib.hid xo10
            have HXR := Lib.hid xr10
            have HT10 := Lib.hid ht10
            have HB10 := Lib.hid (HB6.out.trans (hb10.mono HB6.out.size))
            have HZ10 : Hid (W2.heap.size ≤ w10.heap.size) := Nat.le_trans (Nat.le_trans HW25.out HZ56.out) hb10.size
            have hfr : (fresh t 2 st).tags = active t.facts := rfl
            have HROW : Hid (FcOwn w10 W2.heap.size (fcells (fresh t 2 st) ax cx at9 ct9) (fresh t 2 st)) := ⟨ax, cx, at9, ct9, rfl, own_next HO6.out hb10, by rw [hfr]; exact own_mono ho10 (Nat.le_trans (Nat.le_trans HW25.out HZ56.out) HB68.out.size)⟩
            have HFE : Hid (fcells (fresh t 2 st) ax cx at9 ct9 = [.int .i64 t.next, .int .i64 2, .int .i64 t.depth, .slice ax st.length cx, .slice at9 (active t.facts).length ct9]) := by
              show _ = _
              unfold fcells
              rw [hfr]
              rfl
            clear x9 x10 hb10 hne7 hne1 xo10 xr10 ht10 ho10 hb9 ho9 z1 z2 z3
            have m2 := HXO.out.at' 2 _ rfl
            have e0 := HX3.out.at' 0 _ rfl
            have e1 := HX3.out.at' 1 _ rfl
            have e2 := HX3.out.at' 2 _ rfl
            have e3 := HX3.out.at' 3 _ rfl
            have e4 := HX3.out.at' 4 _ rfl
            obtain ⟨V, hV⟩ : ∃ U, w10.alloc (.cells #[.int .i64 t.next, .int .i64 2, .int .i64 t.depth, .slice ax st.length cx, .slice at9 (active t.facts).length ct9] 31) = U := ⟨_, rfl⟩
            have hbv : Below w10.heap.size w10 V := by rw [← hV]; exact (Below.refl _ _).alloc (Nat.le_refl _) _
            have xv := BoxN.new w10 #[.int .i64 t.next, .int .i64 2, .int .i64 t.depth, .slice ax st.length cx, .slice at9 (active t.facts).length ct9] 31
            rw [hV] at xv
            have HXV := Lib.hid xv
            have HKV := Lib.hid (HK10.out.next hbv)
            have HRV := Lib.hid (HROW.out.next hbv)
            have HXO2 := Lib.hid (HXO.out.next hbv HXO.out.lt)
            have HX32 := Lib.hid (HX3.out.next hbv HX3.out.lt)
            have HXR2 := Lib.hid (HXR.out.next hbv HXR.out.lt)
            have HTV := Lib.hid ((hbv.block w6.heap.size HXO.out.lt).trans HT10.out)
            have HBV := Lib.hid (HB10.out.trans (hbv.mono HB10.out.size))
            have HLG := Lib.hid (fun q (hq : (Value.slice a6 n c6).ownBlock = some q) => (HK6.out.outer.lt q hq))
            have HZV : Hid (W2.heap.size ≤ V.heap.size) := Nat.le_trans HZ10.out hbv.size
            clear hbv xv
            go_wp2_with ((with_reducible refine wpL_pushK (k := 5) (by decide) W2.heap.size (.slice a6 n c6) n vs6 ⟨w10.heap.size, 0, none⟩ 1 (fcells (fresh t 2 st) ax cx at9 ct9) info_fact Try.underlying22 rfl ?_ ?_ (one5 _ _ _ _ _) rfl HKV.out.outer ?_ HZV.out HN72.out ?_ ?_); rfl; rfl; (intro j z hz; rw [Addr.add_lit, Nat.zero_add]; exact HXV.out.at' j z hz); (have := HN72.out; omega); (intro aw cw w11 hown11 hg11; have xo := box_grown HXO2.out hg11 (fun q hq => Nat.ne_of_lt (HLG.out q hq).2); have n0 := xo.at' 0 _ rfl; have n1 := xo.at' 1 _ rfl; have n2 := xo.at' 2 _ rfl; have z0 := xo.fz 0; have z2 := xo.fz 2; have x3 := box_grown HX32.out hg11 (fun q hq => Nat.ne_of_lt (Nat.lt_of_lt_of_le (HLG.out q hq).2 HZ67.out)); have i0 := x3.at' 0 _ rfl; have xr := box_grown HXR2.out hg11 (fun q hq => (Nat.ne_of_lt (Nat.lt_of_lt_of_le HL12.out (HKV.out.outer.lt q hq).1)).symm); have HXO3 := Lib.hid xo; have HX33 := Lib.hid x3; have HXR3 := Lib.hid xr; have HT11 := Lib.hid ((hg11.block w6.heap.size (Array.getElem?_eq_some_iff.1 HTV.out).1 (fun e => Nat.ne_of_lt (HLG.out _ e.symm).2 rfl)).trans HTV.out); have HP11 := Lib.hid (HKV.out.push HRV.out hown11 hg11); have HB11 := Lib.hid (HBV.out.grown hg11 HBV.out.size (fun q hq => Nat.le_trans HWL.out (HKV.out.outer.lt q hq).1)); clear hown11 hg11 xo x3 xr))
            obtain ⟨w12, hw12⟩ : ∃ U, w11.setCell ⟨w6.heap.size, 2, none⟩ (.slice aw (n + 1) cw) = U := ⟨_, rfl⟩
            obtain ⟨w13, hw13⟩ : ∃ U, w12.setCell ⟨w6.heap.size, 0, none⟩ (.int .i64 (t.next + 1)) = U := ⟨_, rfl⟩
            have x12 := HXO3.out.set 2 (.slice aw (n + 1) cw)
            rw [hw12] at x12
            have x13 := x12.set 0 (.int .i64 (t.next + 1))
            rw [hw13] at x13
            have l0 := x12.at' 0 _ rfl
            have l1 := x12.fz 0
            have k0 := x13.at' 0 _ rfl
            have k1 := x13.at' 1 _ rfl
            have k2 := x13.at' 2 _ rfl
            have hne3 : w6.heap.size ≠ W7.heap.size := Nat.ne_of_lt HZ67L.out
            have hner : w6.heap.size ≠ W1.heap.size := (Nat.ne_of_lt HZ61.out).symm
            have y13 := (HX33.out.other (a := ⟨w6.heap.size, 2, none⟩) hne3 (.slice aw (n + 1) cw)).other (a := ⟨w6.heap.size, 0, none⟩) hne3 (.int .i64 (t.next + 1))
            rw [hw12, hw13] at y13
            have r13 := (HXR3.out.other (a := ⟨w6.heap.size, 2, none⟩) hner (.slice aw (n + 1) cw)).other (a := ⟨w6.heap.size, 0, none⟩) hner (.int .i64 (t.next + 1))
            rw [hw12, hw13] at r13
            have P13 := (HP11.out.setT (o := 2) (u := .slice aw (n + 1) cw) HT11.out).setT (o := 0) (u := .int .i64 (t.next + 1)) (block_set HT11.out)
            rw [hw12, hw13] at P13
            have B13 := (HB11.out.setCell (p := ⟨w6.heap.size, 2, none⟩) HWL6.out (.slice aw (n + 1) cw)).setCell (p := ⟨w6.heap.size, 0, none⟩) HWL6.out (.int .i64 (t.next + 1))
            rw [hw12, hw13] at B13
            have j0 := y13.at' 0 _ rfl
            have hn31 : W1.heap.size ≠ W7.heap.size := Nat.ne_of_lt (Nat.lt_trans HZ61.out HZ67L.out)
            have j0s := (((y13.other (a := ⟨W1.heap.size, 0, none⟩) hn31 (.int .i64 (t.next + 1))).other (a := ⟨W1.heap.size, 1, none⟩) hn31 (.int .i64 t.depth)).other (a := ⟨W1.heap.size, 2, none⟩) hn31 (.slice aw (n + 1) cw)).at' 0 _ rfl
            have s0 := r13.at' 0 _ rfl
            have s1 := r13.at' 1 _ rfl
            have s2 := r13.at' 2 _ rfl
            have f0 := r13.fz 0
            have f1 := r13.fz 1
            have f2 := r13.fz 2
            have HP13 := Lib.hid P13
            have HB13 := Lib.hid B13
            clear x12 x13 y13 r13 P13 B13 hne3 hner hn31 hV e0 e1 e2 e3 e4 m2
            go_upto_region 17 with fail
            go_region
            all_goals go_wp2_with fail
            all_goals refine bodyPost_ret (v := .tuple #[.agg #[.int .i64 (t.next + 1), .int .i64 t.depth, .slice aw (n + 1) cw], .int .i64 t.next, .int .i64 0]) (by simp [results, Try.results20, go_sem, s0, s1, s2]) rfl ?_
            all_goals
              rw [HR.out]
              have hlen : (put t 2 st).facts.length = n + 1 := by
                show (t.facts ++ [fresh t 2 st]).length = n + 1
                rw [List.length_append, HNN.out]
                rfl
              refine ⟨aw, cw, vs6 ++ [fcells (fresh t 2 st) ax cx at9 ct9], ?_, ?_, (below_set3 HB13.out HLE.out _ _ _).drew⟩
              · rw [hlen]; rfl
              · rw [hlen]
                exact ((HP13.out.set3 HL12.out _ _ _).mono HWL.out).next (Below.refl _ _).drew
end Fact
end Go.Proofs.Ytgbpoeidpldmkaa
