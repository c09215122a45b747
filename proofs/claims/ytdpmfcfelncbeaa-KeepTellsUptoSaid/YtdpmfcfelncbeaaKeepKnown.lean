/-
  keep.Known: what holds of what is active.
-/
import Derived.Test.YtdpmfcfelncbeaaKeepCopy
import Derived.Test.YtdpmfcfelncbeaaKeepA
import Derived.RangeFuncBox
namespace Go.Proofs.Ytdpmfcfelncbeaa
open Go.RowKit Base
set_option linter.unusedVariables false
set_option linter.unusedSimpArgs false
namespace Keep

/-- A block of cells of another type stays when one's own row grows. -/
theorem box_kept {w w1 : World} {N : Nat} {cs : Array Value} {t : TypeId} (h : w.heap[N]? = some (.cells cs t (0, 0))) {B : Nat} {e : TypeId} {size : Nat} {v : Value} {n : Nat} {xs : List Value} (ho : w.ownsRow B e size v n xs) (he : e ≠ t) (hg : w.grownBy w1 v.ownBlock) : w1.heap[N]? = some (.cells cs t (0, 0)) := by
  refine (hg.block N (Array.getElem?_eq_some_iff.1 h).1 ?_).trans h
  rcases ho.2 with ⟨rfl, _⟩ | ⟨g, cap, cur, rfl, _, hgb, _⟩
  · simp [Value.ownBlock]
  · intro e'
    obtain rfl : N = g := by simpa [Value.ownBlock] using e'
    rw [h] at hgb
    simp only [Option.some.injEq, Obj.cells.injEq] at hgb
    exact he hgb.2.1.symm

theorem box_cell {w : World} {N : Nat} {cs : List Value} {t : TypeId} (h : w.heap[N]? = some (.cells cs.toArray t (0, 0))) {j : Nat} {u : Value} (hu : cs[j]? = some u) : w.cell? ⟨N, j, none⟩ = some u := by
  rw [cell_of_row _ N j _ t _ h]
  simpa using hu

/-- One row more in one's own, the block that it grew in told. -/
theorem wpL_pushG {P : Program} {w : World} {ops : Array Oper} {rest : List Oper} {dst : Option Tmp} {ty : TypeId} {pos : String} {af : Array Edge} {a : Act} {Q : Exit → Act → World → Prop}
    {s x : Operand} {t e1 e0 : TypeId} {bytes : Nat} (B : Nat) (w0 : World) (ua : Option Addr) (uc : Nat) (xs : List Int) (ul : Nat) (hul : xs.length = ul) (v : Value) (n : Nat) (vals : List Value) (xss : List (List Int))
    (hinfo : (P.info? e1).map (fun i => (i.zero, i.size, i.bytes)) = some (some (.slice none 0 0), 1, bytes)) (ht : P.underlying t = some (.slice e1)) (he : e0 ≠ e1)
    (hw : w = w0.alloc (.cells #[.slice ua ul uc] e1)) (hs : a.eval s = v) (hx : a.eval x = .slice (some ⟨w0.heap.size, 0, none⟩) 1 1)
    (hmix : Own2 w0 B e1 e0 v n vals xss) (hu : w0.ownsRow B e0 1 (.slice ua ul uc) ul (ints xs)) (hB : B ≤ w0.heap.size) (hn : (n + 1) * bytes ≤ 140737488355328) (hn' : n + 1 ≤ 9223372036854775807)
    (hK : ∀ a' c w1, Own2 w1 B e1 e0 (.slice a' (n + 1) c) (n + 1) (vals ++ [.slice ua ul uc]) (xss ++ [xs]) → w.grownBy w1 v.ownBlock → wpList P ops Q rest (a.put dst (.slice a' (n + 1) c)) w1) :
    wpList P ops Q (⟨dst, .call { callee := .builtin .append, args := #[s, x], argTypes := #[t, t] }, ty, pos, af, none⟩ :: rest) a w := by
  obtain ⟨i, hi, hz0, hz1, hz2⟩ := info_parts hinfo
  subst hw
  subst hul
  refine wpList_append_own _ rfl s x t rfl B e1 i (.slice none 0 0) 1 bytes ht hi hz0 hz1 hz2 rfl (by decide) v n vals hs (hmix.outer.alloc _) ⟨w0.heap.size, 0, none⟩ 1 1 [.slice ua xs.length uc] hx rfl (cell_one_new _ _ _) (by intro q hq; simp at hq; subst hq; rfl)
    (by unfold maxLen; omega) hn (by simp; omega) ?_
  intro v' w1 hown' hgrow _
  obtain ⟨a', c, rfl, _⟩ := own_sl hown'
  have hal : Below w0.heap.size w0 (w0.alloc (.cells #[.slice ua xs.length uc] e1)) := (Below.refl _ _).alloc (Nat.le_refl _) _
  exact hK a' c w1 ((hmix.next hal).push he (own_next hu hal) hown' hgrow) hgrow

theorem one_len (act : List Int) (k : Kp) (out : List (List Int)) (x : List Int) : (one act k out x).length ≤ out.length + 1 := by
  unfold one
  split
  · simp
  · omega
theorem fold_len (act : List Int) (k : Kp) (xs out : List (List Int)) : (xs.foldl (one act k) out).length ≤ out.length + xs.length := by
  induction xs generalizing out with
  | nil => simp
  | cons x r ih =>
    have h1 := ih (one act k out x)
    have h2 := one_len act k out x
    rw [List.foldl_cons, List.length_cons]
    omega
theorem known_len (act : List Int) (l : List Kp) (out : List (List Int)) : (l.foldl (knownK act) out).length ≤ out.length + sz l := by
  induction l generalizing out with
  | nil => simp [sz]
  | cons k r ih =>
    have h1 := ih (knownK act out k)
    have h2 := fold_len act k k.1 out
    rw [List.foldl_cons]
    unfold knownK at *
    unfold sz at *
    simp at *
    omega
theorem fold_ok {act : List Int} {k : Kp} {xs out : List (List Int)} (h1 : RowsOk xs) (h2 : RowsOk out) : RowsOk (xs.foldl (one act k) out) := fun y hy => by
  rcases fold_from _ hy with h | ⟨h, _⟩
  · exact h2 y h
  · exact h1 y h
theorem known_ok {act : List Int} {l : List Kp} (h1 : KeptOk l) {out : List (List Int)} (h2 : RowsOk out) : RowsOk (l.foldl (knownK act) out) := fun y hy => by
  rcases known_from _ hy with h | ⟨k, hk, h, _⟩
  · exact h2 y h
  · exact h1 k hk y h

theorem fold_take {act : List Int} {k : Kp} {xs out : List (List Int)} {j : Nat} (hj : j < xs.length) : (xs.take (j + 1)).foldl (one act k) out = one act k ((xs.take j).foldl (one act k) out) xs[j] := by
  rw [List.take_succ_eq_append_getElem hj, List.foldl_append]
  rfl
theorem known_take {act : List Int} {l : List Kp} {out : List (List Int)} {j : Nat} (hj : j < l.length) : (l.take (j + 1)).foldl (knownK act) out = l[j].1.foldl (one act l[j]) ((l.take j).foldl (knownK act) out) := by
  rw [List.take_succ_eq_append_getElem hj, List.foldl_append]
  rfl
theorem sz_more {l : List Kp} {j : Nat} (hj : j < l.length) : sz (l.take j) + l[j].1.length ≤ sz l := by
  have h : sz (l.take (j + 1)) = sz (l.take j) + l[j].1.length := by
    unfold sz
    rw [List.take_succ_eq_append_getElem hj, List.map_append, List.sum_append]
    simp
  have h2 : sz (l.take (j + 1)) ≤ sz l := by
    unfold sz
    conv => rhs; rw [← List.take_append_drop (j + 1) l, List.map_append, List.sum_append]
    omega
  omega

set_option maxRecDepth 8000 in
set_option maxHeartbeats 16000000 in
theorem known_any (w : World) (a : Option Addr) (n c : Nat) (vs : List (List Value)) (l : List Kp) (hsl : SlK w a n c vs l) (hok : KeptOk l) (hz : (sz l + 1) * 24 ≤ 140737488355328) (at' : Option Addr) (nt ct : Nat) (act : List Int) (hst : Sl w at' nt ct (ints act)) :
    Calls Try.prog 8 #[.slice a n c, .slice at' nt ct] w fun e w' => ∃ a' c' vals, e = .returned (.slice a' (known l act).length c') ∧ Own2 w' w.heap.size 24 3 (.slice a' (known l act).length c') (known l act).length vals (known l act) ∧ Below w.heap.size w w' := by
  have hcap := hsl.sl.cap
  have hbig := hsl.sl.big
  have HS := Lib.hid hsl
  have HOK := Lib.hid hok
  have HZ := Lib.hid hz
  have HST := Lib.hid hst
  clear hsl hok hz hst
  go_enter Try.func8, Try.ntmps8
  go_wp2_with fail
  go_loopw [5, 12] (fun s i wr => ∃ (k : Nat) (a' : Option Addr) (c' m : Nat) (vals : List Value), k ≤ n ∧ i = .int .i64 k ∧ s = .slice a' m c' ∧ Hid (((l.take k).foldl (knownK act) []).length = m) ∧ Hid (Own2 wr w.heap.size 24 3 (.slice a' m c') m vals ((l.take k).foldl (knownK act) [])) ∧ Hid (Below w.heap.size w wr)) (fun _ i _ => n - (intOf i).toNat)
  case atStart => exact ⟨0, none, 0, 0, [], Nat.zero_le _, rfl, rfl, rfl, Own2.nil _ _ _ _, Below.refl _ _⟩
  case round =>
    obtain ⟨k, a', c', m, vals0, hk, rfl, rfl, hm, hO, hB⟩ := hrel
    by_cases hlt : k < n
    · obtain ⟨b, o, a1, c1, vals, a2, c2, hx, rfl, hbs, e0, e1, hs1, hs2, _⟩ := HS.out.at hlt
      have d0 := (hB.out.cell (p := ⟨b, o + k * 2, none⟩) hbs).trans e0
      have d1 := (hB.out.cell (p := ⟨b, o + k * 2 + 1, none⟩) hbs).trans e1
      have HT := Lib.hid (known_take (act := act) (out := []) hx)
      have hkl : ((l.take k).foldl (knownK act) []).length ≤ sz (l.take k) := by have := known_len act (l.take k) []; simpa using this
      have HLE := Lib.hid (Nat.le_trans (Nat.add_le_add_right hkl _) (sz_more hx))
      have HRO := Lib.hid (HOK.out _ (List.getElem_mem hx))
      have HKO : Hid (RowsOk ((l.take k).foldl (knownK act) [])) := known_ok (fun y hy => HOK.out y (List.mem_of_mem_take hy)) (fun y hy => by cases hy)
      clear hkl e0 e1
      generalize hO0 : (l.take k).foldl (knownK act) [] = O0 at *
      clear hO0
      generalize l[k] = y at *
      obtain ⟨W5, hW5⟩ : ∃ U, wr.alloc (.cells #[.slice a1 y.1.length c1, .slice a2 y.2.length c2] 34) = U := ⟨_, rfl⟩
      have hb5 : Below wr.heap.size wr W5 := by rw [← hW5]; exact (Below.refl _ _).alloc (Nat.le_refl _) _
      have x5 : W5.heap[wr.heap.size]? = some (.cells #[.slice a1 y.1.length c1, .slice a2 y.2.length c2] 34 (0, 0)) := by rw [← hW5]; exact World.alloc_heap_new wr _
      have q0 : W5.cell? ⟨wr.heap.size, 0, none⟩ = some (.slice a1 y.1.length c1) := box_cell (cs := [.slice a1 y.1.length c1, .slice a2 y.2.length c2]) x5 rfl
      have HX5 := Lib.hid x5
      have HB5 := Lib.hid (hB.out.trans (hb5.mono hB.out.size))
      have HO5 := Lib.hid (hO.out.next hb5)
      have HS2 := Lib.hid hs2
      have HSA := Lib.hid hs1
      have hN5 : w.heap.size ≤ wr.heap.size := hB.out.size
      have HN5 := Lib.hid hN5
      clear x5 hb5 hs1 hs2 hN5 hB hO
      go_wp2_with fail
      clear q0 d0 d1 hW5
      generalize wr = wo at *
      go_loopw [5, 19] (fun s i wq => ∃ (j : Nat) (a' : Option Addr) (c' q : Nat) (vj : List Value), j ≤ y.1.length ∧ i = .int .i64 j ∧ s = .slice a' q c' ∧ Hid (((y.1.take j).foldl (one act y) O0).length = q) ∧ Hid (Own2 wq w.heap.size 24 3 (.slice a' q c') q vj ((y.1.take j).foldl (one act y) O0)) ∧ Hid (Below w.heap.size w wq) ∧ Hid (wq.heap[wo.heap.size]? = some (.cells #[.slice a1 y.1.length c1, .slice a2 y.2.length c2] 34 (0, 0)))) (fun _ i _ => y.1.length - (intOf i).toNat)
      case atStart => exact ⟨0, a', c', m, vals0, Nat.zero_le _, rfl, rfl, hm, HO5.out, HB5.out, HX5.out⟩
      case round =>
        generalize wr = wq at *
        obtain ⟨j, aj, cj, q, vj, hj, rfl, rfl, hqm, hoq, hbq, hxq⟩ := hrel
        have hcy := HSA.out.sl.cap
        have hby := HSA.out.sl.big
        by_cases hjl : j < y.1.length
        · obtain ⟨b2, o2, ax, cx, hx2, hae, hbs2, e0, hsx, _⟩ := (HSA.out.next hbq.out).at hjl
          subst hae
          have HT2 := Lib.hid (fold_take (act := act) (k := y) (out := O0) hx2)
          have HRX := Lib.hid (HRO.out _ (List.getElem_mem hx2))
          have HKJ : Hid (RowsOk ((y.1.take j).foldl (one act y) O0)) := fold_ok (fun x hx => HRO.out x (List.mem_of_mem_take hx)) HKO.out
          have HLJ : Hid (((y.1.take j).foldl (one act y) O0).length ≤ O0.length + y.1.length) := by
            show _ ≤ _
            have h := fold_len act y (y.1.take j) O0
            rw [List.length_take] at h
            omega
          generalize (y.1.take j).foldl (one act y) O0 = OJ at *
          generalize y.1[j] = x at *
          have q1 : wq.cell? ⟨wo.heap.size, 1, none⟩ = some (.slice a2 y.2.length c2) := box_cell (cs := [.slice (some ⟨b2, o2, none⟩) y.1.length c1, .slice a2 y.2.length c2]) hxq.out rfl
          have HBE := Lib.hid (beyond_any wq a2 _ c2 y.2 (HS2.out.next hbq.out) at' nt ct act (HST.out.next hbq.out))
          have HSX := Lib.hid hsx
          have hone : one act y OJ x = if beyond y.2 act = false ∧ hasC OJ x = false then OJ ++ [x] else OJ := rfl
          have HONE := Lib.hid hone
          have HAS := Lib.hid (fun (U : World) (hU : Below wq.heap.size wq U) => has_any U aj q cj vj OJ (own2_sl2 (hoq.out.next hU)) HKJ.out ax _ cx x (hsx.next hU) HRX.out)
          have HQ24 : Hid ((q + 1) * 24 ≤ 140737488355328) := by
            show _ ≤ _
            have h1 := HLJ.out; have h2 := HLE.out; have h3 := HZ.out; have h4 := hqm.out
            exact Nat.le_trans (Nat.mul_le_mul_right 24 (by omega)) h3
          clear hsx hone
          generalize beyond y.2 act = be at *
          generalize hasC OJ x = ha at *
          cases be
          · cases ha
            · have HR : Hid (one act y OJ x = OJ ++ [x]) := by show _ = _; rw [HONE.out]; simp
              go_wp2_with fail
              with_reducible refine HBE.out.mono ?_
              rintro e w3 ⟨rfl, hb3⟩
              have HB3 := Lib.hid hb3
              have HA3 := Lib.hid (HAS.out w3 hb3)
              clear hb3 q1 e0
              go_wp2_with fail
              with_reducible refine HA3.out.mono ?_
              rintro e w4 ⟨rfl, hb4⟩
              have hb34 := HB3.out.trans (hb4.mono HB3.out.size)
              have HB4 := Lib.hid hb34
              have HCL := Lib.hid (CloneI.clone w4 ax x.length cx (ints x) (HSX.out.next hb34) (ints_one x) HRX.out.2)
              clear hb4 hb34
              go_wp2_with fail
              with_reducible refine HCL.out.mono ?_
              rintro e w5 ⟨a5, c5, rfl, hown5, hb5⟩
              have hb45 := HB4.out.trans (hb5.mono HB4.out.size)
              have HO5 := Lib.hid (hoq.out.next hb45)
              have hz4 : w.heap.size ≤ w4.heap.size := Nat.le_trans hbq.out.size HB4.out.size
              have HW5 := Lib.hid (own_mono hown5 hz4)
              have hbw5 := hbq.out.trans (hb45.mono hbq.out.size)
              have HZ5 := Lib.hid hbw5.size
              have HBW5 := Lib.hid hbw5
              have hx5 := (hb45.block wo.heap.size (Array.getElem?_eq_some_iff.1 hxq.out).1).trans hxq.out
              have HX5b := Lib.hid hx5
              clear hown5 hb5 hb45 hz4 hbw5 hx5
              go_wp2_with ((with_reducible refine wpL_pushG (B := w.heap.size) w5 a5 c5 x x.length rfl _ q vj OJ info_ints Try.underlying23 ?_ ?_ ?_ ?_ HO5.out HW5.out HZ5.out HQ24.out ?_ ?_); decide; rfl; rfl; rfl; (have := HQ24.out; omega); (intro a6 c6 w6 hp6 hg6))
              have hal : Below w5.heap.size w5 (w5.alloc (.cells #[.slice a5 x.length c5] 24)) := (Below.refl _ _).alloc (Nat.le_refl _) _
              have hoA := HO5.out.next hal
              have hbx := (HBW5.out.trans (hal.mono HZ5.out)).grown hg6 (Nat.le_trans HZ5.out hal.size) (fun r hr => (hoA.outer.lt r hr).1)
              have hxA := (hal.block wo.heap.size (Array.getElem?_eq_some_iff.1 HX5b.out).1).trans HX5b.out
              have HX6 := Lib.hid (box_kept hxA hoA.outer (by decide) hg6)
              have HB6 := Lib.hid hbx
              have HP6 := Lib.hid hp6
              clear hp6 hg6 hal hoA hbx hxA
              go_wp2_with fail
              go_roundw
              case rel =>
                refine ⟨j + 1, a6, c6, q + 1, vj ++ [.slice a5 x.length c5], by omega, by go_num, rfl, ?_, ?_, HB6.out, HX6.out⟩
                · show _ = _
                  rw [HT2.out, HR.out, List.length_append, hqm.out]
                  rfl
                · show Own2 _ _ _ _ _ _ _ _
                  rw [HT2.out, HR.out]
                  exact HP6.out
              case measure => simp [intOf]; omega
            · have HR : Hid (one act y OJ x = OJ) := by show _ = _; rw [HONE.out]; simp
              go_wp2_with fail
              with_reducible refine HBE.out.mono ?_
              rintro e w3 ⟨rfl, hb3⟩
              have HB3 := Lib.hid hb3
              have HA3 := Lib.hid (HAS.out w3 hb3)
              clear hb3 q1 e0
              go_wp2_with fail
              with_reducible refine HA3.out.mono ?_
              rintro e w4 ⟨rfl, hb4⟩
              have HB4 := Lib.hid (HB3.out.trans (hb4.mono HB3.out.size))
              clear hb4
              go_wp2_with fail
              go_roundw
              case rel => exact ⟨j + 1, aj, cj, q, vj, by omega, by go_num, rfl, by rw [HT2.out, HR.out]; exact hqm, by rw [HT2.out, HR.out]; exact hoq.out.next HB4.out, hbq.out.trans (HB4.out.mono hbq.out.size), (HB4.out.block wo.heap.size (Array.getElem?_eq_some_iff.1 hxq.out).1).trans hxq.out⟩
              case measure => simp [intOf]; omega
          · have HR : Hid (one act y OJ x = OJ) := by show _ = _; rw [HONE.out]; simp
            go_wp2_with fail
            with_reducible refine HBE.out.mono ?_
            rintro e w3 ⟨rfl, hb3⟩
            have HB4 := Lib.hid hb3
            clear hb3 q1 e0
            go_wp2_with fail
            go_roundw
            case rel => exact ⟨j + 1, aj, cj, q, vj, by omega, by go_num, rfl, by rw [HT2.out, HR.out]; exact hqm, by rw [HT2.out, HR.out]; exact hoq.out.next HB4.out, hbq.out.trans (HB4.out.mono hbq.out.size), (HB4.out.block wo.heap.size (Array.getElem?_eq_some_iff.1 hxq.out).1).trans hxq.out⟩
            case measure => simp [intOf]; omega
        · have hje : j = y.1.length := by omega
          subst hje
          rw [List.take_length] at hoq hqm
          clear hxq
          go_wp2_with fail
          go_roundw
          case rel => exact ⟨k + 1, aj, cj, q, vj, by omega, by go_num, rfl, by rw [HT.out]; exact hqm, by rw [HT.out]; exact hoq, hbq⟩
          case measure => simp [intOf]; omega
    · have hke : k = n := by omega
      subst hke
      have HL : Hid (l.take k = l) := List.take_of_length_le (Nat.le_of_eq HS.out.len)
      go_wp2_with fail
      go_ret
      have e : known l act = (l.take k).foldl (knownK act) [] := by rw [HL.out]; rfl
      rw [e]
      have hm := hm.out
      subst hm
      exact ⟨a', c', vals0, rfl, hO.out, hB.out⟩
end Keep
end Go.Proofs.Ytdpmfcfelncbeaa
