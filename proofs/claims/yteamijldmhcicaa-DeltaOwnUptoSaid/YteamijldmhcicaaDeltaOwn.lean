/-
  interlocklaw22.DeltaOwn: the walk: the frames and the clause that are handed in stay; what is told shares nothing with them.
-/
import Derived.Test.YteamijldmhcicaaDeltaLawAdd
import Derived.Test.YteamijldmhcicaaRefSame
namespace Go.Proofs.Yteamijldmhcicaa
open Go.RowKit Base Own3N Set1
set_option linter.unusedVariables false
set_option linter.unusedSimpArgs false
namespace deltaOwn
open Delta

theorem info_int : (Try.prog.info? 3).map (fun i => (i.zero, i.size, i.bytes)) = some (some (.int .i64 0), 1, 8) := by kernel_rfl

/-- Where integers of the frames that were handed in, and of the clause, are written. -/
structure Wr (M K : Nat) (w8 : World) (a6 : Option Addr) (c6 : Nat) (vals : List Value) (F : List (List (List Int))) (a5 : Option Addr) (n5 c5 : Nat) (wr : World) : Prop where
  ins : Ins wr (M + 1) K 31 25 3 (.slice a6 F.length c6) F.length vals F
  low : Below (M + 1) w8 wr
  keep : Keeps K w8 wr
  own : ∃ vs, wr.ownsRow (M + 1) 3 1 (.slice a5 n5 c5) n5 vs
  bound : ∀ k, (Value.slice a5 n5 c5).ownBlock = some k → k < K

theorem Wr.write {M K : Nat} {w8 : World} {a6 : Option Addr} {c6 : Nat} {vals : List Value} {F : List (List (List Int))} {a5 : Option Addr} {n5 c5 : Nat} {wr : World} (h : Wr M K w8 a6 c6 vals F a5 n5 c5 wr) {g : Nat} (hg : M + 1 ≤ g) (hK : g < K)
    {cur : Array Value} {fz : Nat × Nat} (hc : wr.heap[g]? = some (.cells cur 3 fz)) (j : Nat) (u : Value) : Wr M K w8 a6 c6 vals F a5 n5 c5 (wr.setCell ⟨g, j, none⟩ u) := by
  obtain ⟨vs, ho⟩ := h.own
  exact ⟨h.ins.write (by decide) (by decide) hc j u, h.low.setCell hg _, h.keep.trans (Keeps.set hK _ _), own_some ho g j u, h.bound⟩

theorem Wr.lev {M K : Nat} {w8 : World} {a6 : Option Addr} {c6 : Nat} {vals : List Value} {F : List (List (List Int))} {a5 : Option Addr} {n5 c5 : Nat} {wr : World} (h : Wr M K w8 a6 c6 vals F a5 n5 c5 wr) {i : Nat} (hi : i < F.length) :
    ∃ g1 a1 c1, a6 = some ⟨g1, 0, none⟩ ∧ wr.cell? ⟨g1, i, none⟩ = some (.slice a1 F[i].length c1) ∧ F.length ≤ c6 ∧ c6 ≤ 9223372036854775807 ∧ ∀ k (hk : k < F[i].length),
      ∃ g2 a2 c2, a1 = some ⟨g2, 0, none⟩ ∧ wr.cell? ⟨g2, k, none⟩ = some (.slice a2 F[i][k].length c2) ∧ F[i].length ≤ c1 ∧ c1 ≤ 9223372036854775807 ∧ ∀ m (hm : m < F[i][k].length),
        ∃ g3 v cur, a2 = some ⟨g3, 0, none⟩ ∧ wr.cell? ⟨g3, m, none⟩ = some v ∧ wr.frozen? ⟨g3, m, none⟩ = false ∧ M + 1 ≤ g3 ∧ g3 < K ∧ wr.heap[g3]? = some (.cells cur 3 (0, 0)) ∧ F[i][k].length ≤ c2 ∧ c2 ≤ 9223372036854775807 := by
  obtain ⟨g1, x, cur1, e1, _, _, hx, hc1, _, _, hle1, hbg1⟩ := own_at h.ins.outer hi
  obtain ⟨a1, c1, us, rfl, ho1, hr1⟩ := h.ins.lev i x _ hx (List.getElem?_eq_getElem hi)
  refine ⟨g1, a1, c1, e1, hc1, hle1, hbg1, fun k hk => ?_⟩
  obtain ⟨g2, y, cur2, e2, _, _, hy, hc2, _, _, hle2, hbg2⟩ := own_at ho1 hk
  obtain ⟨a2, c2, vs, rfl, ho2, hb2⟩ := hr1 k y _ hy (List.getElem?_eq_getElem hk)
  refine ⟨g2, a2, c2, e2, hc2, hle2, hbg2, fun m hm => ?_⟩
  obtain ⟨g3, v, cur3, e3, hB3, _, _, hc3, hf3, hh3, hle3, hbg3⟩ := own_at ho2 hm
  exact ⟨g3, v, cur3, e3, hc3, hf3, hB3, hb2 g3 (by rw [e3]; rfl), hh3, hle3, hbg3⟩

theorem keeps_cell {K : Nat} {w w2 : World} (h : Keeps K w w2) {b : Nat} (hK : K ≤ b) (hb : b < w.heap.size) (j : Nat) : w2.cell? ⟨b, j, none⟩ = w.cell? ⟨b, j, none⟩ :=
  World.cell?_of_block (w := w) (a := ⟨b, j, none⟩) (h.block b hK hb)

set_option maxRecDepth 8000 in
set_option maxHeartbeats 16000000 in
theorem walk {w : World} (a0 : Option Addr) (c0 : Nat) (x0 : List (List (List Int))) (y0 : List Value) (s0 : Sl3 w a0 x0.length c0 y0 x0) (w0 : ∀ r ∈ x0, ∀ l ∈ r, Clause.Wf l) (z0 : Open.bulkFrames x0 ≤ 1048576) (a1 : Int) (w1 : -9223372036854775808 ≤ a1 ∧ a1 ≤ 9223372036854775807)
    (a2 : Option Addr) (c2 : Nat) (x2 : List Int) (s2 : Sl w a2 x2.length c2 (ints x2)) (w2 : Clause.Wf x2) (z2 : Open.bulkInts x2 ≤ 1048576) (W : World) (hW : W = w) :
    Calls Try.prog 4 #[.agg #[.slice a0 x0.length c0], .int .i64 a1, .slice a2 x2.length c2] W fun e w' => e = .returned (.bool true) ∧ Below W.heap.size W w' := by
  subst hW
  obtain ⟨V, hV⟩ : ∃ V, W.alloc (.cells #[.slice a0 x0.length c0] 24) = V := ⟨_, rfl⟩
  obtain ⟨hWV, k0, _, hzV⟩ := box_frames W a0 _ c0 V hV
  have HA := Lib.hid (alive_any V)
  have HF := Lib.hid (fits_of z0)
  have hx2 := Open.bulkInts_eq x2
  have HS0 := Lib.hid (s0.next hWV)
  have HX0 := Lib.hid (s2.next hWV)
  have HSW := Lib.hid s0
  have HXW := Lib.hid s2
  have HWX := Lib.hid w2
  have HW0 := Lib.hid w0
  have HLX : Hid (x2.length ≤ 1048576) := by show _ ≤ _; omega
  have HLV := Lib.hid w1
  have HRES := Lib.hid (add_res x0 a1 x2)
  have HWV := Lib.hid hWV
  have HROW : Hid (∀ r ∈ x0, r.length * 24 ≤ 140737488355328 ∧ ∀ l ∈ r, l.length * 8 ≤ 140737488355328) := fun r hr => ⟨by have := HF.out.lev r hr; omega, HF.out.row r hr⟩
  have hcap0 := s0.sl.cap
  have hbig0 := s0.sl.big
  have hcap2 := s2.cap
  have hbig2 := s2.big
  clear s0 w0 z0 s2 w2 z2 w1 hx2 hWV
  go_enter Try.func4, Try.ntmps4
  go_wp2_with fail
  refine HA.out.mono ?_; rintro e w1 ⟨rfl, hb1⟩
  have d0 := (hb1.cell (p := ⟨W.heap.size, 0, none⟩) (by show W.heap.size < V.heap.size; omega)).trans k0
  have hz1 : W.heap.size < w1.heap.size := by have := hb1.size; omega
  have HB1 := Lib.hid (HWV.out.trans (hb1.mono HWV.out.size))
  clear hb1 k0 hV
  obtain ⟨V2, hV2⟩ : ∃ V2, w1.alloc (.cells #[.slice none 0 0] 24) = V2 := ⟨_, rfl⟩
  obtain ⟨hn2, m0, mf, hzV2⟩ := box_frames w1 none 0 0 V2 hV2
  have nV2 := box_none w1 V2 hV2
  have e0 := (hn2.cell (p := ⟨W.heap.size, 0, none⟩) hz1).trans d0
  have HN2 := Lib.hid hn2
  clear hn2 d0
  go_wp2_with fail
  clear hV2 nV2
  go_loopw [8] (fun s wr => ∃ i : Nat, i ≤ x0.length ∧ s = .int .i64 i ∧ ∃ a6 c6 vals, wr.cell? ⟨w1.heap.size, 0, none⟩ = some (.slice a6 i c6) ∧ wr.frozen? ⟨w1.heap.size, 0, none⟩ = false ∧ Hid (Full (OwnLev (w1.heap.size + 1) 25 3) wr (w1.heap.size + 1) 31 (.slice a6 i c6) i vals (x0.take i)) ∧ Hid (Below w1.heap.size w1 wr)) (fun s _ => x0.length - (intOf s).toNat)
  case atStart => exact ⟨0, Nat.zero_le _, rfl, none, 0, [], m0, mf, by show Full _ _ _ _ _ _ _ _; simpa using Full.nil _ _ _, HN2.out⟩
  case round =>
    obtain ⟨i, hi, rfl, a6, c6, vals, kM, fM, hfull, hbr⟩ := hrel
    have gf := (hbr.out.cell (p := ⟨W.heap.size, 0, none⟩) hz1).trans ((HN2.out.cell (p := ⟨W.heap.size, 0, none⟩) hz1).symm.trans e0)
    have hbw : Below W.heap.size W wr := HB1.out.trans (hbr.out.mono HB1.out.size)
    have hMr : w1.heap.size < wr.heap.size := (Open.cell_block kM).2
    by_cases hlt : i < x0.length
    · obtain ⟨b7, o7, a7, c7, vs7, hx7, rfl, hgs7, hc7, hs7, _⟩ := HSW.out.at hlt
      have kr7 := (hbw.cell (p := ⟨b7, o7 + i, none⟩) hgs7).trans hc7
      have HS7 := Lib.hid hs7
      have hcap7 := hs7.sl.cap
      have hbig7 := hs7.sl.big
      have HTA : Hid (x0.take (i + 1) = x0.take i ++ [x0[i]]) := List.take_succ_eq_append_getElem hx7
      have HR := Lib.hid (HROW.out _ (List.getElem_mem hx7))
      have HFN : Hid (x0.length * 24 ≤ 140737488355328) := HF.out.n
      clear hs7 hc7
      generalize hr : x0[i] = r at *
      go_wp2_with fail
      generalize wr = wq at *
      obtain ⟨Nq, hNq⟩ : ∃ Nq, Nq = wq.heap.size := ⟨_, rfl⟩
      have HNQ := Lib.hid hNq
      clear hNq hr
      go_loopw [9, 10] (fun v s wr => ∃ j : Nat, j ≤ r.length ∧ s = .int .i64 j ∧ ∃ a8 c8 us, v = .slice a8 j c8 ∧ Hid (Own2 wr Nq 25 3 (.slice a8 j c8) j us (r.take j)) ∧ Hid (Below Nq wq wr)) (fun _ s _ => r.length - (intOf s).toNat)
      case atStart => exact ⟨0, Nat.zero_le _, rfl, none, 0, [], rfl, by show Own2 _ _ _ _ _ _ _ _; simpa using Own2.nil _ _ _ _, Below.refl _ _⟩
      case round =>
        obtain ⟨j, hj, rfl, a8, c8, us, rfl, hown, hbq⟩ := hrel
        have hNW : w1.heap.size < Nq := by rw [HNQ.out]; exact hMr
        have hNr : Nq ≤ wr.heap.size := by rw [HNQ.out]; have := hbq.out.size; exact this
        have hbb : Below W.heap.size W wr := hbw.trans (hbq.out.mono (by have := HB1.out.size; omega))
        have gr := (hbq.out.cell (p := ⟨W.heap.size, 0, none⟩) (by show W.heap.size < Nq; omega)).trans gf
        have krr := (hbq.out.cell (p := ⟨b7, o7 + i, none⟩) (by show b7 < Nq; omega)).trans kr7
        by_cases hjl : j < r.length
        · obtain ⟨b9, o9, a9, c9, hxj, e9, hgs9, hc9, hs9, _⟩ := HS7.out.at hjl
          subst e9
          have kj := (hbb.cell (p := ⟨b9, o9 + j, none⟩) hgs9).trans hc9
          have HTK : Hid (r.take (j + 1) = r.take j ++ [r[j]]) := List.take_succ_eq_append_getElem hxj
          have HRL : Hid (r[j].length * 8 ≤ 140737488355328) := HR.out.2 _ (List.getElem_mem hxj)
          have HM3 : Hid ((j + 1) * 24 ≤ 140737488355328) := by have := HR.out.1; show _ ≤ _; omega
          obtain ⟨Wj, hWj⟩ : ∃ Wj, wr.alloc (.cells #[] 3) = Wj := ⟨_, rfl⟩
          have hal : Below wr.heap.size wr Wj := by rw [← hWj]; exact (Below.refl _ _).alloc (Nat.le_refl _) _
          have hemp : Wj.ownsRow wr.heap.size 3 1 (.slice (some ⟨wr.heap.size, 0, none⟩) 0 0) 0 [] := by rw [← hWj]; exact World.ownsRow_lit wr #[] 0 (Nat.le_refl _) (by unfold maxLen; omega) rfl
          have grj := (hal.cell (p := ⟨W.heap.size, 0, none⟩) (by show W.heap.size < wr.heap.size; omega)).trans gr
          have krj := (hal.cell (p := ⟨b7, o7 + i, none⟩) (by show b7 < wr.heap.size; have := hbb.size; omega)).trans krr
          have kjj := (hal.cell (p := ⟨b9, o9 + j, none⟩) (by show b9 < wr.heap.size; have := hbb.size; omega)).trans kj
          have HSJ := Lib.hid ((hs9.next hbb).next hal)
          have HEM := Lib.hid hemp
          have HAL := Lib.hid hal
          have hcap9 := hs9.cap
          have hbig9 := hs9.big
          clear hc9 hs9 hemp hal
          have HL2 : Hid (∀ (w5 : World) (a5 : Option Addr) (c5 : Nat), w5.ownsRow wr.heap.size 3 1 (.slice a5 r[j].length c5) r[j].length (ints r[j]) → w5.ownsRow Nq 3 1 (.slice a5 r[j].length c5) r[j].length (ints r[j])) := fun w5 a5 c5 h => own_mono h hNr
          have HL3 : Hid (∀ (w5 : World), Below wr.heap.size wr w5 → Own2 w5 Nq 25 3 (.slice a8 j c8) j us (r.take j) ∧ Below Nq wq w5 ∧ Nq ≤ w5.heap.size) := fun w5 h => ⟨hown.out.next h, hbq.out.trans (h.mono hNr), Nat.le_trans hNr h.size⟩
          go_wp2_with (first | ((with_reducible refine wpL_app (B := wr.heap.size) (W := wr) _ 0 [] a9 r[j].length c9 (ints r[j]) info_int Try.underlying25 ?_ ?_ ?_ ?_ HEM.out HSJ.out ?_ ?_ ?_ HAL.out ?_); rfl; rfl; rfl; (exact ints_one _); exact HAL.out.size; (have := HRL.out; omega); (have := HRL.out; omega); (rw [Nat.zero_add, List.nil_append]; intro a5 c5 w5 hown5 hb5 _; (have HU5 := Lib.hid (HL2.out w5 a5 c5 hown5)); (have HO5 := Lib.hid (HL3.out w5 hb5).1); (have HB5 := Lib.hid (HL3.out w5 hb5).2.1); (have HZ5 := Lib.hid (HL3.out w5 hb5).2.2))) | ((with_reducible refine wpL_pushO (B := Nq) (W := wq) w5 a5 c5 r[j] r[j].length rfl _ j us (r.take j) infoR Try.underlying31 ?_ ?_ ?_ ?_ HO5.out HU5.out ?_ ?_ ?_ HB5.out ?_); decide; rfl; rfl; rfl; exact HZ5.out; exact HM3.out; (have := HM3.out; omega); (intro a6 c6 w6 hmix6 hb6 hs6)))
          go_roundw
          case rel => exact ⟨j + 1, by omega, by go_num, a6, c6, _, rfl, by show Own2 _ _ _ _ _ _ _ _; rw [HTK.out]; exact hmix6, hb6⟩
          case measure => simp [intOf]; omega
        · have hje : j = r.length := by omega
          subst hje
          have hown' := hown.out
          rw [List.take_length] at hown'
          have HQ : Hid (OwnLev (w1.heap.size + 1) 25 3 wr (.slice a8 r.length c8) r) := ⟨a8, c8, us, rfl, hown'.mono (by omega)⟩
          have kMr := (hbq.out.cell (p := ⟨w1.heap.size, 0, none⟩) (by show w1.heap.size < Nq; omega)).trans kM
          have HFR := Lib.hid (hfull.out.next (own_stays (by decide) (by decide)) (by rw [← HNQ.out]; exact hbq.out))
          have HN3 : Hid ((i + 1) * 24 ≤ 140737488355328) := by have := HFN.out; show _ ≤ _; omega
          have HBM : Hid (Below (w1.heap.size + 1) wq wr) := hbq.out.mono (by omega)
          have hz5 : w1.heap.size + 1 ≤ wr.heap.size := by omega
          clear hown'
          go_wp2_with ((with_reducible refine wpL_pushQ (own_stays (by decide) (by decide)) wr _ _ _ i vals (x0.take i) info3 Try.underlying22 ?_ ?_ ?_ HFR.out HQ.out ?_ ?_ ?_ HBM.out ?_); rfl; rfl; rfl; exact hz5; exact HN3.out; (have := HN3.out; omega); (intro a6 c6 w6 hfull6 hb6 hsz6; (have kM6 := (hb6.cell (p := ⟨w1.heap.size, 0, none⟩) (by show w1.heap.size < w1.heap.size + 1; omega)).trans kM); (have fM6 := (hb6.frozen (p := ⟨w1.heap.size, 0, none⟩) (by show w1.heap.size < w1.heap.size + 1; omega)).trans fM)))
          have hbE : Below w1.heap.size w1 (w6.setCell ⟨w1.heap.size, 0, none⟩ (.slice a6 (i + 1) c6)) := (hbr.out.trans (hb6.mono (Nat.le_succ _))).setCell (Nat.le_refl _) _
          have HBE := Lib.hid hbE
          have hFE := hfull6.low (own_stays (by decide) (by decide)) (a := ⟨w1.heap.size, 0, none⟩) (by show w1.heap.size < w1.heap.size + 1; omega) (.slice a6 (i + 1) c6)
          rw [← HTA.out] at hFE
          have HFE := Lib.hid hFE
          have kE : (w6.setCell ⟨w1.heap.size, 0, none⟩ (.slice a6 (i + 1) c6)).cell? ⟨w1.heap.size, 0, none⟩ = some (.slice a6 (i + 1) c6) := World.cell?_setCell_same _ _ _ kM6
          have fE : (w6.setCell ⟨w1.heap.size, 0, none⟩ (.slice a6 (i + 1) c6)).frozen? ⟨w1.heap.size, 0, none⟩ = false := by rw [World.frozen?_setCell]; exact fM6
          go_roundw
          case rel => exact ⟨i + 1, by omega, by go_num, a6, c6, _, kE, fE, HFE.out, HBE.out⟩
          case measure => simp [intOf]; omega
    · have hie : i = x0.length := by omega
      subst hie
      have hfull' := hfull.out
      rw [List.take_length] at hfull'
      have HFL := Lib.hid hfull'
      obtain ⟨Wo, hWo⟩ : ∃ Wo, wr.alloc (.cells #[] 3) = Wo := ⟨_, rfl⟩
      have hal : Below wr.heap.size wr Wo := by rw [← hWo]; exact (Below.refl _ _).alloc (Nat.le_refl _) _
      have hemp : Wo.ownsRow wr.heap.size 3 1 (.slice (some ⟨wr.heap.size, 0, none⟩) 0 0) 0 [] := by rw [← hWo]; exact World.ownsRow_lit wr #[] 0 (Nat.le_refl _) (by unfold maxLen; omega) rfl
      have HSJ := Lib.hid ((HXW.out.next hbw).next hal)
      have HEM := Lib.hid hemp
      have HAL := Lib.hid hal
      have HBW := Lib.hid hbw
      have HL3 : Hid (∀ (w5 : World), Below wr.heap.size wr w5 → w5.cell? ⟨w1.heap.size, 0, none⟩ = some (.slice a6 x0.length c6) ∧ w5.cell? ⟨W.heap.size, 0, none⟩ = some (.slice a0 x0.length c0)) := fun w5 h => ⟨(h.cell (p := ⟨w1.heap.size, 0, none⟩) hMr).trans kM, (h.cell (p := ⟨W.heap.size, 0, none⟩) (by show W.heap.size < wr.heap.size; omega)).trans gf⟩
      clear hfull hfull' hal hemp
      go_wp2_with ((with_reducible refine wpL_app (B := wr.heap.size) (W := wr) _ 0 [] a2 x2.length c2 (ints x2) info_int Try.underlying25 ?_ ?_ ?_ ?_ HEM.out HSJ.out ?_ ?_ ?_ HAL.out ?_); rfl; rfl; rfl; (exact ints_one _); exact HAL.out.size; (have := HLX.out; omega); (have := HLX.out; omega); (rw [Nat.zero_add, List.nil_append]; intro a5 c5 w5 hown5 hb5 _; (have kM5 := (HL3.out w5 hb5).1); (have kf5 := (HL3.out w5 hb5).2)))
      clear hWo
      have hBr : w1.heap.size + 1 ≤ wr.heap.size := hMr
      have hsl5 := full_sl3 (HFL.out.next (own_stays (by decide) (by decide)) hb5)
      have A := add_any w5 a6 _ c6 vals x0 hsl5 HF.out.n HF.out.tot HF.out.lev HF.out.row a1 HLV.out.1 HLV.out.2 a5 _ c5 x2 (Base.own_ints hown5) HWX.out (by have := HLX.out; omega)
      have HADD := Lib.hid A
      have HIN := Lib.hid (ins_of (HFL.out.next (own_stays (by decide) (by decide)) hb5) (Nat.le_refl w5.heap.size))
      have HS5 := Lib.hid hsl5
      have HO5 := Lib.hid hown5
      have HOL : Hid (∀ k, (Value.slice a5 x2.length c5).ownBlock = some k → k < w5.heap.size) := fun k hk => (hown5.lt k hk).2
      have HB5 := Lib.hid (HBW.out.trans (hb5.mono HBW.out.size))
      have hz5 : w1.heap.size < w5.heap.size ∧ W.heap.size < w5.heap.size := by have := hb5.size; omega
      clear A hsl5 hown5 hb5
      generalize hR : add x0 a1 x2 = R at *
      obtain ⟨G, r⟩ := R
      have HR := Lib.hid hR
      clear hR
      simp only at HRES HADD
      refine HADD.out.mono ?_
      rintro e w6 ⟨a', c', vs', rfl, hs6, hb6⟩
      obtain ⟨U6, hU6⟩ : ∃ U6, w6.alloc (.cells #[.slice a' G.length c'] 24) = U6 := ⟨_, rfl⟩
      obtain ⟨hn6, g6, gf6, hzU6⟩ := box_frames w6 a' _ c' U6 hU6
      have hb56 : Below w5.heap.size w5 U6 := hb6.trans (hn6.mono hb6.size)
      have kM6 := (hb56.cell (p := ⟨w1.heap.size, 0, none⟩) hz5.1).trans kM5
      have kf6 := (hb56.cell (p := ⟨W.heap.size, 0, none⟩) hz5.2).trans kf5
      have HB6 := Lib.hid (HB5.out.trans (hb56.mono HB5.out.size))
      have HB56 := Lib.hid hb56
      have HN6 := Lib.hid hn6
      have HS6 := Lib.hid hs6
      have hz6 : w5.heap.size ≤ w6.heap.size := hb6.size
      have SM := Lib.hid (same_any U6 a6 a0 _ _ c6 c0 vals y0 x0 x0 (HS5.out.next hb56) (HSW.out.next HB6.out))
      clear hs6 hb6 hn6 hb56 HADD kM5 kf5
      simp only [decide_true] at SM
      go_wp2_with fail
      refine SM.out.mono ?_
      rintro e w7 ⟨rfl, hb7⟩
      have kM7 := (hb7.cell (p := ⟨w1.heap.size, 0, none⟩) (by show w1.heap.size < U6.heap.size; omega)).trans kM6
      have kf7 := (hb7.cell (p := ⟨W.heap.size, 0, none⟩) (by show W.heap.size < U6.heap.size; omega)).trans kf6
      have g7 := (hb7.cell (p := ⟨w6.heap.size, 0, none⟩) (by show w6.heap.size < U6.heap.size; omega)).trans g6
      have HB57 := Lib.hid (HB56.out.trans (hb7.mono HB56.out.size))
      have HB67 := Lib.hid (HN6.out.trans (hb7.mono HN6.out.size))
      have HBW7 := Lib.hid (HB6.out.trans (hb7.mono HB6.out.size))
      have hz7 : w6.heap.size < w7.heap.size := by have := hb7.size; omega
      have SI := Plain.sameInts_q w7 a5 a2 _ _ c5 c2 x2 x2 ((Base.own_ints HO5.out).next HB57.out) (HXW.out.next HBW7.out)
      simp only [decide_true] at SI
      have HSI := Lib.hid SI
      clear SI hb7 g6 gf6 kM6 kf6 hU6 hzU6
      go_wp2_with fail
      refine HSI.out.mono ?_
      rintro e w8 ⟨rfl, hd8⟩
      have hb8 : Below w7.heap.size w7 w8 := by obtain ⟨q, rfl⟩ := hd8; exact below_drewN (Below.refl _ _) q
      have kM8 := (hb8.cell (p := ⟨w1.heap.size, 0, none⟩) (by show w1.heap.size < w7.heap.size; omega)).trans kM7
      have kf8 := (hb8.cell (p := ⟨W.heap.size, 0, none⟩) (by show W.heap.size < w7.heap.size; omega)).trans kf7
      have g8 := (hb8.cell (p := ⟨w6.heap.size, 0, none⟩) hz7).trans g7
      have HB58 := Lib.hid (HB57.out.trans (hb8.mono HB57.out.size))
      have HB68 := Lib.hid (HB67.out.trans (hb8.mono HB67.out.size))
      have HBW8 := Lib.hid (HBW7.out.trans (hb8.mono HBW7.out.size))
      have hz8 : w6.heap.size < w8.heap.size := by have := hb8.size; omega
      have HWR : Hid (Wr w1.heap.size w5.heap.size w8 a6 c6 vals x0 a5 x2.length c5 w8) := ⟨HIN.out.next HB58.out, Below.refl _ _, Keeps.refl _ _, ⟨_, own_mono (own_next HO5.out HB58.out) hBr⟩, HOL.out⟩
      clear hd8 hb8 kM7 kf7 g7 hz7 HSI SM HIN HO5 HOL
      go_wp2_with fail
      go_loopw [15] (fun s wr => ∃ i : Nat, i ≤ x0.length ∧ s = .int .i64 i ∧ Hid (Wr w1.heap.size w5.heap.size w8 a6 c6 vals x0 a5 x2.length c5 wr)) (fun s _ => x0.length - (intOf s).toNat)
      case atStart => exact ⟨0, Nat.zero_le _, rfl, HWR.out⟩
      case round =>
        obtain ⟨i, hi, rfl, hwr⟩ := hrel
        have kMr := (hwr.out.low.cell (p := ⟨w1.heap.size, 0, none⟩) (Nat.lt_succ_self _)).trans kM8
        by_cases hlt : i < x0.length
        · go_wp2_with fail
          generalize wr = wq at *
          go_loopw [16] (fun s wr => ∃ k : Nat, k ≤ x0[i].length ∧ s = .int .i64 k ∧ Hid (Wr w1.heap.size w5.heap.size w8 a6 c6 vals x0 a5 x2.length c5 wr)) (fun s _ => x0[i].length - (intOf s).toNat)
          case atStart => exact ⟨0, Nat.zero_le _, rfl, hwr.out⟩
          case round =>
            obtain ⟨k, hk, rfl, hwr2⟩ := hrel
            have kM2 := (hwr2.out.low.cell (p := ⟨w1.heap.size, 0, none⟩) (Nat.lt_succ_self _)).trans kM8
            obtain ⟨g1, a1', c1', e1, hc1, hle1, hbg1, hrow⟩ := hwr2.out.lev hlt
            subst e1
            have HROW2 := Lib.hid hrow
            clear hrow
            by_cases hlk : k < x0[i].length
            · go_wp2_with fail
              generalize wr = wp at *
              go_loopw [17] (fun s wr => ∃ m : Nat, m ≤ x0[i][k].length ∧ s = .int .i64 m ∧ Hid (Wr w1.heap.size w5.heap.size w8 (some ⟨g1, 0, none⟩) c6 vals x0 a5 x2.length c5 wr)) (fun s _ => x0[i][k].length - (intOf s).toNat)
              case atStart => exact ⟨0, Nat.zero_le _, rfl, hwr2.out⟩
              case round =>
                obtain ⟨m, hm, rfl, hwr3⟩ := hrel
                have kM3 := (hwr3.out.low.cell (p := ⟨w1.heap.size, 0, none⟩) (Nat.lt_succ_self _)).trans kM8
                obtain ⟨g1', a1'', c1'', e1, hd1, hle1', hbg1', hrow⟩ := hwr3.out.lev hlt
                simp only [Option.some.injEq, Addr.mk.injEq] at e1
                obtain ⟨rfl, _, _⟩ := e1
                obtain ⟨g2, a2', c2', e2, hd2, hle2, hbg2, hel⟩ := hrow k hlk
                subst e2
                have HEL := Lib.hid hel
                clear hrow hel HROW2 hc1
                by_cases hlm : m < x0[i][k].length
                · obtain ⟨g3, v3, cur3, e3, hd3, hf3, hB3, hK3, hh3, hle3, hbg3⟩ := HEL.out m hlm
                  subst e3
                  have HW := Lib.hid (hwr3.out.write hB3 hK3 hh3 m (.int .i64 77))
                  clear HEL hB3 hK3 hh3
                  go_wp2_with fail
                  go_roundw
                  case rel => exact ⟨m + 1, by omega, by go_num, HW.out⟩
                  case measure => simp [intOf]; omega
                · clear HEL
                  go_wp2_with fail
                  go_roundw
                  case rel => exact ⟨k + 1, by omega, by go_num, hwr3.out⟩
                  case measure => simp [intOf]; omega
            · go_wp2_with fail
              go_roundw
              case rel => exact ⟨i + 1, by omega, by go_num, hwr2.out⟩
              case measure => simp [intOf]; omega
        · go_wp2_with fail
          generalize wr = wq at *
          go_loopw [18] (fun s wr => ∃ i : Nat, i ≤ x2.length ∧ s = .int .i64 i ∧ Hid (Wr w1.heap.size w5.heap.size w8 a6 c6 vals x0 a5 x2.length c5 wr)) (fun s _ => x2.length - (intOf s).toNat)
          case atStart => exact ⟨0, Nat.zero_le _, rfl, hwr.out⟩
          case round =>
            obtain ⟨j, hj, rfl, hwr2⟩ := hrel
            by_cases hlj : j < x2.length
            · obtain ⟨vs5, ho5⟩ := hwr2.out.own
              obtain ⟨g3, v3, cur3, e3, hB3, _, _, hd3, hf3, hh3, hle3, hbg3⟩ := own_at ho5 hlj
              have hK3 : g3 < w5.heap.size := hwr2.out.bound g3 (by rw [e3]; rfl)
              subst e3
              have HW := Lib.hid (hwr2.out.write hB3 hK3 hh3 j (.int .i64 78))
              clear ho5 hh3
              go_wp2_with fail
              go_roundw
              case rel => exact ⟨j + 1, by omega, by go_num, HW.out⟩
              case measure => simp [intOf]; omega
            · have hbz : Below W.heap.size W wr := HBW8.out.trans (hwr2.out.low.mono (by omega))
              have kfz := (hwr2.out.low.cell (p := ⟨W.heap.size, 0, none⟩) (by show W.heap.size < w1.heap.size + 1; omega)).trans kf8
              have gz := (keeps_cell hwr2.out.keep hz6 hz8 0).trans g8
              have hszz : w6.heap.size < wr.heap.size := Nat.lt_of_lt_of_le hz8 hwr2.out.keep.size
              have LA := lawAdd_any wr a0 _ c0 y0 x0 (HSW.out.next hbz) HF.out a1 HLV.out.1 HLV.out.2 a2 _ c2 x2 (HXW.out.next hbz) HWX.out HLX.out
              rw [HR.out] at LA
              have HLA := Lib.hid LA
              have HBZ := Lib.hid hbz
              clear LA hbz
              go_wp2_with fail
              refine HLA.out.mono ?_
              rintro e w9 ⟨a9, c9, vs9, rfl, hs9, hb9⟩
              obtain ⟨U9, hU9⟩ : ∃ U9, w9.alloc (.cells #[.slice a9 G.length c9] 24) = U9 := ⟨_, rfl⟩
              obtain ⟨hn9, g9, gf9, hzU9⟩ := box_frames w9 a9 _ c9 U9 hU9
              have hbz9 : Below wr.heap.size wr U9 := hb9.trans (hn9.mono hb9.size)
              have gz9 := (hbz9.cell (p := ⟨w6.heap.size, 0, none⟩) hszz).trans gz
              have HB9 := Lib.hid (HBZ.out.trans (hbz9.mono HBZ.out.size))
              have hk9 : Keeps w5.heap.size w6 U9 := (Keeps.of HB68.out).trans (hwr2.out.keep.trans (Keeps.of hbz9))
              have SM9 := same_any U9 a' a9 _ _ c' c9 vs' vs9 G G (HS6.out U9 hk9) (hs9.next hn9)
              simp only [decide_true] at SM9
              have HSM9 := Lib.hid SM9
              clear hs9 hb9 hn9 hbz9 hk9 SM9 gz kfz gf9
              go_wp2_with fail
              refine HSM9.out.mono ?_
              rintro e w10 ⟨rfl, hb10⟩
              have HB10 := Lib.hid (HB9.out.trans (hb10.mono HB9.out.size))
              clear hb10
              go_wp2_with fail
              go_ret
              exact ⟨ret_bool (by simp), HB10.out⟩
end deltaOwn
end Go.Proofs.Yteamijldmhcicaa
