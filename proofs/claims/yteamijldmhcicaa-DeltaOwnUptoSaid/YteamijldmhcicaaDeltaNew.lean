/-
  delta.New, delta.copied: empty levels; frames in memory of one's own.
-/
import Derived.Test.YteamijldmhcicaaOwn3b
import Derived.Test.YteamijldmhcicaaCloneI
import Derived.Test.YteamijldmhcicaaDeltaP
import Derived.Lib.AppendZeros
namespace Go.Proofs.Yteamijldmhcicaa
open Go.RowKit Base Own3N
set_option linter.unusedVariables false
set_option linter.unusedSimpArgs false
namespace Delta

theorem info2 : (Try.prog.info? 31).map (fun i => (i.zero, i.size, i.bytes)) = some (some (.slice none 0 0), 1, 24) := by kernel_rfl
theorem info1 : (Try.prog.info? 25).map (fun i => (i.zero, i.size, i.bytes)) = some (some (.slice none 0 0), 1, 24) := by kernel_rfl

/-- So many empty levels. -/
def empties (n : Nat) : List (List (List Int)) := List.replicate n []

theorem own3_made {w : World} {g n B B0 : Nat} (h : w.ownsRow B0 31 1 (.slice (some ⟨g, 0, none⟩) n n) n (List.replicate n (.slice none 0 0))) (hB : g < B) (hs : B ≤ w.heap.size) :
    Own3 w B g n 25 3 (List.replicate n (.slice none 0 0)) (empties n) := by
  obtain ⟨a', c', hv, hsl⟩ := own_sl h
  simp only [Value.slice.injEq] at hv
  obtain ⟨rfl, _, rfl⟩ := hv
  refine ⟨hsl, ?_, hB, hs, by simp [empties], fun i x xss hx hxs => ?_, fun i j x y _ hx hy => ?_⟩
  · rcases h.2 with ⟨hv, _⟩ | ⟨g', cap, cur, hv, _, hh, _⟩
    · simp at hv
    · simp only [Value.slice.injEq, Option.some.injEq, Addr.mk.injEq] at hv
      obtain ⟨⟨rfl, _, _⟩, _, _⟩ := hv
      intro i
      simp [World.frozen?, hh]
  · obtain ⟨hi, rfl⟩ := List.getElem?_eq_some_iff.1 hx
    obtain ⟨hi', rfl⟩ := List.getElem?_eq_some_iff.1 hxs
    simp only [empties, List.getElem_replicate]
    exact ⟨none, 0, [], rfl, Own2.nil _ _ _ _⟩
  · obtain ⟨hi, rfl⟩ := List.getElem?_eq_some_iff.1 hx
    simp only [List.getElem_replicate]
    exact .inl rfl

set_option maxHeartbeats 1000000 in
theorem new_any (w : World) (k : Nat) (hk : k ≤ 80) :
    Calls Try.prog 17 #[.int .i64 k] w fun e w' => ∃ a' c' vs, e = .returned (.agg #[.slice a' k c']) ∧ Sl3 w' a' k c' vs (empties k) ∧ Below w.heap.size w w' := by
  obtain ⟨W1, hW1⟩ : ∃ W1, w.alloc (.cells #[.slice none 0 0] 24) = W1 := ⟨_, rfl⟩
  have h1 : Below w.heap.size w W1 := by rw [← hW1]; exact (Below.refl _ _).alloc (Nat.le_refl _) _
  have k1 : W1.cell? ⟨w.heap.size, 0, none⟩ = some (.slice none 0 0) := by rw [← hW1]; simp
  have f1 : W1.frozen? ⟨w.heap.size, 0, none⟩ = false := by rw [← hW1]; simp [go_sem]
  have z1 : W1.heap.size = w.heap.size + 1 := by rw [← hW1]; simp
  have hk0 : (0 : Int) ≤ k := by omega
  have hk80 : (k : Int) ≤ 80 := by omega
  go_enter Try.func17, Try.ntmps17
  go_wp2_with (at_make; (with_reducible refine wpL_make k (L := (k : Int)) (C := (k : Int)) info2 Try.underlying22 ?_ ?_ ?_ ?_ ?_ ?_ ?_ ?_); rfl; rfl; rfl; omega; omega; omega; omega; (intro g w2 hown2 hb2 hg2 hg2'); (have k2 := (hb2.cell (p := ⟨w.heap.size, 0, none⟩) (by show w.heap.size < W1.heap.size; omega)).trans k1); (have f2 := (hb2.frozen (p := ⟨w.heap.size, 0, none⟩) (by show w.heap.size < W1.heap.size; omega)).trans f1))
  refine bodyPost_ret (v := .agg #[.slice (some ⟨g, 0, none⟩) k k]) (by simp [results, Try.results17, go_sem, k2]) rfl ?_
  have ho := own3_made hown2 (B := w2.heap.size) hg2' (Nat.le_refl _)
  have hl := (ho.low (b := w.heap.size) (by have := hb2.size; omega) (by omega) 0 (.slice (some ⟨g, 0, none⟩) k k)).sl3
  exact ⟨some ⟨g, 0, none⟩, k, _, rfl, hl, (h1.trans (hb2.mono h1.size)).setCell (by exact Nat.le_refl _) _⟩

/-- Frames in memory of one's own. -/
def CopyOut (w : World) (F : List (List (List Int))) (e : Ending) (w' : World) : Prop :=
  ∃ B G vals, e = .returned (.agg #[.slice (some ⟨G, 0, none⟩) F.length F.length]) ∧ Own3 w' B G F.length 25 3 vals F ∧ w.heap.size ≤ G ∧ Below w.heap.size w w'

theorem part_more {F : List (List (List Int))} {i j : Nat} (hi : i < F.length) (hj : j < F[i].length) : (F.take i ++ [F[i].take j] ++ empties (F.length - (i + 1))).set i (F[i].take j ++ [F[i][j]]) = F.take i ++ [F[i].take (j + 1)] ++ empties (F.length - (i + 1)) := by
  have hl : (F.take i).length = i := by simp; omega
  rw [List.append_assoc, List.set_append_right _ _ (by omega), hl, Nat.sub_self, List.singleton_append, List.set_cons_zero, List.take_succ_eq_append_getElem hj]
  simp

theorem part_done {F : List (List (List Int))} {i : Nat} (hi : i < F.length) : F.take i ++ [F[i].take F[i].length] ++ empties (F.length - (i + 1)) = F.take (i + 1) ++ empties (F.length - (i + 1)) := by
  rw [List.take_length, List.take_succ_eq_append_getElem hi]

theorem part_start {F : List (List (List Int))} {i : Nat} (hi : i < F.length) : F.take i ++ empties (F.length - i) = F.take i ++ [F[i].take 0] ++ empties (F.length - (i + 1)) := by
  have : F.length - i = (F.length - (i + 1)) + 1 := by omega
  rw [this]
  simp [empties, List.replicate_succ]

theorem part_at {F : List (List (List Int))} {i j : Nat} (hi : i < F.length) : (F.take i ++ [F[i].take j] ++ empties (F.length - (i + 1)))[i]? = some (F[i].take j) := by
  have hl : (F.take i).length = i := by simp; omega
  rw [List.append_assoc, List.getElem?_append_right (by omega), hl, Nat.sub_self]
  rfl

set_option maxRecDepth 4000 in
set_option maxHeartbeats 8000000 in
theorem copied_any (w : World) (a : Option Addr) (n c : Nat) (vs : List Value) (F : List (List (List Int))) (hsl : Sl3 w a n c vs F) (hn : n * 24 ≤ 140737488355328) (hlev : ∀ r ∈ F, r.length * 24 ≤ 140737488355328) (hrow : ∀ r ∈ F, ∀ l ∈ r, l.length * 8 ≤ 140737488355328) :
    Calls Try.prog 19 #[.agg #[.slice a n c]] w (CopyOut w F) := by
  obtain rfl : F.length = n := hsl.len
  obtain ⟨W2, hW2⟩ : ∃ W2, (w.alloc (.cells #[.slice a F.length c] 24)).alloc (.cells #[.slice none 0 0] 24) = W2 := ⟨_, rfl⟩
  have h2 : Below w.heap.size w W2 := by rw [← hW2]; exact ((Below.refl _ _).alloc (Nat.le_refl _) _).alloc (by simp) _
  have k0 : W2.cell? ⟨w.heap.size, 0, none⟩ = some (.slice a F.length c) := by rw [← hW2]; simp [go_sem]
  have k1 : W2.cell? ⟨w.heap.size + 1, 0, none⟩ = some (.slice none 0 0) := by rw [← hW2]; simp [go_sem]
  have f1 : W2.frozen? ⟨w.heap.size + 1, 0, none⟩ = false := by rw [← hW2]; simp [go_sem]
  have z2 : W2.heap.size = w.heap.size + 2 := by rw [← hW2]; simp
  have hcap := hsl.sl.cap
  have hbig := hsl.sl.big
  have HS := Lib.hid hsl
  have HL := Lib.hid hsl.len
  have HN := Lib.hid hn
  have HLEV := Lib.hid hlev
  have HROW := Lib.hid hrow
  have H2 := Lib.hid h2
  clear hsl hn hlev hrow h2
  go_enter Try.func19, Try.ntmps19
  go_wp2_with (at_make; (with_reducible refine wpL_make F.length (L := (F.length : Int)) (C := (F.length : Int)) info2 Try.underlying22 ?_ ?_ ?_ ?_ ?_ ?_ ?_ ?_); rfl; rfl; rfl; omega; omega; (have := HN.out; omega); (have := HN.out; omega); (intro g w3 hown3 hb3 hg3 hg3'); (have p0 := (hb3.cell (p := ⟨w.heap.size, 0, none⟩) (by show w.heap.size < W2.heap.size; omega)).trans k0); (have p1 := (hb3.cell (p := ⟨w.heap.size + 1, 0, none⟩) (by show w.heap.size + 1 < W2.heap.size; omega)).trans k1); (have q1 := (hb3.frozen (p := ⟨w.heap.size + 1, 0, none⟩) (by show w.heap.size + 1 < W2.heap.size; omega)).trans f1); (obtain ⟨W4, hW4⟩ : ∃ W4, w3.alloc (.cells #[.slice (some ⟨g, 0, none⟩) F.length F.length] 24) = W4 := ⟨_, rfl⟩); (have hb4 : Below w3.heap.size w3 W4 := by rw [← hW4]; exact (Below.refl _ _).alloc (Nat.le_refl _) _); (have z4 : W4.heap.size = w3.heap.size + 1 := by rw [← hW4]; simp); (have s0 := (hb4.cell (p := ⟨w.heap.size, 0, none⟩) (by show w.heap.size < w3.heap.size; omega)).trans p0); (have s1 := (hb4.cell (p := ⟨w.heap.size + 1, 0, none⟩) (by show w.heap.size + 1 < w3.heap.size; omega)).trans p1); (have t1 := (hb4.frozen (p := ⟨w.heap.size + 1, 0, none⟩) (by show w.heap.size + 1 < w3.heap.size; omega)).trans q1); (have sM : W4.cell? ⟨w3.heap.size, 0, none⟩ = some (.slice (some ⟨g, 0, none⟩) F.length F.length) := by rw [← hW4]; simp [go_sem]))
  have hO := own3_made (own_next hown3 hb4) (B := W4.heap.size) (by omega) (Nat.le_refl _)
  have HO := Lib.hid hO
  have hBW : Below w.heap.size w W4 := H2.out.trans ((hb3.trans (hb4.mono hb3.size)).mono H2.out.size)
  have HBW := Lib.hid hBW
  have hNM : w.heap.size + 1 < w3.heap.size := by omega
  have hgM : g < w3.heap.size := hg3'
  have hNg : w.heap.size + 1 < g := by omega
  have HSM := Lib.hid (And.intro sM (And.intro s1 t1))
  clear hO hBW hown3 hb3 hb4 p0 p1 q1 k0 k1 f1 hW4 hW2 hg3 s0 sM s1 t1
  obtain ⟨B, hB⟩ : ∃ B, B = W4.heap.size := ⟨_, rfl⟩
  rw [← hB] at HO z4
  have HBB := Lib.hid hB
  clear hB
  go_loopw [16] (fun s16 wr => ∃ i : Nat, i ≤ F.length ∧ s16 = .int .i64 i ∧ ∃ vals, Hid (Own3 wr B g F.length 25 3 vals (F.take i ++ empties (F.length - i))) ∧ Hid (LowKept B g W4 wr)) (fun s16 _ => F.length - (intOf s16).toNat)
  case atStart => exact ⟨0, Nat.zero_le _, rfl, _, by show Own3 _ _ _ _ _ _ _ _; simpa using HO.out, LowKept.refl (Nat.le_of_eq HBB.out)⟩
  case round =>
    obtain ⟨i, hi, rfl, vals, hown, hlow⟩ := hrel
    have hbw : Below w.heap.size w wr := hlow.out.below HBW.out (by omega) (by omega)
    by_cases hlt : i < F.length
    · obtain ⟨b5, o5, a5, c5, vs5, hx, rfl, hgs, hc, hs5, hv5⟩ := HS.out.at hlt
      have ki := (hbw.cell (p := ⟨b5, o5 + i, none⟩) hgs).trans hc
      have HS5 := Lib.hid hs5
      have hcap5 := hs5.sl.cap
      have hbig5 := hs5.sl.big
      have HLI := Lib.hid (HLEV.out _ (List.getElem_mem hx))
      have HRI := Lib.hid (HROW.out _ (List.getElem_mem hx))
      have HPS := Lib.hid (part_start hx)
      have HPM := Lib.hid (fun j hj => part_more (j := j) hx hj)
      have HPD := Lib.hid (part_done hx)
      have HPA := Lib.hid (fun j => part_at (j := j) hx)
      clear hc hs5 hv5
      generalize hr : F[i] = r at *
      go_wp2_with fail
      generalize wr = wq at *
      go_loopw [23] (fun s23 wr => ∃ j : Nat, j ≤ r.length ∧ s23 = .int .i64 j ∧ ∃ vals, Hid (Own3 wr B g F.length 25 3 vals (F.take i ++ [r.take j] ++ empties (F.length - (i + 1)))) ∧ Hid (LowKept B g W4 wr)) (fun s23 _ => r.length - (intOf s23).toNat)
      case atStart => exact ⟨0, Nat.zero_le _, rfl, vals, by show Own3 _ _ _ _ _ _ _ _; rw [← HPS.out]; exact hown.out, hlow.out⟩
      case round =>
        obtain ⟨j, hj, rfl, vals2, hown2, hlow2⟩ := hrel
        have hbw2 : Below w.heap.size w wr := hlow2.out.below HBW.out (by omega) (by omega)
        by_cases hjl : j < r.length
        · obtain ⟨b6, o6, a6, c6, hxj, e6, hgs6, hc6, hs6, _⟩ := HS5.out.at hjl
          subst e6
          have kj := (hbw2.cell (p := ⟨b6, o6 + j, none⟩) hgs6).trans hc6
          have HX6 := Lib.hid (hs6.next hbw2)
          have HCL := Lib.hid (fun (U : World) (hU : Below wr.heap.size wr U) => CloneI.clone U a6 _ c6 (ints r[j]) ((hs6.next hbw2).next hU) (ints_one _) (HRI.out _ (List.getElem_mem hxj)))
          have HPMJ := Lib.hid (HPM.out j hxj)
          have hvi : ∃ v, vals2[i]? = some v := ⟨_, List.getElem?_eq_getElem (by rw [hown2.out.sl.len]; exact hlt)⟩
          obtain ⟨v, hv⟩ := hvi
          obtain ⟨a7, c7, vs7, rfl, ho7⟩ := hown2.out.lev i v _ hv (HPA.out j)
          have htl : (r.take j).length = j := by rw [List.length_take]; omega
          rw [htl] at hv ho7
          have kM := (hlow2.out.cell (b := w3.heap.size) (by omega) (by omega) 0).trans HSM.out.1
          obtain ⟨bo, oo, vo, eo, hbo, hvo, hco⟩ := hown2.out.sl.at hlt
          simp only [Option.some.injEq, Addr.mk.injEq] at eo
          obtain ⟨rfl, rfl, _⟩ := eo
          rw [hv] at hvo
          simp only [Option.some.injEq] at hvo
          subst hvo
          rw [Nat.zero_add] at hco
          have HV := Lib.hid hv
          have HO7 := Lib.hid ho7
          clear hc6 hs6 hv ho7
          generalize r[j] = x at *
          generalize hxl : x.length = xl at *
          have HXL := Lib.hid hxl
          clear hxl
          have hB5 : B ≤ wr.heap.size := hown2.out.bs
          have hblt : ∀ k, (Value.slice a7 j c7).ownBlock = some k → B ≤ k := fun k hk => (ownblock_lt (HO7.out.outer) hk).1
          have hL9 : (r.take j ++ [x]).length = j + 1 := by simp [htl]
          have HMM : Hid (w3.heap.size < wr.heap.size) := by show _ < _; omega
          have HJJ := Lib.hid (And.intro hL9 (And.intro hblt hB5))
          have HSZ : Hid ((j + 1) * 24 ≤ 140737488355328) := by show _ ≤ _; have := HLI.out; omega
          have HBO := Lib.hid hbo
          clear hblt hL9 htl hbo
          go_wp2_with fail
          go_region_law (first | (go_simp; go_at_call 23; refine (HCL.out _ (by first | exact Below.refl _ _ | exact (Below.refl _ _).drew)).mono ?_; rintro e w5 ⟨a8, c8, rfl, hown8, hb8'⟩; (have hb8 : Below wr.heap.size wr w5 := by first | exact hb8' | exact undrew hb8'); (have hO5 := hown2.out.next hb8); (obtain ⟨a9, c9, w6, hpush, hO9, hg9, hob9⟩ := run_push (t := 31) info1 Try.underlying31 (e0 := 3) (by decide) w5 B (.slice a7 j c7) j vs7 (r.take j) (HO7.out.next hb8) a8 c8 x xl HXL.out (own_mono hown8 HJJ.out.2.2) (Nat.le_trans HJJ.out.2.2 hb8.size) HSZ.out (by have := HSZ.out; omega)); (have kM5 := (hb8.cell (p := ⟨w3.heap.size, 0, none⟩) HMM.out).trans kM); (have kg5 := (hb8.cell (p := ⟨g, i, none⟩) HBO.out).trans hco); (have hal5 : Below w5.heap.size w5 (w5.alloc (.cells #[.slice a8 xl c8] 25)) := (Below.refl _ _).alloc (Nat.le_refl _) _); (have kM5a := (hal5.cell (p := ⟨w3.heap.size, 0, none⟩) (Nat.lt_of_lt_of_le HMM.out hb8.size)).trans kM5); (have kg5a := (hal5.cell (p := ⟨g, i, none⟩) (Nat.lt_of_lt_of_le HBO.out hb8.size)).trans kg5); (have hgB : g < B := hO5.gB); (have hne6 : ∀ b, b < B → b < w5.heap.size → w6.heap[b]? = w5.heap[b]? := fun b hb1 hb2 => hg9.block b hb2 (fun e => by have := HJJ.out.2.1 b e.symm; omega)); (have kg6 : w6.cell? ⟨g, i, none⟩ = some (.slice a7 j c7) := (World.cell?_of_block (w := w5) (a := ⟨g, i, none⟩) (hne6 g hgB (Nat.lt_of_lt_of_le HBO.out hb8.size))).trans kg5); (have fg6 : w6.frozen? ⟨g, i, none⟩ = false := (World.frozen?_of_block (w := w5) (a := ⟨g, i, none⟩) (hne6 g hgB (Nat.lt_of_lt_of_le HBO.out hb8.size))).trans (hO5.fz i)); (have kM6 : w6.cell? ⟨w3.heap.size, 0, none⟩ = _ := (World.cell?_of_block (w := w5) (a := ⟨w3.heap.size, 0, none⟩) (hne6 w3.heap.size (by omega) (Nat.lt_of_lt_of_le HMM.out hb8.size))).trans kM5)) | (refine step_run rfl rfl rfl rfl hpush ?_))
          all_goals
            have HPUT := Lib.hid (hO5.put (by decide) hlt HV.out hg9 (a' := a9) (c' := c9) (vs' := vs7 ++ [.slice a8 xl c8]) (xss' := r.take j ++ [x]) (by rw [HJJ.out.1]; exact hO9) (by
              rw [HJJ.out.1]
              rcases hob9 with h | h
              · exact .inl h
              · exact .inr (.inr ⟨_, h, by omega⟩)))
            rw [HJJ.out.1, HPMJ.out] at HPUT
            have HLOW := Lib.hid (((hlow2.out.next hb8).grown hg9 HJJ.out.2.1).set i (.slice a9 (j + 1) c9))
            clear hpush hO9 hg9 hob9 hown8 hb8 hO5 hown2 hlow2 kM hco hbw2 hb8' hne6
            go_wp2_with fail
            go_roundw
            case rel => exact ⟨j + 1, by omega, by go_num, _, HPUT.out, HLOW.out⟩
            case measure => simp [intOf]; omega
        · have hjr : j = r.length := by omega
          have HO2 := Lib.hid hown2.out
          have HL2 := Lib.hid hlow2.out
          subst hjr
          rw [HPD.out] at HO2
          clear hown2 hlow2
          go_wp2_with fail
          go_roundw
          case rel => exact ⟨i + 1, by omega, by go_num, vals2, HO2.out, HL2.out⟩
          case measure => simp [intOf]; omega
    · have hin : i = F.length := by omega
      have HO2 := Lib.hid hown.out
      rw [hin, Nat.sub_self, List.take_length, show F ++ empties 0 = F by simp [empties]] at HO2
      have kM := (hlow.out.cell (b := w3.heap.size) (by omega) (by omega) 0).trans HSM.out.1
      have k1 := (hlow.out.cell (b := w.heap.size + 1) (by omega) (by omega) 0).trans HSM.out.2.1
      have f1 := (hlow.out.frozen (b := w.heap.size + 1) (by omega) (by omega) 0).trans HSM.out.2.2
      have HBB2 := Lib.hid hbw
      clear hown hlow hbw
      go_wp2_with fail
      refine bodyPost_ret (v := .agg #[.slice (some ⟨g, 0, none⟩) F.length F.length]) (by simp [results, Try.results19, go_sem, k1]) rfl ?_
      exact ⟨B, g, vals, rfl, HO2.out.low (b := w.heap.size + 1) (by omega) (by omega) 0 _, by omega, HBB2.out.setCell (by show w.heap.size ≤ w.heap.size + 1; omega) _⟩

end Delta
end Go.Proofs.Yteamijldmhcicaa
