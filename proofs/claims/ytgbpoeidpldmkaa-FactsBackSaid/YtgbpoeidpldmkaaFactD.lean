/-
  facts.tagged: may a fact's tags be, of facts ahead?
-/
import Derived.Test.YtgbpoeidpldmkaaFactC
import Derived.Test.YtgbpoeidpldmkaaHeldMore
namespace Go.Proofs.Ytgbpoeidpldmkaa
open Go.RowKit Base
set_option linter.unusedVariables false
set_option linter.unusedSimpArgs false
namespace Fact
open Vals (srt srt_spec)

set_option maxRecDepth 8000 in
set_option maxHeartbeats 8000000 in
theorem tagged_any (w : World) (f : Fc) (a1 : Option Addr) (c1 : Nat) (a2 : Option Addr) (c2 : Nat) (h2 : Sl w a2 f.tags.length c2 (ints f.tags)) (hz : f.tags.length * 8 ≤ 140737488355328) (a : Option Addr) (n c : Nat) (vs : List (List Value)) (l : List Fc) (hs : SlF w a n c vs l) :
    Calls Try.prog 30 #[fagg f a1 c1 a2 c2, .slice a n c] w fun e w' => e = .returned (.bool (tagged f l)) ∧ Below w.heap.size w w' := by
  unfold fagg
  obtain ⟨W1, hW1⟩ : ∃ U, w.alloc (.cells #[.int .i64 f.id, .int .i64 f.kind, .int .i64 f.depth, .slice a1 f.lits.length c1, .slice a2 f.tags.length c2] 31) = U := ⟨_, rfl⟩
  obtain ⟨W2, hW2⟩ : ∃ U, W1.alloc (.cells #[.slice a n c] 22) = U := ⟨_, rfl⟩
  have hb1 : Below w.heap.size w W1 := by rw [← hW1]; exact (Below.refl _ _).alloc (Nat.le_refl _) _
  have hb2 : Below W1.heap.size W1 W2 := by rw [← hW2]; exact (Below.refl _ _).alloc (Nat.le_refl _) _
  have hz1 : w.heap.size < W1.heap.size := by rw [← hW1]; simp
  have hz2 : W1.heap.size < W2.heap.size := by rw [← hW2]; simp
  have x1 : BoxN w.heap.size [.int .i64 f.id, .int .i64 f.kind, .int .i64 f.depth, .slice a1 f.lits.length c1, .slice a2 f.tags.length c2] W1 := by
    have h := BoxN.new w #[.int .i64 f.id, .int .i64 f.kind, .int .i64 f.depth, .slice a1 f.lits.length c1, .slice a2 f.tags.length c2] 31
    rw [hW1] at h
    exact h
  have x12 := x1.next hb2 hz1
  have u1 := x12.at' 1 _ rfl
  have u4 := x12.at' 4 _ rfl
  have v0 : W2.cell? ⟨W1.heap.size, 0, none⟩ = some (.slice a n c) := by rw [← hW2]; simp
  have hb := hb1.trans (hb2.mono hb1.size)
  have HT : Hid (tagged f l = if f.kind = 1 then decide (f.tags.length = 0) else decide (f.tags = srt f.tags) && !f.tags.any fun i => !known l i) := rfl
  by_cases hk : f.kind = 1
  · have hd : (f.kind == 1) = true := by simp [hk]
    have HR : Hid (tagged f l = decide (f.tags.length = 0)) := by show _ = _; rw [HT.out, if_pos hk]
    have HB := Lib.hid hb
    clear hk h2 hs x1 x12 hb1 hb2 hz1 hz2 hz hb
    generalize f.tags.length = m at *
    go_enter Try.func30, Try.ntmps30
    go_wp2_with fail
    go_ret
    refine ⟨ret_bool ?_, HB.out⟩
    rw [HR.out]
    by_cases h0 : m = 0
    · subst h0; rfl
    · have : ((m : Int) == 0) = false := by simp; omega
      simp [h0]
  · have hd : (f.kind == 1) = false := by simp [hk]
    have HR : Hid (tagged f l = (decide (f.tags = srt f.tags) && !f.tags.any fun i => !known l i)) := by show _ = _; rw [HT.out, if_neg hk]
    obtain ⟨W3, hW3⟩ : ∃ U, W2.alloc (.cells #[.func (.func 38) #[] #[.pointer (some ⟨W1.heap.size, 0, none⟩)]] 52) = U := ⟨_, rfl⟩
    have hb3 : Below W2.heap.size W2 W3 := by rw [← hW3]; exact (Below.refl _ _).alloc (Nat.le_refl _) _
    have hz3 : W2.heap.size < W3.heap.size := by rw [← hW3]; simp
    have k3 : W3.cell? ⟨W2.heap.size, 0, none⟩ = some (.func (.func 38) #[] #[.pointer (some ⟨W1.heap.size, 0, none⟩)]) := by rw [← hW3]; simp
    have hb13 := hb.trans (hb3.mono hb.size)
    have f3 := (hb3.cell (p := ⟨W1.heap.size, 0, none⟩) hz2).trans v0
    have x3 := x12.next hb3 (Nat.lt_trans hz1 hz2)
    have HSK := fun (U : World) (hU : Below W3.heap.size W3 U) => (⟨hU, (x3.next hU (Nat.lt_trans (Nat.lt_trans hz1 hz2) hz3)).at' 4 _ rfl⟩ : Below W3.heap.size W3 U ∧ U.cell? ⟨w.heap.size, 4, none⟩ = some (.slice a2 f.tags.length c2))
    have HSO := fun (U : World) (hU : Below W3.heap.size W3 U) => Vals.lits_any U a2 f.tags.length c2 f.tags ((h2.next hb13).next hU) hz
    have HEQ := fun (U : World) (hU : Below W3.heap.size W3 U) (a4 : Option Addr) (c4 : Nat) (h4 : Sl U a4 (srt f.tags).length c4 (ints (srt f.tags))) => EqI.equal_any U a2 a4 f.tags.length (srt f.tags).length c2 c4 f.tags (srt f.tags) ((h2.next hb13).next hU) h4
    have HCF : ∀ V : World, Below W3.heap.size W3 V → Calls Try.prog 24 #[.slice a2 f.tags.length c2, .func (.func 40) #[] #[.pointer (some ⟨W2.heap.size, 0, none⟩)]] V fun e w' => e = .returned (.bool (f.tags.any fun i => !known l i)) ∧ Below V.heap.size V w' := by
      intro V hV
      have CF := SlfI.containsFunc V a2 f.tags.length c2 (ints f.tags) 40 #[] #[.pointer (some ⟨W2.heap.size, 0, none⟩)] (f.tags.map fun i => !known l i) ((h2.next hb13).next hV) (by rw [List.length_map]) eg_t2 (by
        intro X hX j y q hy hq
        obtain ⟨hj, rfl⟩ := Base.ints_at hy
        rw [List.getElem?_map, List.getElem?_eq_getElem hj] at hq
        simp only [Option.map_some, Option.some.injEq] at hq
        subst hq
        have hX3 := hV.trans (hX.mono hV.size)
        have hzX := hX3.size
        exact t2_any X W2.heap.size W1.heap.size a n c vs l ((hX3.cell (p := ⟨W2.heap.size, 0, none⟩) hz3).trans k3) ((hX3.cell (p := ⟨W1.heap.size, 0, none⟩) (Nat.lt_trans hz2 hz3)).trans f3) (by omega) ((hs.next hb13).next hX3) f.tags[j])
      have hall : ((f.tags.map fun i => !known l i).any _root_.id) = f.tags.any fun i => !known l i := by
        rw [List.any_map]
        rfl
      rw [hall] at CF
      exact CF
    have HB := Lib.hid hb13
    have HW3 := Lib.hid hW3
    clear hk h2 hs x1 x12 x3 hb1 hb2 hb3 hz1 hz2 hz3 hz hb hb13 k3 f3 v0 u4 hW3
    generalize hp : (f.tags.any fun i => !known l i) = p at *
    generalize hst : srt f.tags = st at *
    generalize hq : decide (f.tags = st) = q at *
    clear hp hst hq
    generalize f.tags.length = m at *
    cases q
    · go_enter Try.func30, Try.ntmps30
      go_upto_region 4 with fail
      rw [HW3.out]
      have hB0 : Below W3.heap.size W3 W3.drew := (Below.refl _ _).drew
      have hS0 := HSK _ hB0
      refine HeldTo.region (fun U : World => Below W3.heap.size W3 U ∧ U.cell? ⟨w.heap.size, 4, none⟩ = some (.slice a2 m c2)) 13 (by kernel_rfl) ?_
      (refine HeldTo.plain (i := 0) (oi := _) (d := some 14) (v := ?_) rfl rfl (by kernel_rfl) (by kernel_rfl) (by kernel_rfl) (by kernel_rfl) (fun _ _ _ h => h) (Or.inl ⟨by rfl, ?_⟩) (fun _ => hS0) ?_; rotate_left; (focus (intro w hSw; clear hSw; go_simp; (try with_reducible rfl); done)); (try simp only [Act.put, List.setIfInBounds_toArray, List.set_cons_zero, List.set_cons_succ]))
      (refine HeldTo.take (i := 1) (oi := _) (d := some 15) (v := ?_) rfl rfl (by kernel_rfl) (by kernel_rfl) (by kernel_rfl) (by kernel_rfl) (by kernel_rfl) (by kernel_rfl) (fun _ _ _ h => h) (Or.inl ⟨by rfl, ?_⟩) hS0 ?_; rotate_left; (focus (intro w hSw; (try dsimp only at hSw); go_simp; (try with_reducible rfl); done)); (try simp only [Act.put, List.setIfInBounds_toArray, List.set_cons_zero, List.set_cons_succ]))
      (refine HeldTo.plain (i := 2) (oi := _) (d := some 16) (v := ?_) rfl rfl (by kernel_rfl) (by kernel_rfl) (by kernel_rfl) (by kernel_rfl) (fun _ _ _ h => h) (Or.inl ⟨by rfl, ?_⟩) (fun _ => hS0) ?_; rotate_left; (focus (intro w hSw; clear hSw; go_simp; (try with_reducible rfl); done)); (try simp only [Act.put, List.setIfInBounds_toArray, List.set_cons_zero, List.set_cons_succ]))
      (refine HeldTo.take (i := 3) (oi := _) (d := some 17) (v := ?_) rfl rfl (by kernel_rfl) (by kernel_rfl) (by kernel_rfl) (by kernel_rfl) (by kernel_rfl) (by kernel_rfl) (fun _ _ _ h => h) (Or.inl ⟨by rfl, ?_⟩) hS0 ?_; rotate_left; (focus (intro w hSw; (try dsimp only at hSw); go_simp; (try with_reducible rfl); done)); (try simp only [Act.put, List.setIfInBounds_toArray, List.set_cons_zero, List.set_cons_succ]))
      refine HeldTo.call (i := 4) (oi := _) (d := some 18) (R := fun v w' => ∃ a' c', v = .slice a' st.length c' ∧ w'.ownsRow W3.drew.heap.size 3 1 (.slice a' st.length c') st.length (ints st) ∧ Below W3.drew.heap.size W3.drew w') rfl rfl (by kernel_rfl) (by rfl) (by go_simp; done) ((HSO W3.drew hB0).mono (fun e w' ⟨a', c', he, ho, hb⟩ => ⟨_, he, a', c', rfl, ho, hb⟩)) ?_
      rintro v wk5 ⟨b5, d5, rfl, ho5, hb5⟩
      have hB5 := hB0.trans (hb5.mono hB0.size)
      have hS5 := HSK _ hB5
      refine ⟨hS5, ?_⟩
      (try simp only [Act.put, List.setIfInBounds_toArray, List.set_cons_zero, List.set_cons_succ])
      refine HeldTo.call (i := 5) (oi := _) (d := some 19) (R := fun v w' => v = .bool false ∧ Below wk5.heap.size wk5 w') rfl rfl (by kernel_rfl) (by rfl) (by go_simp; done) ((HEQ wk5 hB5 b5 d5 (own_slI ho5)).mono (fun e w' ⟨he, hm⟩ => ⟨_, he, rfl, (by obtain ⟨m', rfl⟩ := hm; exact below_drewN (Below.refl _ _) m')⟩)) ?_
      rintro v wk6 ⟨rfl, hb6⟩
      have hB6 := hB5.trans (hb6.mono hB5.size)
      have hS6 := HSK _ hB6
      refine ⟨hS6, ?_⟩
      (try simp only [Act.put, List.setIfInBounds_toArray, List.set_cons_zero, List.set_cons_succ])
      (refine HeldTo.plain (i := 6) (oi := _) (d := some 20) (v := ?_) rfl rfl (by kernel_rfl) (by kernel_rfl) (by kernel_rfl) (by kernel_rfl) (fun _ _ _ h => h) (Or.inl ⟨by rfl, ?_⟩) (fun _ => hS6) ?_; rotate_left; (focus (intro w hSw; clear hSw; go_simp; (try with_reducible rfl); done)); (try simp only [Act.put, List.setIfInBounds_toArray, List.set_cons_zero, List.set_cons_succ]))
      (refine HeldTo.plain (i := 7) (oi := _) (d := some 21) (v := undef) rfl rfl (by kernel_rfl) (by kernel_rfl) (by kernel_rfl) (by kernel_rfl) (fun _ _ _ h => h) (Or.inr ⟨?_, rfl⟩) (fun _ => hS6) ?_; (focus (first | (go_simp; done) | (simp [Region.wanted, yielded, undef]; done) | rfl)); (try simp only [Act.put, List.setIfInBounds_toArray, List.set_cons_zero, List.set_cons_succ]))
      (refine HeldTo.plain (i := 8) (oi := _) (d := some 22) (v := undef) rfl rfl (by kernel_rfl) (by kernel_rfl) (by kernel_rfl) (by kernel_rfl) (fun _ _ _ h => h) (Or.inr ⟨?_, rfl⟩) (fun _ => hS6) ?_; (focus (first | (go_simp; done) | (simp [Region.wanted, yielded, undef]; done) | rfl)); (try simp only [Act.put, List.setIfInBounds_toArray, List.set_cons_zero, List.set_cons_succ]))
      (refine HeldTo.plain (i := 9) (oi := _) (d := some 23) (v := undef) rfl rfl (by kernel_rfl) (by kernel_rfl) (by kernel_rfl) (by kernel_rfl) (fun _ _ _ h => h) (Or.inr ⟨?_, rfl⟩) (fun _ => hS6) ?_; (focus (first | (go_simp; done) | (simp [Region.wanted, yielded, undef]; done) | rfl)); (try simp only [Act.put, List.setIfInBounds_toArray, List.set_cons_zero, List.set_cons_succ]))
      (refine HeldTo.plain (i := 10) (oi := _) (d := some 24) (v := undef) rfl rfl (by kernel_rfl) (by kernel_rfl) (by kernel_rfl) (by kernel_rfl) (fun _ _ _ h => h) (Or.inr ⟨?_, rfl⟩) (fun _ => hS6) ?_; (focus (first | (go_simp; done) | (simp [Region.wanted, yielded, undef]; done) | rfl)); (try simp only [Act.put, List.setIfInBounds_toArray, List.set_cons_zero, List.set_cons_succ]))
      (refine HeldTo.plain (i := 11) (oi := _) (d := some 25) (v := undef) rfl rfl (by kernel_rfl) (by kernel_rfl) (by kernel_rfl) (by kernel_rfl) (fun _ _ _ h => h) (Or.inr ⟨?_, rfl⟩) (fun _ => hS6) ?_; (focus (first | (go_simp; done) | (simp [Region.wanted, yielded, undef]; done) | rfl)); (try simp only [Act.put, List.setIfInBounds_toArray, List.set_cons_zero, List.set_cons_succ]))
      (refine HeldTo.plain (i := 12) (oi := _) (d := some 26) (v := ?_) rfl rfl (by kernel_rfl) (by kernel_rfl) (by kernel_rfl) (by kernel_rfl) (fun _ _ _ h => h) (Or.inl ⟨by rfl, ?_⟩) (fun _ => hS6) ?_; rotate_left; (focus (intro w hSw; clear hSw; go_simp; (try with_reducible rfl); done)); (try simp only [Act.put, List.setIfInBounds_toArray, List.set_cons_zero, List.set_cons_succ]))
      (refine HeldTo.make (i := 13) (oi := _) (d := some 4) (v := ?_) (w2 := wk6) rfl rfl (by kernel_rfl) (by rfl) ?_ hS6 ?_; rotate_left; (focus (go_simp; (try with_reducible rfl); done)); (try simp only [Act.put, List.setIfInBounds_toArray, List.set_cons_zero, List.set_cons_succ]))
      refine HeldTo.done (by kernel_rfl) ?_ _
      go_wp2_with fail
      go_ret
      exact ⟨ret_bool (by rw [HR.out]; rfl), HB.out.trans (hB6.mono HB.out.size)⟩
    · go_enter Try.func30, Try.ntmps30
      go_upto_region 4 with fail
      rw [HW3.out]
      have hB0 : Below W3.heap.size W3 W3.drew := (Below.refl _ _).drew
      have hS0 := HSK _ hB0
      refine HeldTo.region (fun U : World => Below W3.heap.size W3 U ∧ U.cell? ⟨w.heap.size, 4, none⟩ = some (.slice a2 m c2)) 13 (by kernel_rfl) ?_
      (refine HeldTo.plain (i := 0) (oi := _) (d := some 14) (v := ?_) rfl rfl (by kernel_rfl) (by kernel_rfl) (by kernel_rfl) (by kernel_rfl) (fun _ _ _ h => h) (Or.inl ⟨by rfl, ?_⟩) (fun _ => hS0) ?_; rotate_left; (focus (intro w hSw; clear hSw; go_simp; (try with_reducible rfl); done)); (try simp only [Act.put, List.setIfInBounds_toArray, List.set_cons_zero, List.set_cons_succ]))
      (refine HeldTo.take (i := 1) (oi := _) (d := some 15) (v := ?_) rfl rfl (by kernel_rfl) (by kernel_rfl) (by kernel_rfl) (by kernel_rfl) (by kernel_rfl) (by kernel_rfl) (fun _ _ _ h => h) (Or.inl ⟨by rfl, ?_⟩) hS0 ?_; rotate_left; (focus (intro w hSw; (try dsimp only at hSw); go_simp; (try with_reducible rfl); done)); (try simp only [Act.put, List.setIfInBounds_toArray, List.set_cons_zero, List.set_cons_succ]))
      (refine HeldTo.plain (i := 2) (oi := _) (d := some 16) (v := ?_) rfl rfl (by kernel_rfl) (by kernel_rfl) (by kernel_rfl) (by kernel_rfl) (fun _ _ _ h => h) (Or.inl ⟨by rfl, ?_⟩) (fun _ => hS0) ?_; rotate_left; (focus (intro w hSw; clear hSw; go_simp; (try with_reducible rfl); done)); (try simp only [Act.put, List.setIfInBounds_toArray, List.set_cons_zero, List.set_cons_succ]))
      (refine HeldTo.take (i := 3) (oi := _) (d := some 17) (v := ?_) rfl rfl (by kernel_rfl) (by kernel_rfl) (by kernel_rfl) (by kernel_rfl) (by kernel_rfl) (by kernel_rfl) (fun _ _ _ h => h) (Or.inl ⟨by rfl, ?_⟩) hS0 ?_; rotate_left; (focus (intro w hSw; (try dsimp only at hSw); go_simp; (try with_reducible rfl); done)); (try simp only [Act.put, List.setIfInBounds_toArray, List.set_cons_zero, List.set_cons_succ]))
      refine HeldTo.call (i := 4) (oi := _) (d := some 18) (R := fun v w' => ∃ a' c', v = .slice a' st.length c' ∧ w'.ownsRow W3.drew.heap.size 3 1 (.slice a' st.length c') st.length (ints st) ∧ Below W3.drew.heap.size W3.drew w') rfl rfl (by kernel_rfl) (by rfl) (by go_simp; done) ((HSO W3.drew hB0).mono (fun e w' ⟨a', c', he, ho, hb⟩ => ⟨_, he, a', c', rfl, ho, hb⟩)) ?_
      rintro v wk5 ⟨b5, d5, rfl, ho5, hb5⟩
      have hB5 := hB0.trans (hb5.mono hB0.size)
      have hS5 := HSK _ hB5
      refine ⟨hS5, ?_⟩
      (try simp only [Act.put, List.setIfInBounds_toArray, List.set_cons_zero, List.set_cons_succ])
      refine HeldTo.call (i := 5) (oi := _) (d := some 19) (R := fun v w' => v = .bool true ∧ Below wk5.heap.size wk5 w') rfl rfl (by kernel_rfl) (by rfl) (by go_simp; done) ((HEQ wk5 hB5 b5 d5 (own_slI ho5)).mono (fun e w' ⟨he, hm⟩ => ⟨_, he, rfl, (by obtain ⟨m', rfl⟩ := hm; exact below_drewN (Below.refl _ _) m')⟩)) ?_
      rintro v wk6 ⟨rfl, hb6⟩
      have hB6 := hB5.trans (hb6.mono hB5.size)
      have hS6 := HSK _ hB6
      refine ⟨hS6, ?_⟩
      (try simp only [Act.put, List.setIfInBounds_toArray, List.set_cons_zero, List.set_cons_succ])
      (refine HeldTo.plain (i := 6) (oi := _) (d := some 20) (v := ?_) rfl rfl (by kernel_rfl) (by kernel_rfl) (by kernel_rfl) (by kernel_rfl) (fun _ _ _ h => h) (Or.inl ⟨by rfl, ?_⟩) (fun _ => hS6) ?_; rotate_left; (focus (intro w hSw; clear hSw; go_simp; (try with_reducible rfl); done)); (try simp only [Act.put, List.setIfInBounds_toArray, List.set_cons_zero, List.set_cons_succ]))
      (refine HeldTo.plain (i := 7) (oi := _) (d := some 21) (v := ?_) rfl rfl (by kernel_rfl) (by kernel_rfl) (by kernel_rfl) (by kernel_rfl) (fun _ _ _ h => h) (Or.inl ⟨by rfl, ?_⟩) (fun _ => hS6) ?_; rotate_left; (focus (intro w hSw; clear hSw; go_simp; (try with_reducible rfl); done)); (try simp only [Act.put, List.setIfInBounds_toArray, List.set_cons_zero, List.set_cons_succ]))
      (refine HeldTo.take (i := 8) (oi := _) (d := some 22) (v := ?_) rfl rfl (by kernel_rfl) (by kernel_rfl) (by kernel_rfl) (by kernel_rfl) (by kernel_rfl) (by kernel_rfl) (fun _ _ _ h => h) (Or.inl ⟨by rfl, ?_⟩) hS6 ?_; rotate_left; (focus (intro w hSw; (try dsimp only at hSw); go_simp; (try with_reducible rfl); done)); (try simp only [Act.put, List.setIfInBounds_toArray, List.set_cons_zero, List.set_cons_succ]))
      (refine HeldTo.plain (i := 9) (oi := _) (d := some 23) (v := ?_) rfl rfl (by kernel_rfl) (by kernel_rfl) (by kernel_rfl) (by kernel_rfl) (fun _ _ _ h => h) (Or.inl ⟨by rfl, ?_⟩) (fun _ => hS6) ?_; rotate_left; (focus (intro w hSw; clear hSw; go_simp; (try with_reducible rfl); done)); (try simp only [Act.put, List.setIfInBounds_toArray, List.set_cons_zero, List.set_cons_succ]))
      refine HeldTo.call (i := 10) (oi := _) (d := some 24) (R := fun v w' => v = .bool p ∧ Below wk6.heap.size wk6 w') rfl rfl (by kernel_rfl) (by rfl) (by go_simp; done) ((HCF wk6 hB6).mono (fun e w' ⟨he, hb⟩ => ⟨_, he, rfl, hb⟩)) ?_
      rintro v wk11 ⟨rfl, hb11⟩
      have hB11 := hB6.trans (hb11.mono hB6.size)
      have hS11 := HSK _ hB11
      refine ⟨hS11, ?_⟩
      (try simp only [Act.put, List.setIfInBounds_toArray, List.set_cons_zero, List.set_cons_succ])
      (refine HeldTo.plain (i := 11) (oi := _) (d := some 25) (v := ?_) rfl rfl (by kernel_rfl) (by kernel_rfl) (by kernel_rfl) (by kernel_rfl) (fun _ _ _ h => h) (Or.inl ⟨by rfl, ?_⟩) (fun _ => hS11) ?_; rotate_left; (focus (intro w hSw; clear hSw; go_simp; (try with_reducible rfl); done)); (try simp only [Act.put, List.setIfInBounds_toArray, List.set_cons_zero, List.set_cons_succ]))
      (refine HeldTo.plain (i := 12) (oi := _) (d := some 26) (v := ?_) rfl rfl (by kernel_rfl) (by kernel_rfl) (by kernel_rfl) (by kernel_rfl) (fun _ _ _ h => h) (Or.inl ⟨by rfl, ?_⟩) (fun _ => hS11) ?_; rotate_left; (focus (intro w hSw; clear hSw; go_simp; (try with_reducible rfl); done)); (try simp only [Act.put, List.setIfInBounds_toArray, List.set_cons_zero, List.set_cons_succ]))
      (refine HeldTo.make (i := 13) (oi := _) (d := some 4) (v := ?_) (w2 := wk11) rfl rfl (by kernel_rfl) (by rfl) ?_ hS11 ?_; rotate_left; (focus (go_simp; (try with_reducible rfl); done)); (try simp only [Act.put, List.setIfInBounds_toArray, List.set_cons_zero, List.set_cons_succ]))
      refine HeldTo.done (by kernel_rfl) ?_ _
      go_wp2_with fail
      go_ret
      exact ⟨ret_bool (by rw [HR.out]; rfl), HB.out.trans (hB11.mono HB.out.size)⟩
end Fact
end Go.Proofs.Ytgbpoeidpldmkaa
