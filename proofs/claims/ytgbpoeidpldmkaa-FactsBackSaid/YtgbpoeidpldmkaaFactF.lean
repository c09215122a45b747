/-
  facts.copied: a table in memory of its own.
-/
import Derived.Test.YtgbpoeidpldmkaaFactS
import Derived.Test.YtgbpoeidpldmkaaCloneI
import Derived.Test.YtgbpoeidpldmkaaHeldMore
import Derived.Deep.DeepCutAuto
import Derived.BigQuiet
namespace Go.Proofs.Ytgbpoeidpldmkaa
open Go.RowKit Base
set_option linter.unusedVariables false
set_option linter.unusedSimpArgs false
namespace Fact

theorem info_fact : (Try.prog.info? 31).map (fun i => (i.zero, i.size, i.bytes)) = some (some (.agg #[.int .i64 0, .int .i64 0, .int .i64 0, .slice none 0 0, .slice none 0 0]), 5, 72) := by kernel_rfl

/-- append of one struct of k cells, the block that it grew in told. -/
theorem wpL_pushK {P : Program} {w : World} {ops : Array Oper} {rest : List Oper} {dst : Option Tmp} {ty : TypeId} {pos : String} {af : Array Edge} {a : Act} {Q : Exit → Act → World → Prop}
    {s x : Operand} {t e : TypeId} {z : Value} {k bytes : Nat} (hk : 0 < k) (B : Nat) (v : Value) (n : Nat) (vs : List (List Value)) (ad : Addr) (c : Nat) (u : List Value)
    (hinfo : (P.info? e).map (fun i => (i.zero, i.size, i.bytes)) = some (some z, k, bytes)) (ht : P.underlying t = some (.slice e)) (hzs : z.cells.size = k)
    (hs : a.eval s = v) (hx : a.eval x = .slice (some ad) 1 c) (hu : ∀ y ∈ u, y.oneCell' = true) (hul : u.length = k)
    (hown : w.ownsRow B e k v n vs.flatten) (hc : ∀ (j : Nat) (y : Value), u[j]? = some y → w.cell? (ad.add j) = some y) (hB : B ≤ w.heap.size) (hn : (n + 1) * bytes ≤ 140737488355328) (hn' : n + 1 ≤ 9223372036854775807)
    (hK : ∀ a' c' w1, w1.ownsRow B e k (.slice a' (n + 1) c') (n + 1) (vs ++ [u]).flatten → w.grownBy w1 v.ownBlock → wpList P ops Q rest (a.put dst (.slice a' (n + 1) c')) w1) :
    wpList P ops Q (⟨dst, .call { callee := .builtin .append, args := #[s, x], argTypes := #[t, t] }, ty, pos, af, none⟩ :: rest) a w := by
  obtain ⟨i, hi, hz0, hz1, hz2⟩ := info_parts hinfo
  refine wpList_append_own _ rfl s x t rfl B e i z k bytes ht hi hz0 hz1 hz2 hzs hk v n vs.flatten hs hown ad 1 c u hx (by omega) hc hu
    (by unfold maxLen; omega) hn hB ?_
  intro v' w1 hown' hgrow _
  obtain ⟨g, cap, rfl⟩ : ∃ g cap, v' = .slice (some ⟨g, 0, none⟩) (n + 1) cap := by
    rcases hown'.2 with ⟨_, h0⟩ | ⟨g, cap, _, rfl, _⟩
    · omega
    · exact ⟨g, cap, rfl⟩
  exact hK _ _ w1 (by rw [List.flatten_append]; simpa using hown') hgrow

theorem one5 (f : Fc) (a1 : Option Addr) (c1 : Nat) (a2 : Option Addr) (c2 : Nat) : ∀ u ∈ fcells f a1 c1 a2 c2, u.oneCell' = true := by
  intro u hu
  unfold fcells at hu
  simp only [List.mem_cons, List.not_mem_nil, or_false] at hu
  rcases hu with rfl | rfl | rfl | rfl | rfl <;> rfl

set_option maxRecDepth 8000 in
set_option maxHeartbeats 16000000 in
theorem copied_any (w : World) (t : Tb) (a : Option Addr) (c : Nat) (vs : List (List Value)) (hs : SlF w a t.facts.length c vs t.facts) (hn : t.facts.length * 72 ≤ 140737488355328) (hfit : Fit t.facts) :
    Calls Try.prog 19 #[tagg t a c] w fun e w' => ∃ a' c' vs', e = .returned (tagg t a' c') ∧ FOwn w' w.heap.size a' t.facts.length c' vs' t.facts ∧ Below w.heap.size w w' := by
  unfold tagg
  obtain ⟨W1, hW1⟩ : ∃ U, w.alloc (.cells #[.int .i64 t.next, .int .i64 t.depth, .slice a t.facts.length c] 24) = U := ⟨_, rfl⟩
  obtain ⟨W2, hW2⟩ : ∃ U, W1.alloc (.cells #[.int .i64 0, .int .i64 0, .slice none 0 0] 24) = U := ⟨_, rfl⟩
  obtain ⟨W3, hW3⟩ : ∃ U, W2.alloc (.cells #[.int .i64 t.next, .int .i64 t.depth, .slice none 0 0] 24) = U := ⟨_, rfl⟩
  have hb1 : Below w.heap.size w W1 := by rw [← hW1]; exact (Below.refl _ _).alloc (Nat.le_refl _) _
  have hb2 : Below W1.heap.size W1 W2 := by rw [← hW2]; exact (Below.refl _ _).alloc (Nat.le_refl _) _
  have hb3 : Below W2.heap.size W2 W3 := by rw [← hW3]; exact (Below.refl _ _).alloc (Nat.le_refl _) _
  have x1 : BoxN w.heap.size [.int .i64 t.next, .int .i64 t.depth, .slice a t.facts.length c] W1 := by
    have h := BoxN.new w #[.int .i64 t.next, .int .i64 t.depth, .slice a t.facts.length c] 24
    rw [hW1] at h
    exact h
  have x2 : BoxN W1.heap.size [.int .i64 0, .int .i64 0, .slice none 0 0] W2 := by
    have h := BoxN.new W1 #[.int .i64 0, .int .i64 0, .slice none 0 0] 24
    rw [hW2] at h
    exact h
  have x3 : BoxN W2.heap.size [.int .i64 t.next, .int .i64 t.depth, .slice none 0 0] W3 := by
    have h := BoxN.new W2 #[.int .i64 t.next, .int .i64 t.depth, .slice none 0 0] 24
    rw [hW3] at h
    exact h
  have x12 := x1.next hb2 x1.lt
  have x13 := x12.next hb3 x12.lt
  have x23 := x2.next hb3 x2.lt
  have q0 := x12.at' 0 _ rfl
  have q1 := x12.at' 1 _ rfl
  have r2 := x13.at' 2 _ rfl
  have hb12 := hb1.trans (hb2.mono hb1.size)
  have hb13 := hb12.trans (hb3.mono hb12.size)
  have HS := Lib.hid (hs.next hb12)
  have hcap := hs.sl.cap
  have hbig := hs.sl.big
  have HN := Lib.hid hn
  have HF := Lib.hid hfit
  have HB := Lib.hid hb12
  have HB3 := Lib.hid hb3
  have HX3 := Lib.hid x3
  have HX2 := Lib.hid x2
  have HL1 := Lib.hid hb1.size
  clear hs hn hfit hb1 hb2 hb3 hb12 hb13 x1 x2 x3 x12 x13 x23
  generalize hnn : t.facts.length = n at *
  have HNN := Lib.hid hnn
  clear hnn
  have HW3 := Lib.hid hW3
  clear hW3
  go_enter Try.func19, Try.ntmps19
  go_upto_region 2 with fail
  rw [HW3.out]
  go_wp2_with fail
  go_loopw [14] (fun s wr => ∃ (k : Nat) (a' : Option Addr) (c' : Nat) (vs' : List (List Value)), k ≤ n ∧ s = .int .i64 k ∧ Hid (Below W2.heap.size W2 wr) ∧ Hid (W3.heap.size ≤ wr.heap.size) ∧ Hid (BoxN W2.heap.size [.int .i64 t.next, .int .i64 t.depth, .slice a' k c'] wr) ∧ Hid (FOwn wr W3.heap.size a' k c' vs' (t.facts.take k))) (fun s _ => n - (intOf s).toNat)
  case atStart => exact ⟨0, none, 0, [], Nat.zero_le _, rfl, HB3.out, Nat.le_refl _, HX3.out, FOwn.nil _ _⟩
  case round =>
    obtain ⟨k, a', c', vs', hk, rfl, hbq, hzq, hxq, hoq⟩ := hrel
    by_cases hlt : k < n
    · obtain ⟨b, o, a1, c1, a2, c2, hx, hae, hbs, ⟨d0, d1, d2, d3, d4⟩, hs1, hs2, _⟩ := (HS.out.next hbq.out).at hlt
      subst hae
      have HT := Lib.hid (List.take_succ_eq_append_getElem hx)
      have HF1 := Lib.hid (HF.out _ (List.getElem_mem hx))
      generalize t.facts[k] = y at *
      obtain ⟨W5, hW5⟩ : ∃ U, wr.alloc (.cells #[.int .i64 y.id, .int .i64 y.kind, .int .i64 y.depth, .slice a1 y.lits.length c1, .slice a2 y.tags.length c2] 31) = U := ⟨_, rfl⟩
      have hb5 : Below wr.heap.size wr W5 := by rw [← hW5]; exact (Below.refl _ _).alloc (Nat.le_refl _) _
      have x5 := BoxN.new wr #[.int .i64 y.id, .int .i64 y.kind, .int .i64 y.depth, .slice a1 y.lits.length c1, .slice a2 y.tags.length c2] 31
      rw [hW5] at x5
      have HX5 := Lib.hid x5
      have HB5 := Lib.hid hb5
      have HS1 := Lib.hid (hs1.next hb5)
      have HS2 := Lib.hid (hs2.next hb5)
      clear x5 hb5 hs1 hs2
      generalize wr = wo at *
      go_upto_region 5 with fail
      clear hW5 d0 d1 d2 d3 d4
      have hB0 : Below W5.heap.size W5 W5.drew := (Below.refl _ _).drew
      have hSK : ∀ V : World, Below W5.heap.size W5 V → V.cell? ⟨wo.heap.size, 3, none⟩ = some (.slice a1 y.lits.length c1) ∧ V.cell? ⟨wo.heap.size, 4, none⟩ = some (.slice a2 y.tags.length c2) := fun V hV => ⟨(HX5.out.next hV HX5.out.lt).at' 3 _ rfl, (HX5.out.next hV HX5.out.lt).at' 4 _ rfl⟩
      have hS0 := hSK _ hB0
      refine HeldTo.region (fun U : World => U.cell? ⟨wo.heap.size, 3, none⟩ = some (.slice a1 y.lits.length c1) ∧ U.cell? ⟨wo.heap.size, 4, none⟩ = some (.slice a2 y.tags.length c2)) 7 (by kernel_rfl) ?_
      (refine HeldTo.plain (i := 0) (oi := _) (d := some 18) (v := ?_) rfl rfl (by kernel_rfl) (by kernel_rfl) (by kernel_rfl) (by kernel_rfl) (fun _ _ _ h => h) (Or.inl ⟨by rfl, ?_⟩) (fun _ => hS0) ?_; rotate_left; (focus (intro w hSw; clear hSw; go_simp; (try with_reducible rfl); done)); (try simp only [Act.put, List.setIfInBounds_toArray, List.set_cons_zero, List.set_cons_succ]))
      (refine HeldTo.take (i := 1) (oi := _) (d := some 19) (v := ?_) rfl rfl (by kernel_rfl) (by kernel_rfl) (by kernel_rfl) (by kernel_rfl) (by kernel_rfl) (by kernel_rfl) (fun _ _ _ h => h) (Or.inl ⟨by rfl, ?_⟩) hS0 ?_; rotate_left; (focus (intro w hSw; (try dsimp only at hSw); go_simp; (try with_reducible rfl); done)); (try simp only [Act.put, List.setIfInBounds_toArray, List.set_cons_zero, List.set_cons_succ]))
      (refine HeldTo.plain (i := 3) (oi := _) (d := some 21) (v := ?_) rfl rfl (by kernel_rfl) (by kernel_rfl) (by kernel_rfl) (by kernel_rfl) (fun _ _ _ h => h) (Or.inl ⟨by rfl, ?_⟩) (fun _ => hS0) ?_; rotate_left; (focus (intro w hSw; clear hSw; go_simp; (try with_reducible rfl); done)); (try simp only [Act.put, List.setIfInBounds_toArray, List.set_cons_zero, List.set_cons_succ]))
      (refine HeldTo.take (i := 4) (oi := _) (d := some 22) (v := ?_) rfl rfl (by kernel_rfl) (by kernel_rfl) (by kernel_rfl) (by kernel_rfl) (by kernel_rfl) (by kernel_rfl) (fun _ _ _ h => h) (Or.inl ⟨by rfl, ?_⟩) hS0 ?_; rotate_left; (focus (intro w hSw; (try dsimp only at hSw); go_simp; (try with_reducible rfl); done)); (try simp only [Act.put, List.setIfInBounds_toArray, List.set_cons_zero, List.set_cons_succ]))
      refine HeldTo.call (i := 2) (oi := _) (d := some 20) (R := fun v w' => ∃ a' c', v = .slice a' y.lits.length c' ∧ w'.ownsRow W5.drew.heap.size 3 1 (.slice a' y.lits.length c') y.lits.length (ints y.lits) ∧ Below W5.drew.heap.size W5.drew w') rfl rfl (by kernel_rfl) (by rfl) (by go_simp; done) ((CloneI.clone W5.drew a1 y.lits.length c1 (ints y.lits) (HS1.out.next hB0) (ints_one y.lits) HF1.out.1).mono (fun e w' ⟨a', c', he, ho, hb⟩ => ⟨_, he, a', c', rfl, ho, hb⟩)) ?_
      rintro v w6 ⟨b6, d6, rfl, ho6, hb6⟩
      have hB6 := hB0.trans (hb6.mono hB0.size)
      have hS6 := hSK _ hB6
      refine ⟨hS6, ?_⟩
      (try simp only [Act.put, List.setIfInBounds_toArray, List.set_cons_zero, List.set_cons_succ])
      (refine HeldTo.plain (i := 6) (oi := _) (d := some 24) (v := ?_) rfl rfl (by kernel_rfl) (by kernel_rfl) (by kernel_rfl) (by kernel_rfl) (fun _ _ _ h => h) (Or.inl ⟨by rfl, ?_⟩) (fun _ => hS6) ?_; rotate_left; (focus (intro w hSw; clear hSw; go_simp; (try with_reducible rfl); done)); (try simp only [Act.put, List.setIfInBounds_toArray, List.set_cons_zero, List.set_cons_succ]))
      refine HeldTo.call (i := 5) (oi := _) (d := some 23) (R := fun v w' => ∃ a' c', v = .slice a' y.tags.length c' ∧ w'.ownsRow w6.heap.size 3 1 (.slice a' y.tags.length c') y.tags.length (ints y.tags) ∧ Below w6.heap.size w6 w') rfl rfl (by kernel_rfl) (by rfl) (by go_simp; done) ((CloneI.clone w6 a2 y.tags.length c2 (ints y.tags) (HS2.out.next hB6) (ints_one y.tags) HF1.out.2).mono (fun e w' ⟨a', c', he, ho, hb⟩ => ⟨_, he, a', c', rfl, ho, hb⟩)) ?_
      rintro v w7 ⟨b7, d7, rfl, ho7, hb7⟩
      have hB7 := hB6.trans (hb7.mono hB6.size)
      refine ⟨hSK _ hB7, ?_⟩
      (try simp only [Act.put, List.setIfInBounds_toArray, List.set_cons_zero, List.set_cons_succ])
      obtain ⟨w8, hw8⟩ : ∃ U, w7.setCell ⟨wo.heap.size, 3, none⟩ (.slice b6 y.lits.length d6) = U := ⟨_, rfl⟩
      have x7 := HX5.out.next hB7 HX5.out.lt
      have x8 := x7.set 3 (.slice b6 y.lits.length d6)
      rw [hw8] at x8
      have g7 := x7.at' 3 _ rfl
      have f7 := x7.fz 3
      (refine HeldTo.store (i := 7) (oi := _) (d := none) (w2 := w8) rfl rfl (by kernel_rfl) (by kernel_rfl) (by rfl) (by go_simp; done) ?_; (try simp only [Act.put, List.setIfInBounds_toArray, List.set_cons_zero, List.set_cons_succ]))
      obtain ⟨w9, hw9⟩ : ∃ U, w8.setCell ⟨wo.heap.size, 4, none⟩ (.slice b7 y.tags.length d7) = U := ⟨_, rfl⟩
      have x9 := x8.set 4 (.slice b7 y.tags.length d7)
      rw [hw9] at x9
      have g8 := x8.at' 4 _ rfl
      have f8 := x8.fz 4
      (refine HeldTo.plain (i := 8) (oi := _) (d := some 25) (v := ?_) rfl rfl (by kernel_rfl) (by kernel_rfl) (by kernel_rfl) (by kernel_rfl) (fun _ _ _ h => h) (Or.inl ⟨by rfl, ?_⟩) (fun h => absurd h (by decide)) ?_; rotate_left; (focus (intro w hSw; clear hSw; go_simp; (try with_reducible rfl); done)); (try simp only [Act.put, List.setIfInBounds_toArray, List.set_cons_zero, List.set_cons_succ]))
      (refine HeldTo.store (i := 9) (oi := _) (d := none) (w2 := w9) rfl rfl (by kernel_rfl) (by kernel_rfl) (by rfl) (by go_simp; done) ?_; (try simp only [Act.put, List.setIfInBounds_toArray, List.set_cons_zero, List.set_cons_succ]))
      refine HeldTo.done (by kernel_rfl) ?_ _
      have hbo7 : Below wo.heap.size wo w7 := HB5.out.trans (hB7.mono HB5.out.size)
      have hbo9 : Below wo.heap.size wo w9 := by
        rw [← hw9, ← hw8]
        exact (hbo7.setCell (p := ⟨wo.heap.size, 3, none⟩) (Nat.le_refl _) _).setCell (p := ⟨wo.heap.size, 4, none⟩) (Nat.le_refl _) _
      have hz5 : wo.heap.size < W5.heap.size := HX5.out.lt
      have ho69 : w9.ownsRow W5.heap.size 3 1 (.slice b6 y.lits.length d6) y.lits.length (ints y.lits) := by
        rw [← hw9, ← hw8]
        exact ownsRow_setCell_below (a := ⟨wo.heap.size, 4, none⟩) (ownsRow_setCell_below (a := ⟨wo.heap.size, 3, none⟩) (own_next ho6 hb7) hz5 _) hz5 _
      have ho79 : w9.ownsRow W5.heap.size 3 1 (.slice b7 y.tags.length d7) y.tags.length (ints y.tags) := by
        rw [← hw9, ← hw8]
        exact ownsRow_setCell_below (a := ⟨wo.heap.size, 4, none⟩) (ownsRow_setCell_below (a := ⟨wo.heap.size, 3, none⟩) (own_mono ho7 hB6.size) hz5 _) hz5 _
      have hzo : W3.heap.size ≤ W5.heap.size := Nat.le_trans hzq.out HB5.out.size
      have HROW : Hid (FcOwn w9 W3.heap.size (fcells y b6 d6 b7 d7) y) := ⟨b6, d6, b7, d7, rfl, own_mono ho69 hzo, own_mono ho79 hzo⟩
      have HXQ := Lib.hid (hxq.out.next hbo9 hxq.out.lt)
      have HOQ := Lib.hid (hoq.out.next hbo9)
      have HBQ := Lib.hid (hbq.out.trans (hbo9.mono hbq.out.size))
      have HZQ := Lib.hid (Nat.le_trans hzq.out hbo9.size)
      have m0 := x9.at' 0 _ rfl
      have m1 := x9.at' 1 _ rfl
      have m2 := x9.at' 2 _ rfl
      have m3 := x9.at' 3 _ rfl
      have m4 := x9.at' 4 _ rfl
      have n2 := HXQ.out.at' 2 _ rfl
      clear hB0 hSK hS0 ho6 hb6 hB6 hS6 ho7 hb7 hB7 hw8 x7 x8 g7 f7 hw9 x9 g8 f8 hbo7 hbo9 hz5 ho69 ho79 hzo hbq hzq hxq hoq
      obtain ⟨W7, hW7⟩ : ∃ U, w9.alloc (.cells #[.int .i64 y.id, .int .i64 y.kind, .int .i64 y.depth, .slice b6 y.lits.length d6, .slice b7 y.tags.length d7] 31) = U := ⟨_, rfl⟩
      have hb7 : Below w9.heap.size w9 W7 := by rw [← hW7]; exact (Below.refl _ _).alloc (Nat.le_refl _) _
      have x7 := BoxN.new w9 #[.int .i64 y.id, .int .i64 y.kind, .int .i64 y.depth, .slice b6 y.lits.length d6, .slice b7 y.tags.length d7] 31
      rw [hW7] at x7
      have HX7 := Lib.hid x7
      have HB7 := Lib.hid hb7
      have HO7 := Lib.hid (HOQ.out.next hb7)
      have HR7 := Lib.hid (HROW.out.next hb7)
      have HBX := Lib.hid (HXQ.out.next hb7 HXQ.out.lt)
      have HZ7 := Lib.hid (Nat.le_trans HZQ.out hb7.size)
      have HN72 : Hid ((k + 1) * 72 ≤ 140737488355328) := by show _ ≤ _; have := HN.out; omega
      clear x7 hb7
      go_wp2_with ((with_reducible refine wpL_pushK (k := 5) (by decide) W3.heap.size (.slice a' k c') k vs' ⟨w9.heap.size, 0, none⟩ 1 (fcells y b6 d6 b7 d7) info_fact Try.underlying22 rfl ?_ ?_ (one5 y b6 d6 b7 d7) rfl HO7.out.outer ?_ HZ7.out HN72.out ?_ ?_); rfl; rfl; (intro j z hz; rw [Addr.add_lit, Nat.zero_add]; exact HX7.out.at' j z hz); (have := HN72.out; omega); (intro a8 c8 w8 hown8 hg8; have hbg : Below W3.heap.size W7 w8 := (Below.refl _ _).grown hg8 HZ7.out (fun q hq => (HO7.out.outer.lt q hq).1); have x8 := HBX.out.next hbg HX3.out.lt; have n8 := x8.at' 2 _ rfl; have f8 := x8.fz 2; have HX8 := Lib.hid x8; have HP8 := Lib.hid (HO7.out.push HR7.out hown8 hg8); have HG8 := Lib.hid hbg; clear hown8 hg8 x8 hbg))
      have hx9 := HX8.out.set 2 (.slice a8 (k + 1) c8)
      have hp9 := HP8.out.set (p := ⟨W2.heap.size, 2, none⟩) HX3.out.lt (.slice a8 (k + 1) c8)
      have hb9 : Below W2.heap.size W2 (w8.setCell ⟨W2.heap.size, 2, none⟩ (.slice a8 (k + 1) c8)) := (HBQ.out.trans ((HB7.out.mono HBQ.out.size).trans (HG8.out.mono HB3.out.size))).setCell (p := ⟨W2.heap.size, 2, none⟩) (Nat.le_refl _) _
      have hz9 : W3.heap.size ≤ (w8.setCell ⟨W2.heap.size, 2, none⟩ (.slice a8 (k + 1) c8)).heap.size := by
        simp only [World.setCell, Array.size_modify]
        exact Nat.le_trans HZ7.out HG8.out.size
      have HX9 := Lib.hid hx9
      have HP9 := Lib.hid hp9
      have HB9 := Lib.hid hb9
      have HZ9 := Lib.hid hz9
      clear hx9 hp9 hb9 hz9 n8 f8 m0 m1 m2 m3 m4 n2 hW7
      go_wp2_with fail
      go_roundw
      case rel => exact ⟨k + 1, a8, c8, vs' ++ [fcells y b6 d6 b7 d7], by omega, by go_num, HB9.out, HZ9.out, HX9.out, by rw [HT.out]; exact HP9.out⟩
      case measure => simp [intOf]; omega
    · have hke : k = n := by omega
      subst hke
      have HL : Hid (t.facts.take k = t.facts) := List.take_of_length_le (Nat.le_of_eq HNN.out)
      have m0 := hxq.out.at' 0 _ rfl
      have m1 := hxq.out.at' 1 _ rfl
      have m2 := hxq.out.at' 2 _ rfl
      have xr := HX2.out.next hbq.out HX2.out.lt
      have s0 := xr.at' 0 _ rfl
      have s1 := xr.at' 1 _ rfl
      have s2 := xr.at' 2 _ rfl
      have f0 := xr.fz 0
      have f1 := xr.fz 1
      have f2 := xr.fz 2
      have hlt1 : W1.heap.size < W3.heap.size := Nat.lt_of_lt_of_le HX2.out.lt HB3.out.size
      have HO9 := Lib.hid (((hoq.out.set (p := ⟨W1.heap.size, 0, none⟩) hlt1 (.int .i64 t.next)).set (p := ⟨W1.heap.size, 1, none⟩) hlt1 (.int .i64 t.depth)).set (p := ⟨W1.heap.size, 2, none⟩) hlt1 (.slice a' k c'))
      have hle : w.heap.size ≤ W1.heap.size := HL1.out
      have hbw : Below w.heap.size w wr := HB.out.trans (hbq.out.mono HB.out.size)
      have HBW := Lib.hid (((hbw.setCell (p := ⟨W1.heap.size, 0, none⟩) hle (.int .i64 t.next)).setCell (p := ⟨W1.heap.size, 1, none⟩) hle (.int .i64 t.depth)).setCell (p := ⟨W1.heap.size, 2, none⟩) hle (.slice a' k c'))
      have HLE : Hid (w.heap.size ≤ W3.heap.size) := Nat.le_of_lt (Nat.lt_of_le_of_lt hle hlt1)
      clear hbw hle hlt1 xr hbq hzq hxq hoq
      go_wp2_with fail
      refine bodyPost_ret (v := .agg #[.int .i64 t.next, .int .i64 t.depth, .slice a' k c']) (by simp [results, Try.results19, go_sem, s0, s1, s2]) rfl ?_
      have hfin := HO9.out
      rw [HL.out] at hfin
      exact ⟨a', c', vs', rfl, hfin.mono HLE.out, HBW.out⟩
end Fact
end Go.Proofs.Ytgbpoeidpldmkaa
