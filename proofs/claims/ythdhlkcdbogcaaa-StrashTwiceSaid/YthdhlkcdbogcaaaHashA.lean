/-
  strash's hasher: what stands for literals; what a circuit tells of; its size.
-/
import Derived.Test.YthdhlkcdbogcaaaHashG
import Derived.Test.YthdhlkcdbogcaaaStrashQ
namespace Go.Proofs.Ythdhlkcdbogcaaa
open Go.RowKit Base
set_option linter.unusedVariables false
set_option linter.unusedSimpArgs false
namespace StrashP
open Circuit GetI MapG

theorem info_intS : (Try.prog.info? 3).map (fun i => (i.zero, i.size, i.bytes)) = some (some (.int .i64 0), 1, 8) := by kernel_rfl

/-- make of none, with room. -/
theorem wpL_make0S {P : Program} {w : World} {ops : Array Oper} {rest : List Oper} {dst : Option Tmp} {ty : TypeId} {pos : String} {af : Array Edge} {a : Act} {Q : Exit → Act → World → Prop}
    {l c : Operand} {t e : TypeId} {z : Value} {bytes : Nat} (n : Nat) {C : Int}
    (hinfo : (P.info? e).map (fun i => (i.zero, i.size, i.bytes)) = some (some z, 1, bytes)) (ht : P.underlying t = some (.slice e))
    (hl : a.eval l = .int .i64 0) (hc : a.eval c = .int .i64 C) (hC : C = (n : Int)) (hn : bytes * n ≤ 281474976710656) (hn' : n ≤ 9223372036854775807)
    (hK : ∀ w1, w1.ownsRow w.heap.size e 1 (.slice (some ⟨w.heap.size, 0, none⟩) 0 n) 0 [] → Below w.heap.size w w1 → wpList P ops Q rest (a.put dst (.slice (some ⟨w.heap.size, 0, none⟩) 0 n)) w1) :
    wpList P ops Q (⟨dst, .makeSlice t l c, ty, pos, af, none⟩ :: rest) a w := by
  obtain ⟨i, hi, hz0, hz1, hz2⟩ := info_parts hinfo
  refine wpList_make_own w rfl l c t rfl w.heap.size e i z 1 ht hi hz0 hz1 .i64 .i64 C n hl hc hC (by rw [hz2]; exact hn) (by unfold maxLen; omega) (Nat.le_refl _) ?_
  intro w1 hown hg
  exact hK w1 hown ((Below.refl _ _).grown hg (Nat.le_refl _) (fun k hk => by cases hk))

theorem ints_more (f : Int → Int) {l : List Int} {k : Nat} (hk : k < l.length) : ints ((l.take (k + 1)).map f) = ints ((l.take k).map f) ++ [.int .i64 (f l[k])] := by
  unfold ints
  rw [List.take_succ_eq_append_getElem hk, List.map_append, List.map_append]
  rfl

set_option maxHeartbeats 2000000 in
theorem all_any (w : World) {B h n : Nat} {st : St} {bS bM : Nat} {aK : Option Addr} {cK : Nat} (H : HsIs w B h n st bS bM aK cK) (a : Option Addr) (c : Nat) (l : List Int) (hs : Sl w a l.length c (ints l))
    (hl : ∀ x ∈ l, 0 ≤ x ∧ x ≤ 9223372036854775807) (hfit : l.length * 8 ≤ 140737488355328) :
    Calls Try.prog 19 #[.pointer (some ⟨h, 0, none⟩), .slice a l.length c] w fun e w' =>
      ∃ a' c', e = .returned (.slice a' l.length c') ∧ w'.ownsRow w.heap.size 3 1 (.slice a' l.length c') l.length (ints (l.map (litS st.S))) ∧ Below w.heap.size w w' := by
  have HW := Lib.hid hl
  have HS := Lib.hid hs
  have H64 := Lib.hid hfit
  have HH := Lib.hid H
  have hcap := hs.cap
  have hbig := hs.big
  clear hs hl H
  generalize hn : l.length = m at *
  have HN := Lib.hid hn
  clear hn
  go_enter Try.func19, Try.ntmps19
  go_wp2_with (at_make; (with_reducible refine wpL_make0S m (C := (m : Int)) info_intS Try.underlying22 ?_ ?_ ?_ ?_ ?_ ?_); rfl; rfl; omega; omega; omega; (intro w1 hown1 hb1))
  have HO1 := Lib.hid hown1
  have HB1 := Lib.hid hb1
  clear hown1 hb1
  go_wp2_with fail
  go_loopw [5, 13] (fun s i wr => ∃ (k : Nat) (a' : Option Addr) (c' : Nat), k ≤ m ∧ i = .int .i64 k ∧ s = .slice a' k c' ∧ Hid (wr.ownsRow w.heap.size 3 1 (.slice a' k c') k (ints ((l.take k).map (litS st.S)))) ∧ Hid (Below w.heap.size w wr)) (fun _ i _ => m - (intOf i).toNat)
  case atStart => exact ⟨0, _, _, Nat.zero_le _, rfl, rfl, HO1.out, HB1.out⟩
  case round =>
    obtain ⟨k, a', c', hk, rfl, rfl, hO, hB⟩ := hrel
    by_cases hlt : k < m
    · obtain ⟨b, o, hx, hae, hbs, hc⟩ := ((HS.out).next hB.out).int hlt
      subst hae
      have HT := Lib.hid (ints_more (litS st.S) hx)
      obtain ⟨hx0, hx1⟩ := HW.out _ (List.getElem_mem hx)
      have HP := Lib.hid (lit_any wr (HH.out.next hB.out) l[k] hx0 hx1)
      clear hx0 hx1
      generalize l[k] = x at *
      generalize litS st.S x = y at *
      go_wp2_with fail
      with_reducible refine HP.out.mono ?_
      rintro e w2 ⟨rfl, q, hq⟩
      have hb2 : Below wr.heap.size wr w2 := by rw [hq]; exact below_drewN (Below.refl _ _) q
      have HO2 := Lib.hid (own_next hO.out hb2)
      have HB2 := Lib.hid (hB.out.trans (hb2.mono hB.out.size))
      clear hb2 hc hq
      go_wp2_with ((with_reducible refine wpL_push w.heap.size w2 (.int .i64 y) (.slice a' k c') k (ints ((l.take k).map (litS st.S))) info_intS Try.underlying22 rfl ?_ ?_ ?_ rfl HO2.out HB2.out.size (by have := H64.out; omega) ?_ HB2.out ?_); rfl; rfl; rfl; (have := H64.out; omega); (intro a8 c8 w8 hown8 hb8 hz8))
      have HO8 := Lib.hid hown8
      have HB8 := Lib.hid hb8
      clear hown8 hb8 hz8
      go_wp2_with fail
      go_roundw
      case rel => exact ⟨k + 1, a8, c8, by omega, by go_num, rfl, by rw [HT.out]; exact HO8.out, HB8.out⟩
      case measure => simp [intOf]; omega
    · have hke : k = m := by omega
      subst hke
      have HE : Hid (l.take k = l) := List.take_of_length_le (by have := HN.out; omega)
      rw [HE.out] at hO
      go_wp2_with fail
      go_ret
      exact ⟨_, _, rfl, hO.out, hB.out⟩

theorem ints_oneS (l : List Int) : ∀ u ∈ ints l, u.oneCell' = true := by
  intro u hu
  unfold ints at hu
  obtain ⟨y, _, rfl⟩ := List.mem_map.1 hu
  rfl

/-- append of a slice to a row of one's own, its run. -/
theorem run_app {P : Program} {e t : TypeId} {bytes : Nat} {z : Value} (hinfo : (P.info? e).map (fun i => (i.zero, i.size, i.bytes)) = some (some z, 1, bytes)) (hzs : z.cells.size = 1) (ht : P.underlying t = some (.slice e))
    (w : World) (B : Nat) {a : Option Addr} {n c : Nat} {vs : List Value} (hown : w.ownsRow B e 1 (.slice a n c) n vs) {b : Option Addr} {m d : Nat} {us : List Value} (hs : Sl w b m d us) (hu : ∀ u ∈ us, u.oneCell' = true)
    (hB : B ≤ w.heap.size) (hn : (n + m) * bytes ≤ 140737488355328) (hn' : n + m ≤ 9223372036854775807) :
    ∃ a' c' w1, (∀ ty, (Builtin.append_ #[t, t] ty #[.slice a n c, .slice b m d]).run P w = .ok (.slice a' (n + m) c') w1) ∧ w1.ownsRow B e 1 (.slice a' (n + m) c') (n + m) (vs ++ us) ∧ w.grownBy w1 (Value.slice a n c).ownBlock := by
  obtain ⟨i, hi, hz0, hz1, hz2⟩ := info_parts hinfo
  cases b with
  | none =>
    obtain ⟨rfl, rfl⟩ := hs.bare rfl
    have e0 : us = [] := List.length_eq_zero_iff.1 hs.len
    subst e0
    exact ⟨a, c, w, fun ty => run_append_owned_none w B t ty e i 1 ht hi (.slice a n c) n vs hown, by rw [List.append_nil]; exact hown, rfl, rfl, rfl, Nat.le_refl _, fun _ _ _ => rfl⟩
  | some ad =>
    have H := fun ty => run_append_own_at (P := P) w B t ty e i z 1 bytes ht hi hz0 hz1 hz2 hzs (by decide) (.slice a n c) n vs hown ad m d us (by rw [hs.len]; omega)
      (fun j u hj => by
        obtain ⟨b, o, ha, _, hc⟩ := hs.cell j u hj
        simp only [Option.some.injEq] at ha
        subst ha
        rw [Addr.add_lit]
        exact hc) hu (by unfold maxLen; omega) hn hB
    obtain ⟨v', w1, hr, hown', hg, _, _⟩ := H 3
    obtain ⟨a', c', rfl, _⟩ := own_sl hown'
    exact ⟨a', c', w1, fun ty => hr, hown', hg⟩

theorem nexts_more {l : List Tri} {k : Nat} (hk : k < l.length) : ints ((l.take (k + 1)).map (·.2.1)) = ints ((l.take k).map (·.2.1)) ++ [.int .i64 l[k].2.1] := by
  unfold ints
  rw [List.take_succ_eq_append_getElem hk, List.map_append, List.map_append]
  rfl

set_option maxRecDepth 8000 in
set_option maxHeartbeats 4000000 in
theorem told_any (w : World) (x : Circ) (p : At) (hin : InCirc w x p) (hfit : (x.lats.length + x.outs.length + x.bads.length + x.invs.length) * 8 ≤ 140737488355328) :
    Calls Try.prog 21 #[.agg (cells x p)] w fun e w' => ∃ a' c', e = .returned (.slice a' (told x).length c') ∧ w'.ownsRow w.heap.size 3 1 (.slice a' (told x).length c') (told x).length (ints (told x)) ∧ Below w.heap.size w w' := by
  obtain ⟨W1, hW1⟩ : ∃ U, w.alloc (.cells (cells x p) 27) = U := ⟨_, rfl⟩
  obtain ⟨hb1, hx1⟩ := cbox_new w x p W1 hW1
  have HIN := Lib.hid (hin.next hb1)
  have HLA := Lib.hid (hin.next hb1).lats
  have hcap := (hin.next hb1).lats.cap
  have hbig := (hin.next hb1).lats.big
  have HX := Lib.hid hx1
  have HB1 := Lib.hid hb1
  have H64 := Lib.hid hfit
  have hTL : (told x).length = x.lats.length + x.outs.length + x.bads.length + x.invs.length := by unfold told; simp; omega
  have hTI : ints (told x) = ints (x.lats.map (·.2.1)) ++ ints x.outs ++ ints x.bads ++ ints x.invs := by unfold told ints; simp
  have HTL := Lib.hid hTL
  have HTI := Lib.hid hTI
  obtain ⟨a1, c1, a2, c2, a3, c3, a4, c4, a5, c5, a6, c6, a7, c7⟩ := p
  obtain ⟨_, k0, k1, k2, k3, k4, k5, k6, k7⟩ := hx1
  simp only [cells] at *
  clear hin hb1 hfit hTL hTI k0 k1 k3 k4 k5 k6 k7
  go_enter Try.func21, Try.ntmps21
  go_wp2_with fail
  clear k2 hW1
  go_loopw [3, 9] (fun s i wr => ∃ (k : Nat) (a' : Option Addr) (c' : Nat), k ≤ x.lats.length ∧ i = .int .i64 k ∧ s = .slice a' k c' ∧ Hid (wr.ownsRow W1.heap.size 3 1 (.slice a' k c') k (ints ((x.lats.take k).map (·.2.1)))) ∧ Hid (Below W1.heap.size W1 wr)) (fun _ i _ => x.lats.length - (intOf i).toNat)
  case atStart => exact ⟨0, _, _, Nat.zero_le _, rfl, rfl, World.ownsRow_nil _ _ _ _, Below.refl _ _⟩
  case round =>
    obtain ⟨k, a', c', hk, rfl, rfl, hO, hB⟩ := hrel
    by_cases hlt : k < x.lats.length
    · obtain ⟨b, o, hx, rfl, hbs, hc0, hc1, hc2⟩ := HLA.out.tri hlt
      have d0 := (hB.out.cell (p := ⟨b, o + k * 3, none⟩) hbs).trans hc0
      have d1 := (hB.out.cell (p := ⟨b, o + k * 3 + 1, none⟩) hbs).trans hc1
      have d2 := (hB.out.cell (p := ⟨b, o + k * 3 + 2, none⟩) hbs).trans hc2
      have HT := Lib.hid (nexts_more hx)
      clear hc0 hc1 hc2
      generalize x.lats[k] = t at *
      obtain ⟨U, hU⟩ : ∃ U, wr.alloc (.cells (triC t) 39) = U := ⟨_, rfl⟩
      obtain ⟨hbU, htb⟩ := tbox_new wr t 39 U hU
      have t1 := htb.t1
      have HO2 := Lib.hid (own_next hO.out hbU)
      have HB2 := Lib.hid (hB.out.trans (hbU.mono hB.out.size))
      simp only [triC] at hU
      clear hbU htb hO hB
      go_wp2_with ((with_reducible refine wpL_push W1.heap.size U (.int .i64 t.2.1) (.slice a' k c') k (ints ((x.lats.take k).map (·.2.1))) info_intS Try.underlying22 rfl ?_ ?_ ?_ rfl HO2.out HB2.out.size (by have := H64.out; omega) ?_ HB2.out ?_); rfl; rfl; rfl; (have := H64.out; omega); (intro a8 c8 w8 hown8 hb8 hz8))
      have HO8 := Lib.hid hown8
      have HB8 := Lib.hid hb8
      clear hown8 hb8 hz8
      go_wp2_with fail
      go_roundw
      case rel => exact ⟨k + 1, a8, c8, by omega, by go_num, rfl, by rw [HT.out]; exact HO8.out, HB8.out⟩
      case measure => simp [intOf]; omega
    · have hke : k = x.lats.length := by omega
      subst hke
      have hO' : wr.ownsRow W1.heap.size 3 1 (.slice a' x.lats.length c') x.lats.length (ints (x.lats.map (·.2.1))) := by
        have h := hO.out
        rw [List.take_length] at h
        exact h
      have hXr := HX.out.next hB.out (Nat.le_refl _)
      have j3 := hXr.k3
      have j4 := hXr.k4
      have j5 := hXr.k5
      have hi := HIN.out.next hB.out.drew
      have h64 := H64.out
      obtain ⟨A1, C1, w1, r1, o1, g1⟩ := run_app info_intS rfl Try.underlying22 wr.drew W1.heap.size (own_next hO' ((Below.refl _ _).drew)) hi.outs (ints_oneS _) hB.out.drew.size (by omega) (by omega)
      have b1 : Below W1.heap.size W1 w1 := hB.out.drew.grown g1 hB.out.drew.size (fun k hk => ((own_next hO' ((Below.refl _ _).drew)).lt k hk).1)
      obtain ⟨A2, C2, w2, r2, o2, g2⟩ := run_app info_intS rfl Try.underlying22 w1 W1.heap.size o1 (HIN.out.next b1).bads (ints_oneS _) b1.size (by omega) (by omega)
      have b2 : Below W1.heap.size W1 w2 := b1.grown g2 b1.size (fun k hk => (o1.lt k hk).1)
      obtain ⟨A3, C3, w3, r3, o3, g3⟩ := run_app info_intS rfl Try.underlying22 w2 W1.heap.size o2 (HIN.out.next b2).invs (ints_oneS _) b2.size (by omega) (by omega)
      have b3 : Below W1.heap.size W1 w3 := b2.grown g3 b2.size (fun k hk => (o2.lt k hk).1)
      have i4 := (HX.out.next b1 (Nat.le_refl _)).k4
      have i5 := (HX.out.next b1 (Nat.le_refl _)).k5
      have l5 := (HX.out.next b2 (Nat.le_refl _)).k5
      have HO3 := Lib.hid o3
      have HB3 := Lib.hid b3
      clear hO' hXr hi h64 o1 o2 o3 g1 g2 g3 b1 b2 b3 hO hB
      go_wp2_with fail
      go_region_law (first | (refine step_runS (w := wr.drew) rfl rfl rfl rfl r1 ?_) | (refine step_runS (w := w1) rfl rfl rfl rfl r2 ?_) | (refine step_runS (w := w2) rfl rfl rfl rfl r3 ?_))
      all_goals
        go_wp2_with fail
        go_ret
        exact ⟨A3, C3, by rw [HTL.out]; rfl, by rw [HTL.out, HTI.out]; exact own_mono HO3.out HB1.out.size, HB1.out.trans (HB3.out.mono HB1.out.size)⟩

theorem size_any (w : World) (x : Circ) (p : At) : Calls Try.prog 13 #[.agg (cells x p)] w fun e w' => e = .returned (.int .i64 x.ands.length) ∧ Below w.heap.size w w' := by
  obtain ⟨W1, hW1⟩ : ∃ U, w.alloc (.cells (cells x p) 27) = U := ⟨_, rfl⟩
  obtain ⟨hb1, hx1⟩ := cbox_new w x p W1 hW1
  have HB1 := Lib.hid hb1
  have k6 := hx1.k6
  obtain ⟨a1, c1, a2, c2, a3, c3, a4, c4, a5, c5, a6, c6, a7, c7⟩ := p
  simp only [cells] at *
  clear hb1 hx1
  go_enter Try.func13, Try.ntmps13
  go_wp2_with fail
  go_ret
  exact ⟨rfl, HB1.out⟩
end StrashP
end Go.Proofs.Ythdhlkcdbogcaaa
