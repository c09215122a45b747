/-
  Several texts in one (written by merge2.py): XEnumR XEnumC XOwnP XEnumD XEnumE XEnumG XEnumH XMix XEnumI XLitsCheck
-/
import Derived.Test.YtjmmhbmbafjneaaGreatDoorEnumTM3
import Derived.Test.YtjmmhbmbafjneaaGreatDoorEnumTM1
import Derived.Sort.Walk0
import Derived.Shelf.SlSortCmp.Whole1
import Derived.Test.YtjmmhbmbafjneaaGreatDoorLaws
import Derived.Sort.Grow
import Derived.Shelf.SlSortCmp.NoneTotal
import Derived.Shelf.SlGeneric
import Derived.Ground.SlsfProg
import Derived.WalkMore
import Derived.Shelf.SlicesE.Reverse
import Derived.Ground.SlgnProg
import Derived.Test.YtjmmhbmbafjneaaGreatDoorGateP
import Derived.Test.YtjmmhbmbafjneaaGreatDoorSlfI
import Derived.Test.YtjmmhbmbafjneaaGreatDoorLex
import Derived.Laws.EntriesVeiled
import Derived.Deep.DeepCutAuto
/-
  enum.small, enum.Reach; the law's alive; interlockplain.Texts.
-/
namespace Go.Proofs.YtjmmhbmbafjneaaGreatDoor
open Go.RowKit Base Go.Maps
set_option linter.unusedVariables false
set_option linter.unusedSimpArgs false
namespace EnumW
open Circuit BadP StrashP SimV EnumA EnumP GetI MapG Coi

noncomputable def smallE (x : Circ) : Int := if tt (CheckOk x) = true then (if 10 < x.lats.length ∨ 10 < x.ins.length then 5 else 0) else 9
theorem small_no {x : Circ} (h : ¬ CheckOk x) : smallE x = 9 := by unfold smallE; rw [tt_neg h]; rfl
theorem small_long {x : Circ} (h : CheckOk x) (h2 : 10 < x.lats.length ∨ 10 < x.ins.length) : smallE x = 5 := by unfold smallE; rw [tt_pos h, if_pos rfl, if_pos h2]
theorem small_ok {x : Circ} (h : CheckOk x) (h1 : x.lats.length ≤ 10) (h2 : x.ins.length ≤ 10) : smallE x = 0 := by unfold smallE; rw [tt_pos h, if_pos rfl, if_neg (by omega)]

set_option maxRecDepth 4000 in
set_option maxHeartbeats 2000000 in
theorem small_any (w : World) (x : Circ) (p : At) (hin : InCirc w x p) (hw : WfC x) :
    Calls Tryz.prog 25 #[.agg (cells x p)] w fun e w2 => e = .returned (.int .i64 (smallE x)) ∧ Below w.heap.size w w2 := by
  obtain ⟨W1, hW1⟩ : ∃ U, w.alloc (.cells (cells x p) 27) = U := ⟨_, rfl⟩
  obtain ⟨hb1, hx1⟩ := cbox_new w x p W1 hW1
  have HC := check_any W1 x _ (hin.next hb1) hw.ins hw.outs hw.bads hw.invs hw.lats hw.ands hw.mx
  have HB1 := Lib.hid hb1
  have HCB := Lib.hid (fun (U : World) (hU : Below W1.heap.size W1 U) => hx1.next hU (Nat.le_refl _))
  have c0 := hx1.k0
  have c1 := hx1.k1
  have c2 := hx1.k2
  have c3 := hx1.k3
  have c4 := hx1.k4
  have c5 := hx1.k5
  have c6 := hx1.k6
  have c7 := hx1.k7
  have hcI := hin.ins.cap
  have hgI := hin.ins.big
  have hcL := hin.lats.cap
  have hgL := hin.lats.big
  obtain ⟨a1, b1, a2, b2, a3, b3, a4, b4, a5, b5, a6, b6, a7, b7⟩ := p
  simp only [cells] at *
  by_cases hk : CheckOk x
  · rw [chk_pos hk] at HC
    have HC := Lib.hid HC
    have HK : Hid (CheckOk x) := hk
    clear hin hb1 hx1 hw hk
    go_enter Tryz.func25, Tryz.ntmps25
    go_wp2_with fail
    clear hW1
    with_reducible refine HC.out.mono ?_
    rintro e w2 ⟨rfl, hb2⟩
    have k1 := (HCB.out w2 hb2).k1
    have k2 := (HCB.out w2 hb2).k2
    try simp only at k1 k2
    have HB2 := Lib.hid (HB1.out.trans (hb2.mono HB1.out.size))
    clear c0 c1 c2 c3 c4 c5 c6 c7 hb2
    by_cases h1 : 10 < x.lats.length
    · have h1I : (10 : Int) < (x.lats.length : Int) := by omega
      have HE := Lib.hid (small_long HK.out (Or.inl h1))
      clear h1
      go_wp2_with fail
      go_ret
      exact ⟨by rw [HE.out]; rfl, HB2.out⟩
    · have h1I : ¬ (10 : Int) < (x.lats.length : Int) := by omega
      by_cases h2 : 10 < x.ins.length
      · have h2I : (10 : Int) < (x.ins.length : Int) := by omega
        have HE := Lib.hid (small_long HK.out (Or.inr h2))
        clear h1 h2
        go_wp2_with fail
        go_ret
        exact ⟨by rw [HE.out]; rfl, HB2.out⟩
      · have h2I : ¬ (10 : Int) < (x.ins.length : Int) := by omega
        have HE := Lib.hid (small_ok HK.out (by omega) (by omega))
        clear h1 h2
        go_wp2_with fail
        go_ret
        exact ⟨by rw [HE.out]; rfl, HB2.out⟩
  · rw [chk_neg hk] at HC
    have HC := Lib.hid HC
    have HE := Lib.hid (small_no hk)
    clear hin hb1 hx1 hw hk
    go_enter Tryz.func25, Tryz.ntmps25
    go_wp2_with fail
    clear hW1
    with_reducible refine HC.out.mono ?_
    rintro e w2 ⟨rfl, hb2⟩
    have HB2 := Lib.hid (HB1.out.trans (hb2.mono HB1.out.size))
    clear c0 c1 c2 c3 c4 c5 c6 c7 hb2
    go_wp2_with fail
    go_ret
    exact ⟨by rw [HE.out]; rfl, HB2.out⟩

/-- In how many steps. -/
def stepO (O : Ord) (s : List Bool) : Int := (getI (tbl O) s).getD 0
theorem txt_encs (O : Ord) : txt (O.map (·.1)) = ValsS.encs (O.map fun e => oct e.1) := by
  unfold txt ValsS.encs
  rw [List.map_map, List.map_map]; rfl
theorem encs_txt (L : List (List Bool)) : ValsS.encs (L.map oct) = txt L := by
  unfold txt ValsS.encs
  rw [List.map_map]; rfl
theorem info_iR : (Tryz.prog.info? 3).map (fun i => (i.zero, i.size, i.bytes)) = some (some (.int .i64 0), 1, 8) := by kernel_rfl

set_option maxRecDepth 4000 in
set_option maxHeartbeats 4000000 in
theorem reach_no (w : World) (x : Circ) (p : At) (hin : InCirc w x p) (hw : WfC x) (vA : Value) (hne : smallE x ≠ 0) :
    Calls Tryz.prog 11 #[.agg (cells x p), vA] w fun e w2 => e = .returned (.tuple #[.slice none 0 0, .slice none 0 0, .int .i64 (smallE x)]) ∧ Below w.heap.size w w2 := by
  obtain ⟨W1, hW1⟩ : ∃ U, w.alloc (.cells (cells x p) 27) = U := ⟨_, rfl⟩
  obtain ⟨hb1, hx1⟩ := cbox_new w x p W1 hW1
  have HC := Lib.hid (small_any W1 x _ (hin.next hb1) hw)
  have HB1 := Lib.hid hb1
  have c0 := hx1.k0
  have c1 := hx1.k1
  have c2 := hx1.k2
  have c3 := hx1.k3
  have c4 := hx1.k4
  have c5 := hx1.k5
  have c6 := hx1.k6
  have c7 := hx1.k7
  obtain ⟨a1, b1, a2, b2, a3, b3, a4, b4, a5, b5, a6, b6, a7, b7⟩ := p
  simp only [cells] at *
  generalize smallE x = er at *
  have hne2 : (er != 0) = true := by simpa using hne
  clear hin hb1 hx1 hw
  go_enter Tryz.func11, Tryz.ntmps11
  go_wp2_with fail
  clear hW1
  with_reducible refine HC.out.mono ?_
  rintro e w2 ⟨rfl, hb2⟩
  have HB2 := Lib.hid (HB1.out.trans (hb2.mono HB1.out.size))
  clear c0 c1 c2 c3 c4 c5 c6 c7 hb2
  go_wp2_with fail
  refine bodyPost_ret (v := .tuple #[.slice none 0 0, .slice none 0 0, .int .i64 er]) (by simp [results, Tryz.results11, go_sem]) rfl ⟨rfl, HB2.out⟩

set_option maxRecDepth 8000 in
set_option maxHeartbeats 16000000 in
theorem reach_ok (w : World) (x : Circ) (p : At) (hin : InCirc w x p) (hw : WfC x) (hok : CheckOk x) (hl : x.lats.length ≤ 10) (hi10 : x.ins.length ≤ 10) (aA : Option Addr) (nA cA : Nat)
    (vs : List Value) (A : List (List Int)) (hA : Sl2 w aA nA cA vs A) (hA64 : ∀ y ∈ A.flatten, -9223372036854775808 ≤ y ∧ y ≤ 9223372036854775807) :
    Calls Tryz.prog 11 #[.agg (cells x p), .slice aA nA cA] w fun e w2 => ∃ O n a c a2 c2, Known x A O ∧ (sortedO x.lats.length O).length = n ∧ n ≤ 1024 ∧ e = .returned (.tuple #[.slice a n c, .slice a2 n c2, .int .i64 0]) ∧
      w2.ownsRow w.heap.size 9 1 (.slice a n c) n (txt (sortedO x.lats.length O)) ∧ w2.ownsRow w.heap.size 3 1 (.slice a2 n c2) n (ints ((sortedO x.lats.length O).map (stepO O))) ∧ Below w.heap.size w w2 := by
  obtain ⟨W1, hW1⟩ : ∃ U, w.alloc (.cells (cells x p) 27) = U := ⟨_, rfl⟩
  obtain ⟨hb1, hx1⟩ := cbox_new w x p W1 hW1
  have HC := small_any W1 x _ (hin.next hb1) hw
  rw [small_ok hok hl hi10] at HC
  have HC := Lib.hid HC
  have HWK := Lib.hid (fun (U : World) (hU : Below W1.heap.size W1 U) => walked_any U x p ((hin.next hb1).next hU) hw hok hl hi10 aA nA cA vs A ((hA.next hb1).next hU) hA64)
  have HLK : Hid (∀ s : List Bool, s.length = x.lats.length → okK s) := fun s hs => by show _ ≤ _; omega
  have HB1 := Lib.hid hb1
  have HCB := Lib.hid (fun (U : World) (hU : Below W1.heap.size W1 U) => hx1.next hU (Nat.le_refl _))
  have c0 := hx1.k0
  have c1 := hx1.k1
  have c2 := hx1.k2
  have c3 := hx1.k3
  have c4 := hx1.k4
  have c5 := hx1.k5
  have c6 := hx1.k6
  have c7 := hx1.k7
  obtain ⟨a1, b1, a2, b2, a3, b3, a4, b4, a5, b5, a6, b6, a7, b7⟩ := p
  simp only [cells] at *
  clear hin hb1 hx1 hw hok hl hi10 hA hA64
  go_enter Tryz.func11, Tryz.ntmps11
  go_wp2_with fail
  clear hW1
  with_reducible refine HC.out.mono ?_
  rintro e w2 ⟨rfl, hb2⟩
  have hc := HCB.out w2 hb2
  have k0 := hc.k0
  have k1 := hc.k1
  have k2 := hc.k2
  have k3 := hc.k3
  have k4 := hc.k4
  have k5 := hc.k5
  have k6 := hc.k6
  have k7 := hc.k7
  try simp only at k0 k1 k2 k3 k4 k5 k6 k7
  have HB2 := Lib.hid hb2
  have HW2 := Lib.hid (HWK.out w2 hb2)
  clear c0 c1 c2 c3 c4 c5 c6 c7 hb2 hc HWK HC
  go_wp2_with fail
  with_reducible refine HW2.out.mono ?_
  rintro e w3 ⟨B1, N, b, O, aO, cO, rfl, hkn, hwi, hOl, hsm, hN, hb, hb3⟩
  have c10 := hwi.box.at' 10 _ rfl
  have hlen : ∀ e ∈ O, e.1.length = x.lats.length := fun e he => R_len (hkn.sound e he)
  have hmo := merge_oct hkn.nodup hlen
  have hsl : (sortedO x.lats.length O).length = O.length := by
    have h := congrArg List.length hmo
    rw [List.length_mergeSort, List.length_map, List.length_map] at h
    exact h.symm
  obtain ⟨W4, hW4⟩ : ∃ U, w3.alloc (.cells #[.slice aO O.length cO] 30) = U := ⟨_, rfl⟩
  have hb4 : Below w3.heap.size w3 W4 := by rw [← hW4]; exact (Below.refl _ _).alloc (Nat.le_refl _) _
  have hvl := ValsS.values_any w3 aO O.length cO
  rw [hW4] at hvl
  have hst := ValsS.sorted_any W4 w3.heap.size aO O.length cO (O.map fun e => oct e.1) (by rw [← hW4]; simp) (by rw [← hW4]; simp [go_sem]) (by have h := (own_sl' hwi.own).next hb4; rw [txt_encs] at h; exact h) (by omega)
  rw [hmo, encs_txt, List.length_map] at hst
  have HVL := Lib.hid hvl
  have HST := Lib.hid hst
  have HKN := Lib.hid hkn
  have HSL := Lib.hid hsl
  have HOL := Lib.hid hOl
  have HW4 := Lib.hid (hwi.next hb4)
  have hb24 := HB2.out.trans ((hb3.trans (hb4.mono hb3.size)).mono HB2.out.size)
  have HB4 := Lib.hid hb24
  have hcO := (own_sl' hwi.own).cap
  have hgO := (own_sl' hwi.own).big
  clear hkn hwi hOl hsm hN hb hb3 hlen hmo hsl hb4 hvl hst hb24 hW4 k0 k1 k2 k3 k4 k5 k6 k7 HW2
  obtain ⟨n, hn⟩ : ∃ n, O.length = n := ⟨_, rfl⟩
  rw [hn] at c10 HVL HST HSL HOL hcO
  clear hn
  go_wp2_with fail
  clear c10
  with_reducible refine HVL.out.mono ?_
  rintro e w5 ⟨rfl, rfl⟩
  go_wp2_with fail
  with_reducible refine HST.out.mono ?_
  rintro e w6 ⟨aS, cS, rfl, ho6, hb6⟩
  have HW6 := Lib.hid (HW4.out.next hb6)
  have HO6 := Lib.hid ho6
  have HB6 := Lib.hid (HB4.out.trans (hb6.mono HB4.out.size))
  have hcS := (own_sl' ho6).cap
  have hgS := (own_sl' ho6).big
  have HGE : Hid (W1.heap.size ≤ w5.heap.size) := HB4.out.size
  clear ho6 hb6 HW4 HST HVL
  obtain ⟨T, hT⟩ : ∃ T, sortedO x.lats.length O = T := ⟨_, rfl⟩
  have HTM : Hid (∀ s ∈ T, s.length = x.lats.length) := fun s hs => by
    rw [← hT] at hs
    unfold sortedO at hs
    exact all_mem.1 (List.mem_filter.1 hs).1
  have HTE := Lib.hid hT
  rw [hT] at HO6 HSL
  clear hT
  have hn1 := HOL.out
  go_wp2_with fail
  go_loopw [10, 29] (fun u j wr => ∃ (k : Nat) (a : Option Addr) (c : Nat), k ≤ n ∧ j = .int .i64 k ∧ u = .slice a k c ∧ Hid (wr.ownsRow w6.heap.size 3 1 (.slice a k c) k (ints ((T.take k).map (stepO O)))) ∧ Hid (Below w6.heap.size w6 wr)) (fun _ j _ => n - (Go.RowKit.intOf j).toNat)
  case atStart => exact ⟨0, none, 0, Nat.zero_le _, rfl, rfl, World.ownsRow_nil _ _ _ _, Below.refl _ _⟩
  case round =>
    obtain ⟨k, a, c, hk, rfl, rfl, hO, hB⟩ := hrel
    generalize wr = ws at *
    by_cases hlt : k < n
    · obtain ⟨bi, oi, hx, hae, hbs, d0⟩ := txt_at ((own_sl' HO6.out).next hB.out) hlt
      try simp only at hae
      subst hae
      have c9 := (HW6.out.next hB.out).box.at' 9 _ rfl
      try simp only at c9
      have hlk := (HW6.out.next hB.out).map.look1 (T := 67) kindS Tryz.underlying67 Tryz.underlying3 (zeroI ws) (x := T[k]) (HLK.out _ (HTM.out _ (List.getElem_mem hx)))
      have hlk2 : (Instr.lookup 67 (.map (some b)) (.string (bs T[k])) false).run Tryz.prog ws = .ok (.int .i64 (stepO O T[k])) ws := hlk
      have HNX : Hid (ints ((T.take (k + 1)).map (stepO O)) = ints ((T.take k).map (stepO O)) ++ [.int .i64 (stepO O T[k])]) := by
        show _ = _
        rw [List.take_succ_eq_append_getElem hx, List.map_append]
        unfold ints
        rw [List.map_append]; rfl
      generalize stepO O T[k] = z at *
      generalize bs T[k] = ss at *
      have hown := hO.out
      have hbb := hB.out
      have hsz := hB.out.size
      clear hlk hO hB hx
      go_wp2_with ((with_reducible refine wpL_push (B := w6.heap.size) _ (.int .i64 z) _ k (ints ((T.take k).map (stepO O))) info_iR Tryz.underlying22 ?_ ?_ ?_ ?_ ?_ hown ?_ ?_ ?_ hbb ?_); rfl; rfl; rfl; rfl; rfl; (exact hsz); omega; omega; (intro a5 c5 w7 hown7 hb7 hs7))
      have HO7 : Hid (w7.ownsRow w6.heap.size 3 1 (.slice a5 (k + 1) c5) (k + 1) (ints ((T.take (k + 1)).map (stepO O)))) := by show World.ownsRow _ _ _ _ _ _ _; rw [HNX.out]; exact hown7
      have HB7 := Lib.hid hb7
      clear hown hbb hsz hown7 hb7 hs7 hlk2 c9 d0
      go_roundw
      case rel => exact ⟨k + 1, a5, c5, by omega, by go_num, rfl, HO7.out, HB7.out⟩
      case measure => simp [Go.RowKit.intOf]; omega
    · have hend : k = n := by omega
      subst hend
      have HO2 : Hid (ws.ownsRow w6.heap.size 3 1 (.slice a k c) k (ints (T.map (stepO O)))) := by
        have h := hO.out
        rwa [List.take_of_length_le (Nat.le_of_eq HSL.out)] at h
      have HBE := Lib.hid hB.out
      clear hO hB
      go_wp2_with fail
      refine bodyPost_ret (v := .tuple #[.slice aS k cS, .slice a k c, .int .i64 0]) (by simp [results, Tryz.results11, go_sem]) rfl ?_
      refine ⟨O, k, aS, cS, a, c, HKN.out, ?_, hn1, rfl, ?_, ?_, ?_⟩
      · rw [HTE.out]; exact HSL.out
      · rw [HTE.out]
        exact own_mono (own_next HO6.out HBE.out) (Nat.le_trans HB1.out.size HGE.out)
      · rw [HTE.out]
        exact own_mono HO2.out (Nat.le_trans HB1.out.size HB6.out.size)
      · exact HB1.out.trans ((HB6.out.trans (HBE.out.mono HB6.out.size)).mono HB1.out.size)
end EnumW
end Go.Proofs.YtjmmhbmbafjneaaGreatDoor

/-
  cmp.Compare at texts of bits; the order in which enum looks for a Bad (written by enumc.py).
-/
namespace Go.Proofs.YtjmmhbmbafjneaaGreatDoor
open Go.RowKit Base Go.Maps
set_option linter.unusedVariables false
set_option linter.unusedSimpArgs false
namespace EnumC
open Circuit BadP StrashP SimV EnumA EnumP GetI MapG Coi EnumW Order

theorem isNaN_any (s : ByteArray) (w : World) :
    Calls Tryz.prog 86 #[.string s] w fun e w' => e = .returned (.bool false) ∧ w = w' := by
  go_enter Tryz.func86, Tryz.ntmps86
  go_wp2
  go_ret
  exact ⟨ret_bool (by simp), rfl⟩

noncomputable def cmpS (a b : List Bool) : Int := if oct a < oct b then -1 else if oct b < oct a then 1 else 0
theorem bs_oct (a : List Bool) : (bs a).toList = oct a := by rw [Lib.toList_data, bs_list]; rfl
theorem oct_total {a b : List Bool} (h1 : ¬ oct a < oct b) (h2 : ¬ oct b < oct a) : a = b := oct_inj (List.le_antisymm h2 h1)
theorem compare_any (a b : List Bool) (w : World) :
    Calls Tryz.prog 61 #[.string (bs a), .string (bs b)] w fun e w' => e = .returned (.int .i64 (cmpS a b)) ∧ w = w' := by
  have N1 := Lib.hid (isNaN_any (bs a) w)
  have N2 := Lib.hid (isNaN_any (bs b) w)
  have hl : Op.bytesLess (bs a).toList (bs b).toList = decide (oct a < oct b) := by rw [bytesLess_eq, bs_oct, bs_oct]
  have he := bs_eq a b
  have HC : Hid (cmpS a b = if oct a < oct b then -1 else if oct b < oct a then 1 else 0) := rfl
  by_cases h1 : oct a < oct b
  · have e : cmpS a b = -1 := by rw [HC.out, if_pos h1]
    have E := Lib.hid e
    rw [decide_eq_true h1] at hl
    generalize bs a = sa at *
    generalize bs b = sb at *
    clear e he h1 HC
    go_enter Tryz.func61, Tryz.ntmps61
    go_wp2_with fail
    refine N1.out.mono ?_; rintro e w1 ⟨rfl, rfl⟩
    go_wp2_with fail
    refine N2.out.mono ?_; rintro e w1 ⟨rfl, rfl⟩
    go_wp2_with fail
    go_ret
    exact ⟨ret_int E.out.symm, rfl⟩
  · rw [decide_eq_false h1] at hl
    by_cases h2 : oct b < oct a
    · have e : cmpS a b = 1 := by rw [HC.out, if_neg h1, if_pos h2]
      have E := Lib.hid e
      have hne : ¬ a = b := fun e => by subst e; exact absurd h2 (List.lt_irrefl _)
      rw [decide_eq_false hne] at he
      generalize bs a = sa at *
      generalize bs b = sb at *
      clear e h1 h2 hne HC
      go_enter Tryz.func61, Tryz.ntmps61
      go_wp2_with fail
      refine N1.out.mono ?_; rintro e w1 ⟨rfl, rfl⟩
      go_wp2_with fail
      refine N2.out.mono ?_; rintro e w1 ⟨rfl, rfl⟩
      go_wp2_with fail
      go_ret
      exact ⟨ret_int E.out.symm, rfl⟩
    · have e : cmpS a b = 0 := by rw [HC.out, if_neg h1, if_neg h2]
      have E := Lib.hid e
      rw [decide_eq_true (oct_total h1 h2)] at he
      generalize bs a = sa at *
      generalize bs b = sb at *
      clear e h1 h2 HC
      go_enter Tryz.func61, Tryz.ntmps61
      go_wp2_with fail
      refine N1.out.mono ?_; rintro e w1 ⟨rfl, rfl⟩
      go_wp2_with fail
      refine N2.out.mono ?_; rintro e w1 ⟨rfl, rfl⟩
      go_wp2_with fail
      go_ret
      exact ⟨ret_int E.out.symm, rfl⟩

/-- Of two states: fewer steps, then the text. -/
noncomputable def cfO (O : Ord) (a b : List Bool) : Int := if cmpI (stepO O a) (stepO O b) ≠ 0 then cmpI (stepO O a) (stepO O b) else cmpS a b
def ltO (O : Ord) (a b : List Bool) : Prop := stepO O a < stepO O b ∨ (stepO O a = stepO O b ∧ oct a < oct b)
theorem cfO_lt (O : Ord) (a b : List Bool) : cfO O a b < 0 ↔ ltO O a b := by
  unfold cfO ltO
  by_cases h : stepO O a = stepO O b
  · rw [if_neg (fun h' => h' ((cmp_zero _ _).2 h))]
    unfold cmpS
    constructor
    · intro h2
      split at h2
      · exact .inr ⟨h, by assumption⟩
      · split at h2 <;> omega
    · rintro (h2 | ⟨_, h2⟩)
      · omega
      · rw [if_pos h2]; decide
  · rw [if_pos (by rw [ne_eq, cmp_zero]; exact h), cmp_lt]
    exact ⟨.inl, fun h' => by rcases h' with h' | h' <;> omega⟩

set_option maxRecDepth 4000 in
set_option maxHeartbeats 4000000 in
theorem found1_any (U : World) (Nb N m n : Nat) (O : Ord) (hpl : Nb < U.heap.size) (hml : N < U.heap.size) (hp : U.cell? ⟨Nb, 0, none⟩ = some (.pointer (some ⟨N, 0, none⟩))) (hm : U.cell? ⟨N, 9, none⟩ = some (.map (some m))) (hM : MapS U m n (tbl O)) (a b : List Bool) (ha : a.length ≤ 1000) (hb : b.length ≤ 1000) :
    Calls Tryz.prog 58 #[.string (bs a), .string (bs b), .pointer (some ⟨Nb, 0, none⟩)] U fun e w' => e = .returned (.int .i64 (cfO O a b)) ∧ ∃ q os', w' = Sort.grow (U.drewN q) os' := by
  have hla := fun (V : World) (h : MapS V m n (tbl O)) => h.look1 (T := 67) kindS Tryz.underlying67 Tryz.underlying3 (zeroI V) (x := a) ha
  have hlb := fun (V : World) (h : MapS V m n (tbl O)) => h.look1 (T := 67) kindS Tryz.underlying67 Tryz.underlying3 (zeroI V) (x := b) hb
  have hMd : MapS U.drew m n (tbl O) := hM.next ((Below.refl _ _).drew)
  have HO : Hid (cfO O a b = if cmpI (stepO O a) (stepO O b) ≠ 0 then cmpI (stepO O a) (stepO O b) else cmpS a b) := rfl
  have C1 := Lib.hid (Order.compare_any (stepO O a) (stepO O b) U.drew)
  have C2 := Lib.hid (compare_any a b U.drew)
  have hSK : ∀ V : World, Below U.heap.size U V → V.cell? ⟨Nb, 0, none⟩ = some (.pointer (some ⟨N, 0, none⟩)) ∧ V.cell? ⟨N, 9, none⟩ = some (.map (some m)) ∧ (Instr.lookup 67 (.map (some m)) (.string (bs a)) false).run Tryz.prog V = .ok (.int .i64 (stepO O a)) V ∧ (Instr.lookup 67 (.map (some m)) (.string (bs b)) false).run Tryz.prog V = .ok (.int .i64 (stepO O b)) V := fun V h => ⟨(h.cell (p := ⟨Nb, 0, none⟩) hpl).trans hp, (h.cell (p := ⟨N, 9, none⟩) hml).trans hm, hla V (hM.next h), hlb V (hM.next h)⟩
  generalize cfO O a b = r at *
  generalize cmpI (stepO O a) (stepO O b) = c1 at *
  generalize cmpS a b = c2 at *
  generalize stepO O a = za at *
  generalize stepO O b = zb at *
  generalize bs a = sa at *
  generalize bs b = sb at *
  have OR := Lib.hid (Order.or_any (U.drew.alloc (.cells #[.int .i64 c1, .int .i64 c2] 3)) (some ⟨U.drew.heap.size, 0, none⟩) 2 c1 c2 (sl_new U.drew #[.int .i64 c1, .int .i64 c2] 3 2 rfl (by decide)))
  have b00 : Below U.heap.size U U.drew := (Below.refl _ _).drew
  have hS0 := hSK _ b00
  obtain ⟨r2, hr2⟩ : ∃ q, (if c1 ≠ 0 then c1 else c2) = q := ⟨_, rfl⟩
  have HR2 : Hid (r = r2) := HO.out.trans hr2
  rw [hr2] at OR
  clear hr2 HO
  obtain ⟨u1, hu1⟩ : ∃ V, U.drew.alloc (.cells #[.int .i64 c1, .int .i64 c2] 3) = V := ⟨_, rfl⟩
  rw [hu1] at OR
  have b01 : Below U.heap.size U u1 := by rw [← hu1]; exact b00.alloc b00.size _
  have hS1 := hSK _ b01
  clear hla hlb hMd hM ha hb hpl hml b00 b01 hSK
  go_enter Tryz.func58, Tryz.ntmps58
  go_upto_region 1 with fail
  refine HeldAll.region (fun V : World => V.cell? ⟨Nb, 0, none⟩ = some (.pointer (some ⟨N, 0, none⟩)) ∧ V.cell? ⟨N, 9, none⟩ = some (.map (some m)) ∧ (Instr.lookup 67 (.map (some m)) (.string sa) false).run Tryz.prog V = .ok (.int .i64 za) V ∧ (Instr.lookup 67 (.map (some m)) (.string sb) false).run Tryz.prog V = .ok (.int .i64 zb) V) (by kernel_rfl) ?_
  (refine HeldAll.take (i := 0) (oi := _) (d := some 6) (v := ?_) rfl rfl (by kernel_rfl) (by kernel_rfl) (by kernel_rfl) (fun _ _ _ h => h) (Or.inl ⟨by rfl, ?_⟩) hS0 ?_; rotate_left; (focus (intro w hSw; (try dsimp only at hSw); go_simp; (try with_reducible rfl); done)); (try simp only [Act.put, List.setIfInBounds_toArray, List.set_cons_zero, List.set_cons_succ]))
  (refine HeldAll.take (i := 1) (oi := _) (d := some 7) (v := ?_) rfl rfl (by kernel_rfl) (by kernel_rfl) (by kernel_rfl) (fun _ _ _ h => h) (Or.inl ⟨by rfl, ?_⟩) hS0 ?_; rotate_left; (focus (intro w hSw; clear hSw; go_simp; (try with_reducible rfl); done)); (try simp only [Act.put, List.setIfInBounds_toArray, List.set_cons_zero, List.set_cons_succ]))
  (refine HeldAll.take (i := 2) (oi := _) (d := some 8) (v := ?_) rfl rfl (by kernel_rfl) (by kernel_rfl) (by kernel_rfl) (fun _ _ _ h => h) (Or.inl ⟨by rfl, ?_⟩) hS0 ?_; rotate_left; (focus (intro w hSw; clear hSw; go_simp; (try with_reducible rfl); done)); (try simp only [Act.put, List.setIfInBounds_toArray, List.set_cons_zero, List.set_cons_succ]))
  (refine HeldAll.take (i := 3) (oi := _) (d := some 9) (v := ?_) rfl rfl (by kernel_rfl) (by kernel_rfl) (by kernel_rfl) (fun _ _ _ h => h) (Or.inl ⟨by rfl, ?_⟩) hS0 ?_; rotate_left; (focus (intro w hSw; (try dsimp only at hSw); go_simp; (try with_reducible rfl); done)); (try simp only [Act.put, List.setIfInBounds_toArray, List.set_cons_zero, List.set_cons_succ]))
  (refine HeldAll.take (i := 4) (oi := _) (d := some 10) (v := ?_) rfl rfl (by kernel_rfl) (by kernel_rfl) (by kernel_rfl) (fun _ _ _ h => h) (Or.inl ⟨by rfl, ?_⟩) hS0 ?_; rotate_left; (focus (intro w hSw; clear hSw; go_simp; (try with_reducible rfl); done)); (try simp only [Act.put, List.setIfInBounds_toArray, List.set_cons_zero, List.set_cons_succ]))
  (refine HeldAll.take (i := 5) (oi := _) (d := some 11) (v := ?_) rfl rfl (by kernel_rfl) (by kernel_rfl) (by kernel_rfl) (fun _ _ _ h => h) (Or.inl ⟨by rfl, ?_⟩) hS0 ?_; rotate_left; (focus (intro w hSw; (try dsimp only at hSw); go_simp; (try with_reducible rfl); done)); (try simp only [Act.put, List.setIfInBounds_toArray, List.set_cons_zero, List.set_cons_succ]))
  (refine HeldAll.take (i := 6) (oi := _) (d := some 12) (v := ?_) rfl rfl (by kernel_rfl) (by kernel_rfl) (by kernel_rfl) (fun _ _ _ h => h) (Or.inl ⟨by rfl, ?_⟩) hS0 ?_; rotate_left; (focus (intro w hSw; (try dsimp only at hSw); go_simp; (try with_reducible rfl); done)); (try simp only [Act.put, List.setIfInBounds_toArray, List.set_cons_zero, List.set_cons_succ]))
  (refine HeldAll.take (i := 7) (oi := _) (d := some 13) (v := ?_) rfl rfl (by kernel_rfl) (by kernel_rfl) (by kernel_rfl) (fun _ _ _ h => h) (Or.inl ⟨by rfl, ?_⟩) hS0 ?_; rotate_left; (focus (intro w hSw; clear hSw; go_simp; (try with_reducible rfl); done)); (try simp only [Act.put, List.setIfInBounds_toArray, List.set_cons_zero, List.set_cons_succ]))
  (refine HeldAll.take (i := 8) (oi := _) (d := some 14) (v := ?_) rfl rfl (by kernel_rfl) (by kernel_rfl) (by kernel_rfl) (fun _ _ _ h => h) (Or.inl ⟨by rfl, ?_⟩) hS0 ?_; rotate_left; (focus (intro w hSw; clear hSw; go_simp; (try with_reducible rfl); done)); (try simp only [Act.put, List.setIfInBounds_toArray, List.set_cons_zero, List.set_cons_succ]))
  (refine HeldAll.take (i := 9) (oi := _) (d := some 15) (v := ?_) rfl rfl (by kernel_rfl) (by kernel_rfl) (by kernel_rfl) (fun _ _ _ h => h) (Or.inl ⟨by rfl, ?_⟩) hS0 ?_; rotate_left; (focus (intro w hSw; (try dsimp only at hSw); go_simp; (try with_reducible rfl); done)); (try simp only [Act.put, List.setIfInBounds_toArray, List.set_cons_zero, List.set_cons_succ]))
  (refine HeldAll.take (i := 10) (oi := _) (d := some 16) (v := ?_) rfl rfl (by kernel_rfl) (by kernel_rfl) (by kernel_rfl) (fun _ _ _ h => h) (Or.inl ⟨by rfl, ?_⟩) hS0 ?_; rotate_left; (focus (intro w hSw; clear hSw; go_simp; (try with_reducible rfl); done)); (try simp only [Act.put, List.setIfInBounds_toArray, List.set_cons_zero, List.set_cons_succ]))
  (refine HeldAll.take (i := 11) (oi := _) (d := some 17) (v := ?_) rfl rfl (by kernel_rfl) (by kernel_rfl) (by kernel_rfl) (fun _ _ _ h => h) (Or.inl ⟨by rfl, ?_⟩) hS0 ?_; rotate_left; (focus (intro w hSw; (try dsimp only at hSw); go_simp; (try with_reducible rfl); done)); (try simp only [Act.put, List.setIfInBounds_toArray, List.set_cons_zero, List.set_cons_succ]))
  (refine HeldAll.take (i := 13) (oi := _) (d := some 19) (v := ?_) rfl rfl (by kernel_rfl) (by kernel_rfl) (by kernel_rfl) (fun _ _ _ h => h) (Or.inl ⟨by rfl, ?_⟩) hS0 ?_; rotate_left; (focus (intro w hSw; clear hSw; go_simp; (try with_reducible rfl); done)); (try simp only [Act.put, List.setIfInBounds_toArray, List.set_cons_zero, List.set_cons_succ]))
  (refine HeldAll.take (i := 14) (oi := _) (d := some 20) (v := ?_) rfl rfl (by kernel_rfl) (by kernel_rfl) (by kernel_rfl) (fun _ _ _ h => h) (Or.inl ⟨by rfl, ?_⟩) hS0 ?_; rotate_left; (focus (intro w hSw; clear hSw; go_simp; (try with_reducible rfl); done)); (try simp only [Act.put, List.setIfInBounds_toArray, List.set_cons_zero, List.set_cons_succ]))
  refine HeldAll.one (i := 12) (by kernel_rfl) ?_
  refine HeldAll.opCall (i := 12) (oi := _) (d := some 18) (R := fun v w' => v = .int .i64 c1 ∧ w' = U.drew) rfl rfl (by rfl) (by go_simp; done) (C1.out.mono fun e w' h => ⟨_, h.1, rfl, h.2.symm⟩) ?_
  rintro v u2 ⟨rfl, rfl⟩
  refine ⟨hS0, ?_⟩
  (try simp only [Act.put, List.setIfInBounds_toArray, List.set_cons_zero, List.set_cons_succ])
  refine HeldAll.one (i := 15) (by kernel_rfl) ?_
  refine HeldAll.opCall (i := 15) (oi := _) (d := some 21) (R := fun v w' => v = .int .i64 c2 ∧ w' = U.drew) rfl rfl (by rfl) (by go_simp; done) (C2.out.mono fun e w' h => ⟨_, h.1, rfl, h.2.symm⟩) ?_
  rintro v u2 ⟨rfl, rfl⟩
  refine ⟨hS0, ?_⟩
  (try simp only [Act.put, List.setIfInBounds_toArray, List.set_cons_zero, List.set_cons_succ])
  refine HeldAll.one (i := 16) (by kernel_rfl) ?_
  refine HeldAll.opVal (i := 16) (oi := _) (d := some 22) (v := .slice (some ⟨U.drew.heap.size, 0, none⟩) 2 2) (w2 := u1) rfl rfl (by rfl) (by rw [← hu1]; go_simp; done) hS1 ?_
  (try simp only [Act.put, List.setIfInBounds_toArray, List.set_cons_zero, List.set_cons_succ])
  refine HeldAll.one (i := 17) (by kernel_rfl) ?_
  refine HeldAll.opCall (i := 17) (oi := _) (d := some 23) (R := fun v w' => v = .int .i64 r2 ∧ w' = u1) rfl rfl (by rfl) (by go_simp; done) (OR.out.mono fun e w' h => ⟨_, h.1, rfl, h.2.symm⟩) ?_
  rintro v u2 ⟨rfl, rfl⟩
  refine ⟨hS1, ?_⟩
  (try simp only [Act.put, List.setIfInBounds_toArray, List.set_cons_zero, List.set_cons_succ])
  have hS0 := hS1
  (refine HeldAll.take (i := 18) (oi := _) (d := some 5) (v := ?_) rfl rfl (by kernel_rfl) (by kernel_rfl) (by kernel_rfl) (fun _ _ _ h => h) (Or.inl ⟨by rfl, ?_⟩) hS0 ?_; rotate_left; (focus (intro w hSw; clear hSw; go_simp; (try with_reducible rfl); done)); (try simp only [Act.put, List.setIfInBounds_toArray, List.set_cons_zero, List.set_cons_succ]))
  refine HeldAll.done (by kernel_rfl) ?_ _
  (try go_wp2_with fail)
  go_ret
  exact ⟨by rw [HR2.out]; rfl, 1, #[.cells #[.int .i64 c1, .int .i64 c2] 3], by rw [← hu1]; rfl⟩
end EnumC
end Go.Proofs.YtjmmhbmbafjneaaGreatDoor

/-
  Between the words of the shelf's contracts on slices (a row held, a row put) and a slice of the call's own.
-/
namespace Go.Proofs.YtjmmhbmbafjneaaGreatDoor
open Go.RowKit Base Go.Sort
set_option linter.unusedVariables false
set_option linter.unusedSimpArgs false
namespace OwnP
variable {α : Type} [Inhabited α] {enc : α → Value}

theorem holds {w : World} {g : Nat} {cur : Array Value} {e : TypeId} {xs : List α} (hb : w.heap[g]? = some (.cells cur e (0, 0))) (ht : cur.toList.take xs.length = xs.map enc) : Holds enc w g 0 xs.toArray := by
  intro j hj
  have hj' : j < xs.length := by simpa using hj
  refine ⟨?_, by simp [World.frozen?, hb]⟩
  have h1 : (cur.toList.take xs.length)[j]? = (xs.map enc)[j]? := by rw [ht]
  rw [List.getElem?_take_of_lt hj'] at h1
  simp only [World.cell?, hb, Nat.zero_add]
  simp only [Option.isSome_none, Bool.false_eq_true, if_false]
  rw [← Array.getElem?_toList, h1]
  simp [hj']

theorem heap_put {w : World} {g n : Nat} {os : Array Obj} {cur : Array Value} {e : TypeId} {fr : Nat × Nat} (d : Array α) (hb : w.heap[g]? = some (.cells cur e fr)) :
    (grow (putRow enc (Sort.ahead w n) g 0 d) os).heap[g]? = some (.cells (putCells enc 0 d cur) e fr) := by
  have hg : g < w.heap.size := (Array.getElem?_eq_some_iff.1 hb).1
  rw [heap_grow_old _ _ (by simpa using hg)]
  simp [putRow, mapBlock, Sort.ahead, Array.getElem?_modify, hb, onCells]

theorem below_put {w : World} {B g n : Nat} {os : Array Obj} (d : Array α) (hB : B ≤ g) (hs : B ≤ w.heap.size) : Below B w (grow (putRow enc (Sort.ahead w n) g 0 d) os) := by
  refine ⟨rfl, rfl, rfl, by simp, fun k hk => ?_⟩
  rw [heap_grow_old _ _ (by simp; omega)]
  have : g ≠ k := by omega
  simp [putRow, mapBlock, Sort.ahead, Array.getElem?_modify, this]

theorem take_put (cur : Array Value) (ys zs : List α) (h : (ys ++ zs).length ≤ cur.size) : (putCells enc 0 (ys ++ zs).toArray cur).toList.take ys.length = ys.map enc := by
  apply List.ext_getElem?
  intro j
  simp only [List.length_append] at h
  by_cases hj : j < ys.length
  · rw [List.getElem?_take_of_lt hj, Array.getElem?_toList]
    simp [putCells, hj, show j < cur.size by omega, show j < ys.length + zs.length by omega]
  · rw [List.getElem?_take_eq_none (by omega), List.getElem?_eq_none (by simp; omega)]

/-- Behind such a call the slice owns what was put (its front). -/
theorem own_put {w : World} {base g cap n : Nat} {e : TypeId} {os : Array Obj} {cur : Array Value} {ys zs : List α} (hbase : base ≤ g) (hb : w.heap[g]? = some (.cells cur e (0, 0)))
    (h1 : (ys ++ zs).length ≤ cap) (h2 : cap ≤ maxLen) (h3 : cur.size = cap * 1) :
    (grow (putRow enc (Sort.ahead w n) g 0 (ys ++ zs).toArray) os).ownsRow base e 1 (.slice (some ⟨g, 0, none⟩) ys.length cap) ys.length (ys.map enc) := by
  refine ⟨by simp, .inr ⟨g, cap, _, rfl, hbase, heap_put _ hb, ?_, h2, by simp [putCells, h3], by rw [Nat.mul_one]; exact take_put cur ys zs (by omega)⟩⟩
  simp only [List.length_append] at h1
  omega

theorem grow_nil (w : World) : grow w #[] = w := by
  simp [grow]

end OwnP
end Go.Proofs.YtjmmhbmbafjneaaGreatDoor

/-
  slices.SortedFunc in the order in which enum looks for a Bad.
-/
namespace Go.Proofs.YtjmmhbmbafjneaaGreatDoor
open Go.RowKit Base Go.Maps
set_option linter.unusedVariables false
set_option linter.unusedSimpArgs false
namespace EnumC
open Circuit BadP StrashP SimV EnumA EnumP GetI MapG Coi EnumW Order
open Go.Shelf Go.Sort

def sortLaidS_ren : Go.Shelf.Ren := ⟨fun | 6 => 84 | 15 => 83 | 14 => 114 | 28 => 112 | 29 => 113 | 20 => 131 | 21 => 132 | 22 => 133 | 23 => 134 | 24 => 135 | 25 => 136 | 26 => 137 | 27 => 138 | 46 => 147 | 47 => 127 | 48 => 128 | 49 => 148 | 50 => 149 | 57 => 164 | n => n, fun | 22 => 30 | 24 => 9 | 25 => 102 | 3 => 3 | 39 => 123 | 0 => 0 | 53 => 150 | 55 => 152 | 4 => 4 | 46 => 144 | 45 => 143 | 50 => 108 | 5 => 5 | 9 => 9 | 66 => 161 | 70 => 165 | 76 => 178 | 77 => 179 | n => n, fun | n => n⟩
theorem sortLaidS : Go.Proofs.SlLaysF.n6 Tryz.prog sortLaidS_ren := {
  mixed := by kernel_rfl
  f6 := ⟨Tryz.f84.name, by decide, Tryz.func84.trans (congrArg some (by kernel_rfl))⟩
  f14 := ⟨Tryz.f114.name, by decide, Tryz.func114.trans (congrArg some (by kernel_rfl))⟩
  f15 := Tryz.func83.trans (congrArg some (by kernel_rfl))
  f20 := ⟨Tryz.f131.name, by decide, Tryz.func131.trans (congrArg some (by kernel_rfl))⟩
  f21 := ⟨Tryz.f132.name, by decide, Tryz.func132.trans (congrArg some (by kernel_rfl))⟩
  f22 := ⟨Tryz.f133.name, by decide, Tryz.func133.trans (congrArg some (by kernel_rfl))⟩
  f23 := ⟨Tryz.f134.name, by decide, Tryz.func134.trans (congrArg some (by kernel_rfl))⟩
  f24 := ⟨Tryz.f135.name, by decide, Tryz.func135.trans (congrArg some (by kernel_rfl))⟩
  f25 := ⟨Tryz.f136.name, by decide, Tryz.func136.trans (congrArg some (by kernel_rfl))⟩
  f26 := ⟨Tryz.f137.name, by decide, Tryz.func137.trans (congrArg some (by kernel_rfl))⟩
  f27 := ⟨Tryz.f138.name, by decide, Tryz.func138.trans (congrArg some (by kernel_rfl))⟩
  f28 := Tryz.func112.trans (congrArg some (by kernel_rfl))
  f29 := Tryz.func113.trans (congrArg some (by kernel_rfl))
  f46 := ⟨Tryz.f147.name, by decide, Tryz.func147.trans (congrArg some (by kernel_rfl))⟩
  f47 := Tryz.func127.trans (congrArg some (by kernel_rfl))
  f48 := Tryz.func128.trans (congrArg some (by kernel_rfl))
  f49 := ⟨Tryz.f148.name, by decide, Tryz.func148.trans (congrArg some (by kernel_rfl))⟩
  f50 := ⟨Tryz.f149.name, by decide, Tryz.func149.trans (congrArg some (by kernel_rfl))⟩
  f57 := ⟨Tryz.f164.name, by decide, Tryz.func164.trans (congrArg some (by kernel_rfl))⟩
  t0 := Tryz.underlying0
  a0 := Tryz.isAgg0
  z0 := Tryz.sizeOf0
  v0 := Tryz.zeroValue0
  t3 := Tryz.underlying3
  a3 := Tryz.isAgg3
  z3 := Tryz.sizeOf3
  v3 := Tryz.zeroValue3
  t4 := Tryz.underlying4
  a4 := Tryz.isAgg4
  z4 := Tryz.sizeOf4
  v4 := Tryz.zeroValue4
  t5 := Tryz.underlying5
  a5 := Tryz.isAgg5
  z5 := Tryz.sizeOf5
  v5 := Tryz.zeroValue5
  t9 := Tryz.underlying9
  a9 := Tryz.isAgg9
  z9 := Tryz.sizeOf9
  v9 := Tryz.zeroValue9
  t22 := Tryz.underlying30
  a22 := Tryz.isAgg30
  z22 := Tryz.sizeOf30
  v22 := Tryz.zeroValue30
  a24 := Tryz.isAgg9
  z24 := Tryz.sizeOf9
  t25 := Tryz.underlying102
  a25 := Tryz.isAgg102
  z25 := Tryz.sizeOf102
  v25 := Tryz.zeroValue102
  t39 := Tryz.underlying123
  a39 := Tryz.isAgg123
  z39 := Tryz.sizeOf123
  v39 := Tryz.zeroValue123
  t45 := Tryz.underlying143
  a45 := Tryz.isAgg143
  z45 := Tryz.sizeOf143
  v45 := Tryz.zeroValue143
  t46 := Tryz.underlying144
  a46 := Tryz.isAgg144
  z46 := Tryz.sizeOf144
  v46 := Tryz.zeroValue144
  t50 := Tryz.underlying108
  a50 := Tryz.isAgg108
  z50 := Tryz.sizeOf108
  v50 := Tryz.zeroValue108
  t53 := Tryz.underlying150
  a53 := Tryz.isAgg150
  z53 := Tryz.sizeOf150
  v53 := Tryz.zeroValue150
  t55 := Tryz.underlying152
  a55 := Tryz.isAgg152
  z55 := Tryz.sizeOf152
  v55 := Tryz.zeroValue152
  t66 := Tryz.underlying161
  a66 := Tryz.isAgg161
  z66 := Tryz.sizeOf161
  v66 := Tryz.zeroValue161
  t70 := Tryz.underlying165
  a70 := Tryz.isAgg165
  z70 := Tryz.sizeOf165
  v70 := Tryz.zeroValue165
  t76 := Tryz.underlying178
  a76 := Tryz.isAgg178
  z76 := Tryz.sizeOf178
  v76 := Tryz.zeroValue178
  t77 := Tryz.underlying179
  a77 := Tryz.isAgg179
  z77 := Tryz.sizeOf179
  v77 := Tryz.zeroValue179 }

abbrev I := { s : List Bool // s.length ≤ 1000 }
instance : Inhabited I := ⟨⟨[], by simp⟩⟩
def encI (x : I) : Value := .string (bs x.1)
noncomputable def cfI (O : Ord) (x y : I) : Int := cfO O x.1 y.1
theorem oneI : OneCell encI := fun _ => rfl
theorem lt_iff (O : Ord) (x y : I) : ltOf (cfI O) x y = true ↔ ltO O x.1 y.1 := by
  unfold ltOf cfI
  rw [decide_eq_true_iff, cfO_lt]
theorem ltO_irrefl (O : Ord) (a : List Bool) : ¬ ltO O a a := by
  rintro (h | ⟨_, h⟩)
  · omega
  · exact absurd h (List.lt_irrefl _)
theorem ltO_trans {O : Ord} {a b c : List Bool} (h1 : ltO O a b) (h2 : ltO O b c) : ltO O a c := by
  rcases h1 with h1 | ⟨h1, g1⟩ <;> rcases h2 with h2 | ⟨h2, g2⟩
  · exact .inl (by omega)
  · exact .inl (by omega)
  · exact .inl (by omega)
  · exact .inr ⟨by omega, List.lt_trans g1 g2⟩
theorem ltO_total {O : Ord} {a b : List Bool} (h1 : ¬ ltO O a b) (h2 : ¬ ltO O b a) : a = b := by
  unfold ltO at *
  refine oct_total (fun h => ?_) (fun h => ?_)
  · by_cases e : stepO O a = stepO O b
    · exact h1 (.inr ⟨e, h⟩)
    · rcases Int.lt_or_gt_of_ne e with q | q
      · exact h1 (.inl q)
      · exact h2 (.inl q)
  · by_cases e : stepO O a = stepO O b
    · exact h2 (.inr ⟨e.symm, h⟩)
    · rcases Int.lt_or_gt_of_ne e with q | q
      · exact h1 (.inl q)
      · exact h2 (.inl q)
theorem swoI (O : Ord) : SWO (ltOf (cfI O)) where
  irrefl x := by rw [Bool.eq_false_iff, ne_eq, lt_iff]; exact ltO_irrefl O x.1
  trans x y z h1 h2 := by rw [lt_iff] at *; exact ltO_trans h1 h2
  ntrans x y z h1 h2 := by
    rw [Bool.eq_false_iff, ne_eq, lt_iff] at *
    intro h
    by_cases e : ltO O y.1 x.1
    · exact h2 (ltO_trans e h)
    · have := ltO_total h1 e
      rw [this] at h
      exact h2 h
theorem egI : ∀ args w, (callFunc 58 args).run Tryz.prog w = .ok (.enter 58 args) w := enters_of Tryz.func58 (by kernel_rfl) rfl

theorem sw_off {α : Type} [Inhabited α] (enc : α → Value) (w : World) (blk off m : Nat) (dk : Array α) (os : Array Obj) : OffB blk w (sortWorld enc w blk off m dk os) := by
  refine ⟨rfl, rfl, rfl, ?_, fun k hk hne => ?_⟩
  · simp [sortWorld, putRow, mapBlock, Sort.ahead]
  · unfold sortWorld
    rw [heap_grow_old _ _ (by simpa [putRow, mapBlock, Sort.ahead] using hk)]
    simp [putRow, mapBlock, Sort.ahead, Array.getElem?_modify, hne, Ne.symm hne]
theorem cmpI_lays (w : World) (Nb N m n blk off size : Nat) (O : Ord) (hpl : Nb < w.heap.size) (hml : N < w.heap.size) (hp : w.cell? ⟨Nb, 0, none⟩ = some (.pointer (some ⟨N, 0, none⟩))) (hm : w.cell? ⟨N, 9, none⟩ = some (.map (some m))) (hM : MapS w m n (tbl O))
    (h1 : Nb ≠ blk) (h2 : N ≠ blk) (h3 : m ≠ blk) : CmpLays1 Tryz.prog 58 #[.pointer (some ⟨Nb, 0, none⟩)] encI (cfI O) blk off size w := by
  intro k os dk _ x y
  have ho := sw_off encI w blk off k dk os
  exact found1_any _ Nb N m n O (Nat.lt_of_lt_of_le hpl ho.size) (Nat.lt_of_lt_of_le hml ho.size) ((World.cell?_of_block (w := w) (a := ⟨Nb, 0, none⟩) (ho.block Nb hpl h1)).trans hp) ((World.cell?_of_block (w := w) (a := ⟨N, 9, none⟩) (ho.block N hml h2)).trans hm) (hM.same (ho.block m hM.lt h3)) x.1 y.1 x.2 y.2

theorem att (xs : List (List Bool)) (hw : ∀ s ∈ xs, s.length ≤ 1000) : ∃ ds : List I, ds.map Subtype.val = xs ∧ ds.length = xs.length ∧ ds.map encI = txt xs := by
  induction xs with
  | nil => exact ⟨[], rfl, rfl, rfl⟩
  | cons x r ih =>
    obtain ⟨ds, h1, h2, h3⟩ := ih (fun y hy => hw y (List.mem_cons_of_mem _ hy))
    exact ⟨⟨x, hw x List.mem_cons_self⟩ :: ds, by simp [h1], by simp [h2], by simp [h3, txt, encI]⟩
theorem sorted_ofI {O : Ord} {d d' : Array I} (hp : PermIn 0 d.size d d') (hs : SortedIn (ltOf (cfI O)) 0 d.size d') : d'.size = d.size ∧ (d'.toList.map Subtype.val).Perm (d.toList.map Subtype.val) ∧ (d'.toList.map Subtype.val).Pairwise (fun a b => ¬ ltO O b a) := by
  obtain ⟨h1, _, h2⟩ := hp
  have h2' : d'.toList.Perm d.toList := by
    have e1 : d'.extract 0 d.size = d' := by rw [← h1]; simp
    have e2 : d.extract 0 d.size = d := by simp
    rwa [e1, e2] at h2
  refine ⟨h1, h2'.map _, ?_⟩
  rw [List.pairwise_map, List.pairwise_iff_getElem]
  intro i j hi hj hij
  have h := hs i j (Nat.zero_le _) hij (by rw [← h1]; simpa using hj)
  simp only [Array.length_toList] at hi hj
  rw [getElem!_pos d' j hj, getElem!_pos d' i hi, Bool.eq_false_iff, ne_eq, lt_iff] at h
  simpa using h

set_option maxHeartbeats 2000000 in
theorem sort_own (w : World) (Nb N m k : Nat) (O : Ord) (hpl : Nb < w.heap.size) (hml : N < w.heap.size) (hp : w.cell? ⟨Nb, 0, none⟩ = some (.pointer (some ⟨N, 0, none⟩))) (hm : w.cell? ⟨N, 9, none⟩ = some (.map (some m))) (hM : MapS w m k (tbl O))
    (B : Nat) (h1 : Nb < B) (h2 : N < B) (h3 : m < B) (a : Option Addr) (n c : Nat) (xs : List (List Bool)) (hw : ∀ s ∈ xs, s.length ≤ 1000) (hown : w.ownsRow B 9 1 (.slice a n c) n (txt xs)) (hB : B ≤ w.heap.size) (hn : n < 4611686018427387904) :
    Calls Tryz.prog 84 #[.slice a n c, .func (.func 58) #[] #[.pointer (some ⟨Nb, 0, none⟩)]] w fun e w' => e = .returned (.tuple #[]) ∧ ∃ ys : List (List Bool), ys.Perm xs ∧ ys.Pairwise (fun a b => ¬ ltO O b a) ∧ w'.ownsRow B 9 1 (.slice a n c) n (txt ys) ∧ Below B w w' := by
  have hl := hown.1
  rw [txt_len, Nat.mul_one] at hl
  rcases hown.2 with ⟨hv, hnil⟩ | ⟨g, cap, cur, hv, hg, hh, q1, q2, q3, q4⟩
  · simp only [Value.slice.injEq] at hv
    obtain ⟨rfl, rfl, rfl⟩ := hv
    have hx : xs = [] := List.eq_nil_of_length_eq_zero hl
    subst hx
    have hcon := AnyF.slices_SortFunc_none (P := Tryz.prog) (ρ := sortLaidS_ren) { sortLaidS with } none 0 (.func (.func 58) #[] #[.pointer (some ⟨Nb, 0, none⟩)]) w
    change Calls Tryz.prog 84 _ _ _ at hcon
    refine hcon.mono ?_
    rintro e w' ⟨rfl, rfl⟩
    exact ⟨rfl, [], List.Perm.refl _, List.Pairwise.nil, hown, Below.refl _ _⟩
  · simp only [Value.slice.injEq] at hv
    obtain ⟨rfl, _, rfl⟩ := hv
    obtain ⟨ds, hd1, hd2, hd3⟩ := att xs hw
    have ht : cur.toList.take ds.length = ds.map encI := by rw [hd3, hd2, hl, ← q4, Nat.mul_one]
    have hsz : ds.toArray.size = n := by simp [hd2, hl]
    have hcon := Any.slices_SortFunc sortLaidS encI oneI (cfI O) (swoI O) 58 #[.pointer (some ⟨Nb, 0, none⟩)] g 0 c ds.toArray w egI (cmpI_lays w Nb N m k g 0 _ O hpl hml hp hm hM (by omega) (by omega) (by omega)) (OwnP.holds hh ht) (Array.getElem?_eq_some_iff.1 hh).1 (by rw [hsz]; exact hn)
    change Calls Tryz.prog 84 _ _ _ at hcon
    rw [hsz] at hcon
    refine hcon.mono ?_
    rintro e w' ⟨rfl, d', nn, os, hp', hs, rfl⟩
    have hps := sorted_ofI (d := ds.toArray) (by rw [hsz]; exact hp') (by rw [hsz]; exact hs)
    obtain ⟨r1, r2, r3⟩ := hps
    rw [hd1] at r2
    have hln : d'.toList.length = n := by rw [Array.length_toList, r1, hsz]
    refine ⟨rfl, d'.toList.map Subtype.val, r2, r3, ?_, OwnP.below_put _ hg hB⟩
    have ho := OwnP.own_put (enc := encI) (n := nn) (os := os) (ys := d'.toList) (zs := []) hg hh (by rw [List.append_nil, hln]; exact q1) q2 q3
    rw [List.append_nil, hln] at ho
    have e1 : d'.toList.map encI = txt (d'.toList.map Subtype.val) := by simp [txt, encI, Function.comp_def]
    rw [e1] at ho
    exact ho

set_option maxHeartbeats 2000000 in
theorem sortedFunc_any (w : World) (Bx : Nat) (a : Option Addr) (len cap : Nat) (O : Ord) (hBx : Bx < w.heap.size) (hcx : w.cell? ⟨Bx, 0, none⟩ = some (.slice a len cap)) (hsl : Sl w a len cap (txt (O.map (·.1)))) (hlen : len ≤ 100000) (hw : ∀ e ∈ O, e.1.length ≤ 1000)
    (Nb N m k : Nat) (hpl : Nb < w.heap.size) (hml : N < w.heap.size) (hp : w.cell? ⟨Nb, 0, none⟩ = some (.pointer (some ⟨N, 0, none⟩))) (hm : w.cell? ⟨N, 9, none⟩ = some (.map (some m))) (hM : MapS w m k (tbl O)) :
    Calls Tryz.prog 57 #[.func (.func 53) #[] #[.pointer (some ⟨Bx, 0, none⟩)], .func (.func 58) #[] #[.pointer (some ⟨Nb, 0, none⟩)]] w fun e w' => ∃ a' c' ys, e = .returned (.slice a' len c') ∧ ys.Perm (O.map (·.1)) ∧ ys.Pairwise (fun a b => ¬ ltO O b a) ∧ w'.ownsRow w.heap.size 9 1 (.slice a' len c') len (txt ys) ∧ Below w.heap.size w w' := by
  have hol : O.length = len := by have := hsl.len; rw [txt_len, List.length_map] at this; exact this
  have H := ValsS.collect_any w Bx a len cap (O.map fun e => oct e.1) hBx hcx (by rw [← txt_encs]; exact hsl) (by omega)
  rw [← txt_encs, List.length_map, hol] at H
  have H := Lib.hid H
  have HS := Lib.hid (fun (W : World) (hW : Below w.heap.size w W) (v : Value) (hv : W.ownsRow w.heap.size 9 1 v len (txt (O.map (·.1)))) (a2 : Option Addr) (c2 : Nat) (hve : v = .slice a2 len c2) =>
    sort_own W Nb N m k O (Nat.lt_of_lt_of_le hpl hW.size) (Nat.lt_of_lt_of_le hml hW.size) ((hW.cell (p := ⟨Nb, 0, none⟩) hpl).trans hp) ((hW.cell (p := ⟨N, 9, none⟩) hml).trans hm) (hM.next hW) w.heap.size hpl hml hM.lt a2 len c2 (O.map (·.1)) (fun s hs => by obtain ⟨e, he, rfl⟩ := List.mem_map.1 hs; exact hw e he) (by rw [← hve]; exact hv) hW.size (by omega))
  clear hBx hcx hsl hlen hw hpl hml hp hm hM hol
  have hmf : ∀ (fn : Fn) (first cap : Array Value) (w : World), (Instr.makeFunc fn first cap).run Tryz.prog w = .ok (.func fn first cap) w := fun _ _ _ _ => rfl
  go_enter Tryz.func57, Tryz.ntmps57
  go_wp2_with fail
  with_reducible refine H.out.mono ?_
  rintro e w1 ⟨v, rfl, hown, hb⟩
  obtain ⟨a2, c2, hve, _⟩ := own_sl hown
  have HS1 := Lib.hid (HS.out w1 hb v hown a2 c2 hve)
  have HB := Lib.hid hb
  subst hve
  clear hown hb
  go_wp2_with fail
  with_reducible refine HS1.out.mono ?_
  rintro e w2 ⟨rfl, ys, hp, hs, ho, hb2⟩
  have HP := Lib.hid hp
  have HSo := Lib.hid hs
  have HO := Lib.hid ho
  have HB2 := Lib.hid (HB.out.trans hb2)
  clear hp hs ho hb2
  go_wp2_with fail
  go_ret
  exact ⟨a2, c2, ys, rfl, HP.out, HSo.out, HO.out, HB2.out⟩
end EnumC
end Go.Proofs.YtjmmhbmbafjneaaGreatDoor

/-
  enum's walk: bad, found.
-/
namespace Go.Proofs.YtjmmhbmbafjneaaGreatDoor
open Go.RowKit Base Go.Maps
set_option linter.unusedVariables false
set_option linter.unusedSimpArgs false
namespace EnumC
open Circuit BadP StrashP SimV EnumA EnumP GetI MapG Coi EnumW Order

/-- The least input with which a state has the Bad. -/
def hitB (x : Circ) (A : List (List Int)) (bl : Int) (s i : List Bool) : Bool := allow x A (vals x s i) && litV (vals x s i) bl
def badIn (x : Circ) (A : List (List Int)) (bl : Int) (s : List Bool) : Option (List Bool) := (allL x.ins.length).find? (hitB x A bl s)
theorem find_take {α : Type} (p : α → Bool) (L : List α) {k : Nat} (hk : k < L.length) (h : (L.take k).any p = false) : (p L[k] = true → L.find? p = some L[k]) ∧ (p L[k] = false → (L.take (k + 1)).any p = false) := by
  constructor
  · intro hp
    have e : L = L.take k ++ L[k] :: L.drop (k + 1) := by rw [← List.drop_eq_getElem_cons hk, List.take_append_drop]
    have hn : (L.take k).find? p = none := by
      rw [List.find?_eq_none]
      intro x hx hpx
      rw [List.any_eq_false] at h
      exact h x hx hpx
    rw [show L.find? p = (L.take k ++ L[k] :: L.drop (k + 1)).find? p from congrArg (fun l => l.find? p) e, List.find?_append, hn, List.find?_cons_of_pos hp]
    rfl
  · intro hp
    rw [List.take_succ_eq_append_getElem hk, List.any_append, h]
    simp [hp]
theorem find_end {α : Type} (p : α → Bool) (L : List α) {k : Nat} (hk : L.length ≤ k) (h : (L.take k).any p = false) : L.find? p = none := by
  rw [List.take_of_length_le hk] at h
  rw [List.find?_eq_none]
  intro x hx hpx
  rw [List.any_eq_false] at h
  exact h x hx hpx
def outB (o : Option (List Bool)) : Value := .tuple #[.string (match o with | some i => bs i | none => ⟨#[]⟩), .bool o.isSome]

set_option maxRecDepth 8000 in
set_option maxHeartbeats 8000000 in
theorem bad_any (w : World) (B1 N b : Nat) (x : Circ) (p : At) (aA : Option Addr) (nA cA : Nat) (O : Ord) (aO : Option Addr) (cO : Nat) (h : WIs B1 N b x p aA nA cA O aO cO w) (hin : InCirc w x p) (hw : WfC x) (hok : CheckOk x) (hi10 : x.ins.length ≤ 10)
    (vs : List Value) (A : List (List Int)) (hA : Sl2 w aA nA cA vs A) (hA64 : ∀ y ∈ A.flatten, -9223372036854775808 ≤ y ∧ y ≤ 9223372036854775807) (s : List Bool) (hs : s.length = x.lats.length) (bl : Int) (hb0 : -9223372036854775808 ≤ bl) (hb1 : bl ≤ 9223372036854775807) :
    Calls Tryz.prog 62 #[.pointer (some ⟨N, 0, none⟩), .string (bs s), .int .i64 bl] w fun e w2 => e = .returned (outB (badIn x A bl s)) ∧ Below w.heap.size w w2 := by
  obtain ⟨K, hK⟩ : ∃ m, 2 ^ x.ins.length = m := ⟨_, rfl⟩
  have hK1 : K ≤ 1024 := by rw [← hK]; exact Nat.pow_le_pow_right (by decide) hi10
  have HAL := all_any w x.ins.length hi10
  rw [hK] at HAL
  have HAL := Lib.hid HAL
  have HKL : Hid ((allL x.ins.length).length = K) := by show _ = _; rw [allL_len, hK]
  have HBX := Lib.hid h.box
  have HVAL := Lib.hid (fun (U : World) (hU : Below w.heap.size w U) (inp : List Bool) (hinp : inp.length = x.ins.length) => values_any U B1 N b x p aA nA cA O aO cO (h.next hU) (hin.next hU) hw hok vs A (hA.next hU) hA64 s inp hs hinp)
  have HTR := Lib.hid (fun (U : World) (inp : List Bool) => SimV.true_any U (vals x s inp) bl hb0 hb1 (by rw [vals_len]; have := hok.1.2.1; omega))
  have c1 := h.box.at' 1 _ rfl
  have hcI := hin.ins.cap
  have hgI := hin.ins.big
  have HR : Hid (∀ i, hitB x A bl s i = (allow x A (vals x s i) && litV (vals x s i) bl)) := fun _ => rfl
  have HBI : Hid (badIn x A bl s = (allL x.ins.length).find? (hitB x A bl s)) := rfl
  obtain ⟨a1, b1, a2, b2, a3, b3, a4, b4, a5, b5, a6, b6, a7, b7⟩ := p
  simp only [cells] at *
  obtain ⟨ss, hss⟩ : ∃ t, bs s = t := ⟨_, rfl⟩
  rw [hss] at HVAL ⊢
  generalize badIn x A bl s = rb at *
  clear h hin hw hok hi10 hK hA hA64 hs hss hb0 hb1
  go_enter Tryz.func62, Tryz.ntmps62
  go_wp2_with fail
  with_reducible refine HAL.out.mono ?_
  rintro e w2 ⟨aI, cI, rfl, hoI, hb2⟩
  have HSI := Lib.hid (own_sl' hoI)
  have HB2 := Lib.hid hb2
  have hcK := HSI.out.cap
  have hgK := HSI.out.big
  clear hoI hb2 c1 HAL
  go_wp2_with fail
  go_loopw [20] (fun j wr => ∃ (k : Nat), k ≤ K ∧ j = .int .i64 k ∧ Hid (((allL x.ins.length).take k).any (hitB x A bl s) = false) ∧ Hid (Below w2.heap.size w2 wr)) (fun j _ => K - (intOf j).toNat)
  case atStart => exact ⟨0, Nat.zero_le _, rfl, rfl, Below.refl _ _⟩
  case round =>
    obtain ⟨k, hk, rfl, hF, hB⟩ := hrel
    generalize wr = ws at *
    by_cases hlt : k < K
    · obtain ⟨bi, oi, hx, hae, hbs, d0⟩ := txt_at (HSI.out.next hB.out) hlt
      try simp only at hae
      subst hae
      have hil := at_len _ _ _ (List.getElem?_eq_getElem hx)
      obtain ⟨hf1, hf2⟩ := find_take (hitB x A bl s) _ hx hF.out
      rw [← HBI.out] at hf1
      rw [HR.out] at hf1 hf2
      generalize (allL x.ins.length)[k] = inp at *
      have HF1 := Lib.hid hf1
      have HF2 := Lib.hid hf2
      have hbw := HB2.out.trans (hB.out.mono HB2.out.size)
      have HVA := Lib.hid (HVAL.out ws hbw inp hil)
      have HT := Lib.hid (fun (U : World) => HTR.out U inp)
      have HBW := Lib.hid hbw
      clear hil hf1 hf2 hF hbw
      obtain ⟨si, hsi⟩ : ∃ t, bs inp = t := ⟨_, rfl⟩
      have HSI2 := Lib.hid hsi
      rw [hsi] at d0 HVA
      generalize bs (vals x s inp) = sV at *
      clear hsi
      generalize allow x A (vals x s inp) = q1 at *
      generalize litV (vals x s inp) bl = q2 at *
      go_wp2_with fail
      with_reducible refine HVA.out.mono ?_
      rintro e w3 ⟨rfl, hb3⟩
      have HB3 := Lib.hid (hB.out.trans (hb3.mono hB.out.size))
      clear hb3 hB d0 HVA
      cases q1
      · have HN := Lib.hid (HF2.out rfl)
        go_wp2_with fail
        go_roundw
        case rel => exact ⟨k + 1, by omega, by go_num, HN.out, HB3.out⟩
        case measure => simp [intOf]; omega
      · go_wp2_with fail
        with_reducible refine (HT.out w3).mono ?_
        rintro e w4 ⟨rfl, hb4⟩
        have HB4 := Lib.hid (HB3.out.trans (hb4.mono HB3.out.size))
        clear hb4
        cases q2
        · have HN := Lib.hid (HF2.out rfl)
          go_wp2_with fail
          go_roundw
          case rel => exact ⟨k + 1, by omega, by go_num, HN.out, HB4.out⟩
          case measure => simp [intOf]; omega
        · have HY := Lib.hid (HF1.out rfl)
          go_wp2_with fail
          refine bodyPost_ret (v := .tuple #[.string si, .bool true]) (by simp [results, Tryz.results62, go_sem]) rfl ⟨by rw [HY.out]; unfold outB; rw [← HSI2.out]; rfl, HB2.out.trans (HB4.out.mono HB2.out.size)⟩
    · have HN := Lib.hid (find_end (hitB x A bl s) (allL x.ins.length) (k := k) (by have := HKL.out; omega) hF.out)
      have HBE := Lib.hid hB.out
      clear hF hB
      go_wp2_with fail
      refine bodyPost_ret (v := .tuple #[.string ⟨#[]⟩, .bool false]) (by simp [results, Tryz.results62, go_sem]) rfl ⟨by rw [HBI.out, HN.out]; rfl, HB2.out.trans (HBE.out.mono HB2.out.size)⟩

/-- What found tells. -/
def FoundOut (x : Circ) (A : List (List Int)) (bl : Int) (O : Ord) (v : Value) : Prop :=
  (v = .tuple #[.string ⟨#[]⟩, .string ⟨#[]⟩, .bool false] ∧ ∀ e ∈ O, badIn x A bl e.1 = none) ∨
  ∃ s i n, (s, n) ∈ O ∧ badIn x A bl s = some i ∧ v = .tuple #[.string (bs s), .string (bs i), .bool true] ∧ ∀ e ∈ O, badIn x A bl e.1 ≠ none → ¬ ltO O e.1 s

set_option maxRecDepth 8000 in
set_option maxHeartbeats 8000000 in
theorem found_any (w : World) (B1 N b : Nat) (x : Circ) (p : At) (aA : Option Addr) (nA cA : Nat) (O : Ord) (aO : Option Addr) (cO : Nat) (h : WIs B1 N b x p aA nA cA O aO cO w) (hin : InCirc w x p) (hw : WfC x) (hok : CheckOk x) (hl10 : x.lats.length ≤ 10) (hi10 : x.ins.length ≤ 10)
    (vs : List Value) (A : List (List Int)) (hA : Sl2 w aA nA cA vs A) (hA64 : ∀ y ∈ A.flatten, -9223372036854775808 ≤ y ∧ y ≤ 9223372036854775807) (hOl : O.length ≤ 1024) (hOs : ∀ e ∈ O, e.1.length = x.lats.length) (bl : Int) (hb0 : -9223372036854775808 ≤ bl) (hb1 : bl ≤ 9223372036854775807) :
    Calls Tryz.prog 35 #[.pointer (some ⟨N, 0, none⟩), .int .i64 bl] w fun e w2 => ∃ v, e = .returned v ∧ FoundOut x A bl O v ∧ Below w.heap.size w w2 := by
  obtain ⟨W1, hW1⟩ : ∃ U, w.alloc (.cells #[.pointer (some ⟨N, 0, none⟩)] 61) = U := ⟨_, rfl⟩
  have hbw1 : Below w.heap.size w W1 := by rw [← hW1]; exact (Below.refl _ _).alloc (Nat.le_refl _) _
  have hs1 : w.heap.size < W1.heap.size := by rw [← hW1]; simp
  have k0 : W1.cell? ⟨w.heap.size, 0, none⟩ = some (.pointer (some ⟨N, 0, none⟩)) := by rw [← hW1]; simp [go_sem]
  have hw1 := h.next hbw1
  have c10 := hw1.box.at' 10 _ rfl
  have hOl2 : ∀ e ∈ O, e.1.length ≤ 1000 := fun e he => by rw [hOs e he]; omega
  obtain ⟨W2, hW2⟩ : ∃ U, W1.alloc (.cells #[.slice aO O.length cO] 30) = U := ⟨_, rfl⟩
  have hb2 : Below W1.heap.size W1 W2 := by rw [← hW2]; exact (Below.refl _ _).alloc (Nat.le_refl _) _
  have hvl := ValsS.values_any W1 aO O.length cO
  rw [hW2] at hvl
  have hw2 := hw1.next hb2
  have hsf := sortedFunc_any W2 W1.heap.size aO O.length cO O (by rw [← hW2]; simp) (by rw [← hW2]; simp [go_sem]) ((own_sl' hw1.own).next hb2) (by omega) hOl2 w.heap.size N b O.length (Nat.lt_of_lt_of_le hs1 hb2.size) hw2.box.lt ((hb2.cell (p := ⟨w.heap.size, 0, none⟩) hs1).trans k0) (hw2.box.at' 9 _ rfl) hw2.map
  have HVL := Lib.hid hvl
  have HSF := Lib.hid hsf
  have HBD := Lib.hid (fun (U : World) (hU : Below w.heap.size w U) (s : List Bool) (hs : s.length = x.lats.length) => bad_any U B1 N b x p aA nA cA O aO cO (h.next hU) (hin.next hU) hw hok hi10 vs A (hA.next hU) hA64 s hs bl hb0 hb1)
  have HB2 := Lib.hid (hbw1.trans (hb2.mono hbw1.size))
  have HB1 := Lib.hid hbw1
  have HK0 : Hid (∀ U, Below W1.heap.size W1 U → U.cell? ⟨w.heap.size, 0, none⟩ = some (.pointer (some ⟨N, 0, none⟩))) := fun U hU => (hU.cell (p := ⟨w.heap.size, 0, none⟩) hs1).trans k0
  have H12 := Lib.hid hb2
  have HOS := Lib.hid hOs
  have hcO := (own_sl' h.own).cap
  have hgO := (own_sl' h.own).big
  clear h hw1 hw2 hin hw hok hl10 hi10 hA hA64 hOs hOl2 hb0 hb1 hbw1 hs1 hb2 hvl hsf hW2
  obtain ⟨n, hn⟩ : ∃ n, O.length = n := ⟨_, rfl⟩
  rw [hn] at c10 HVL HSF hcO hOl
  have HN := Lib.hid hn
  clear hn
  have hmf : ∀ (fn : Fn) (first cap : Array Value) (w : World), (Instr.makeFunc fn first cap).run Tryz.prog w = .ok (.func fn first cap) w := fun _ _ _ _ => rfl
  go_enter Tryz.func35, Tryz.ntmps35
  go_wp2_with fail
  clear hW1 k0 c10
  with_reducible refine HVL.out.mono ?_
  rintro e w3 ⟨rfl, rfl⟩
  go_wp2_with fail
  with_reducible refine HSF.out.mono ?_
  rintro e w4 ⟨aS, cS, ys, rfl, hpm, hso, ho4, hb4⟩
  have HPM := Lib.hid hpm
  have HSO := Lib.hid hso
  have HS4 := Lib.hid (own_sl' ho4)
  have HB4 := Lib.hid (HB2.out.trans (hb4.mono HB2.out.size))
  have H14 := Lib.hid (H12.out.trans (hb4.mono H12.out.size))
  have HYL : Hid (ys.length = n) := by show _ = _; rw [hpm.length_eq, List.length_map]; exact HN.out
  have hcS := HS4.out.cap
  have hgS := HS4.out.big
  clear hpm hso ho4 hb4 HVL HSF
  go_wp2_with fail
  go_loopw [21] (fun j wr => ∃ (k : Nat), k ≤ n ∧ j = .int .i64 k ∧ Hid (∀ j (hj : j < ys.length), j < k → badIn x A bl ys[j] = none) ∧ Hid (Below w4.heap.size w4 wr)) (fun j _ => n - (intOf j).toNat)
  case atStart => exact ⟨0, Nat.zero_le _, rfl, fun j _ h => absurd h (Nat.not_lt_zero _), Below.refl _ _⟩
  case round =>
    obtain ⟨k, hk, rfl, hF, hB⟩ := hrel
    generalize wr = ws at *
    by_cases hlt : k < n
    · obtain ⟨bi, oi, hx, hae, hbs, d0⟩ := txt_at (HS4.out.next hB.out) hlt
      try simp only at hae
      subst hae
      have hm : ys[k] ∈ O.map (·.1) := HPM.out.subset (List.getElem_mem hx)
      obtain ⟨⟨s, m⟩, hm1, hm2⟩ := List.mem_map.1 hm
      simp only at hm2
      have hsl : s.length = x.lats.length := HOS.out _ hm1
      have HBA := Lib.hid (HBD.out ws (HB4.out.trans (hB.out.mono HB4.out.size)) s hsl)
      have kp := HK0.out ws (H14.out.trans (hB.out.mono H14.out.size))
      have HYK : Hid (∀ h : k < ys.length, ys[k]'h = s) := fun _ => hm2.symm
      have HME := Lib.hid hm1
      have HX := Lib.hid hx
      have HBW := Lib.hid hB.out
      rw [← hm2] at d0
      obtain ⟨o, ho⟩ : ∃ o, badIn x A bl s = o := ⟨_, rfl⟩
      rw [ho] at HBA
      have HO := Lib.hid ho
      obtain ⟨ss, hss⟩ : ∃ t, bs s = t := ⟨_, rfl⟩
      have HSS := Lib.hid hss
      rw [hss] at HBA d0
      clear hm hm1 hm2 hsl ho hss hB
      unfold outB at HBA
      cases o with
      | none =>
        simp only at HBA
        have HF2 : Hid (∀ j (hj : j < ys.length), j < k + 1 → badIn x A bl ys[j] = none) := fun j hj hj2 => by
          by_cases e : j = k
          · subst e; rw [HYK.out hj]; exact HO.out
          · exact hF.out j hj (by omega)
        go_wp2_with fail
        with_reducible refine HBA.out.mono ?_
        rintro e w5 ⟨rfl, hb5⟩
        have HB5 := Lib.hid (HBW.out.trans (hb5.mono HBW.out.size))
        clear hb5 kp
        go_wp2_with fail
        go_roundw
        case rel => exact ⟨k + 1, by omega, by go_num, HF2.out, HB5.out⟩
        case measure => simp [intOf]; omega
      | some i =>
        simp only at HBA
        have HLT : Hid (∀ e ∈ O, badIn x A bl e.1 ≠ none → ¬ ltO O e.1 s) := fun e he hne hlt2 => by
          have hme : e.1 ∈ ys := HPM.out.symm.subset (List.mem_map.2 ⟨e, he, rfl⟩)
          obtain ⟨j, hj, hje⟩ := List.mem_iff_getElem.1 hme
          by_cases hjk : j < k
          · exact hne (by rw [← hje]; exact hF.out j hj hjk)
          · by_cases e2 : j = k
            · subst e2
              have e3 : e.1 = s := hje.symm.trans (HYK.out hj)
              rw [e3] at hlt2
              exact ltO_irrefl O s hlt2
            · have := (List.pairwise_iff_getElem.1 HSO.out) k j HX.out hj (by omega)
              rw [hje, HYK.out HX.out] at this
              exact this hlt2
        obtain ⟨si, hsi⟩ : ∃ t, bs i = t := ⟨_, rfl⟩
        have HSI := Lib.hid hsi
        rw [hsi] at HBA
        clear hsi
        go_wp2_with fail
        with_reducible refine HBA.out.mono ?_
        rintro e w5 ⟨rfl, hb5⟩
        have HB5 := Lib.hid (HBW.out.trans (hb5.mono HBW.out.size))
        clear hb5 kp
        go_wp2_with fail
        refine bodyPost_ret (v := .tuple #[.string ss, .string si, .bool true]) (by simp [results, Tryz.results35, go_sem]) rfl ?_
        refine ⟨_, rfl, .inr ⟨s, i, m, HME.out, HO.out, by rw [← HSS.out, HSI.out], HLT.out⟩, HB4.out.trans (HB5.out.mono HB4.out.size)⟩
    · have HNO : Hid (∀ e ∈ O, badIn x A bl e.1 = none) := fun e he => by
        have hme : e.1 ∈ ys := HPM.out.symm.subset (List.mem_map.2 ⟨e, he, rfl⟩)
        obtain ⟨j, hj, hje⟩ := List.mem_iff_getElem.1 hme
        rw [← hje]
        exact hF.out j hj (by have := HYL.out; omega)
      have HBE := Lib.hid hB.out
      clear hF hB
      go_wp2_with fail
      refine bodyPost_ret (v := .tuple #[.string ⟨#[]⟩, .string ⟨#[]⟩, .bool false]) (by simp [results, Tryz.results35, go_sem]) rfl ?_
      exact ⟨_, rfl, .inl ⟨rfl, HNO.out⟩, HB4.out.trans (HBE.out.mono HB4.out.size)⟩
end EnumC
end Go.Proofs.YtjmmhbmbafjneaaGreatDoor

/-
  enum's walk: back.
-/
namespace Go.Proofs.YtjmmhbmbafjneaaGreatDoor
open Go.RowKit Base Go.Maps
set_option linter.unusedVariables false
set_option linter.unusedSimpArgs false
namespace EnumC
open Circuit BadP StrashP SimV EnumA EnumP GetI MapG Coi EnumW Order

/-- Does an input lead from a state to another one? -/
def stp (x : Circ) (A : List (List Int)) (t s i : List Bool) : Bool := allow x A (vals x t i) && decide (next x t i = s)
/-- Is a state reached in so many steps, and leads to another one? -/
def bck (x : Circ) (A : List (List Int)) (O : Ord) (m : Nat) (s t : List Bool) : Bool := decide (getI (tbl O) t = some (m : Int)) && (allL x.ins.length).any (stp x A t s)
/-- The least such state, and the least such input. -/
def BackIs (x : Circ) (A : List (List Int)) (O : Ord) (m : Nat) (s t i : List Bool) : Prop := (allL x.lats.length).find? (bck x A O m s) = some t ∧ (allL x.ins.length).find? (stp x A t s) = some i

set_option maxRecDepth 8000 in
set_option maxHeartbeats 16000000 in
theorem back_any (w : World) (B1 N b : Nat) (x : Circ) (p : At) (aA : Option Addr) (nA cA : Nat) (O : Ord) (aO : Option Addr) (cO : Nat) (h : WIs B1 N b x p aA nA cA O aO cO w) (hin : InCirc w x p) (hw : WfC x) (hok : CheckOk x) (hl10 : x.lats.length ≤ 10) (hi10 : x.ins.length ≤ 10)
    (vs : List Value) (A : List (List Int)) (hA : Sl2 w aA nA cA vs A) (hA64 : ∀ y ∈ A.flatten, -9223372036854775808 ≤ y ∧ y ≤ 9223372036854775807) (s : List Bool) (hs : s.length = x.lats.length) (m : Nat) (hm : m ≤ 1000000) (hgs : getI (tbl O) s = some ((m : Int) + 1))
    (hex : (allL x.lats.length).any (bck x A O m s) = true) :
    Calls Tryz.prog 63 #[.pointer (some ⟨N, 0, none⟩), .string (bs s)] w fun e w2 => ∃ t i, BackIs x A O m s t i ∧ e = .returned (.agg #[.string (bs t), .string (bs i)]) ∧ Below w.heap.size w w2 := by
  obtain ⟨K, hK⟩ : ∃ m, 2 ^ x.lats.length = m := ⟨_, rfl⟩
  obtain ⟨J, hJ⟩ : ∃ m, 2 ^ x.ins.length = m := ⟨_, rfl⟩
  have hK1 : K ≤ 1024 := by rw [← hK]; exact Nat.pow_le_pow_right (by decide) hl10
  have hJ1 : J ≤ 1024 := by rw [← hJ]; exact Nat.pow_le_pow_right (by decide) hi10
  have HAL := fun U => all_any U x.lats.length hl10
  have HAI := fun U => all_any U x.ins.length hi10
  simp only [hK] at HAL
  simp only [hJ] at HAI
  have HAL := Lib.hid HAL
  have HAI := Lib.hid HAI
  have HKL : Hid ((allL x.lats.length).length = K) := by show _ = _; rw [allL_len, hK]
  have HJL : Hid ((allL x.ins.length).length = J) := by show _ = _; rw [allL_len, hJ]
  obtain ⟨W1, hW1⟩ : ∃ U, w.alloc (.cells #[.string ⟨#[]⟩, .string ⟨#[]⟩] 106) = U := ⟨_, rfl⟩
  have hb1 : Below w.heap.size w W1 := by rw [← hW1]; exact (Below.refl _ _).alloc (Nat.le_refl _) _
  have hx1 : BoxN w.heap.size [.string ⟨#[]⟩, .string ⟨#[]⟩] W1 := by rw [← hW1]; exact BoxN.new w _ _
  have HWI := Lib.hid (fun (U : World) (hU : Below W1.heap.size W1 U) => (h.next hb1).next hU)
  have HVAL := Lib.hid (fun (U : World) (hU : Below W1.heap.size W1 U) (t inp : List Bool) (ht : t.length = x.lats.length) (hinp : inp.length = x.ins.length) => values_any U B1 N b x p aA nA cA O aO cO ((h.next hb1).next hU) ((hin.next hb1).next hU) hw hok vs A ((hA.next hb1).next hU) hA64 t inp ht hinp)
  have HNEX := Lib.hid (fun (U : World) (hU : Below W1.heap.size W1 U) (t inp : List Bool) (ht : t.length = x.lats.length) (hinp : inp.length = x.ins.length) => SimV.next_any U x p ((hin.next hb1).next hU) hw hok t inp ht hinp)
  have HLK := Lib.hid (fun (U : World) (hU : Below W1.heap.size W1 U) (t : List Bool) (ht : t.length = x.lats.length) => ((h.next hb1).next hU).map.look (T := 67) kindS Tryz.underlying67 Tryz.underlying3 (zeroI U) (x := t) (by show _ ≤ _; omega))
  have HLS := fun (U : World) (hU : Below W1.heap.size W1 U) => ((h.next hb1).next hU).map.look1 (T := 67) kindS Tryz.underlying67 Tryz.underlying3 (zeroI U) (x := s) (by show _ ≤ _; omega)
  simp only [hgs] at HLS
  have HX1 := Lib.hid (fun (U : World) (hU : Below W1.heap.size W1 U) => hx1.next hU hx1.lt)
  have HB1 := Lib.hid hb1
  have HEX := Lib.hid hex
  have hcL := hin.lats.cap
  have hgL := hin.lats.big
  have hcI := hin.ins.cap
  have hgI := hin.ins.big
  have HBQ : Hid (∀ t, bck x A O m s t = (decide (getI (tbl O) t = some (m : Int)) && (allL x.ins.length).any (stp x A t s))) := fun _ => rfl
  have HSQ : Hid (∀ t i, stp x A t s i = (allow x A (vals x t i) && decide (next x t i = s))) := fun _ _ => rfl
  have c2 := (HWI.out W1 (Below.refl _ _)).box.at' 2 _ rfl
  obtain ⟨a1, b1, a2, b2, a3, b3, a4, b4, a5, b5, a6, b6, a7, b7⟩ := p
  simp only [cells] at *
  obtain ⟨ss, hss⟩ : ∃ t, bs s = t := ⟨_, rfl⟩
  have HSS := Lib.hid hss
  have ekv : kv s = .string ss := by rw [← hss]; rfl
  simp only [ekv] at HLS
  have HLS := Lib.hid HLS
  rw [hss]
  clear h hin hw hok hl10 hi10 hA hA64 hs hgs hex hK hJ hb1 hx1 hss ekv
  go_enter Tryz.func63, Tryz.ntmps63
  go_wp2_with fail
  go_step3
  go_wp2_with fail
  go_step3
  go_wp2_with fail
  clear hW1 c2
  with_reducible refine (HAL.out W1).mono ?_
  rintro e w2 ⟨aI, cI, rfl, hoI, hb2⟩
  have HSI := Lib.hid (own_sl' hoI)
  have HB2 := Lib.hid hb2
  have hcK := HSI.out.cap
  have hgK := HSI.out.big
  clear hoI hb2
  go_wp2_with fail
  go_loopw [23] (fun j wr => ∃ (k : Nat), k ≤ K ∧ j = .int .i64 k ∧ Hid (((allL x.lats.length).take k).any (bck x A O m s) = false) ∧ Hid (Below w2.heap.size w2 wr)) (fun j _ => K - (intOf j).toNat)
  case atStart => exact ⟨0, Nat.zero_le _, rfl, rfl, Below.refl _ _⟩
  case round =>
    obtain ⟨k, hk, rfl, hF, hB⟩ := hrel
    obtain ⟨ws, hws⟩ : ∃ U : World, U = wr := ⟨_, rfl⟩
    subst hws
    by_cases hlt : k < K
    · obtain ⟨bi, oi, hx, hae, hbs, d0⟩ := txt_at (HSI.out.next hB.out) hlt
      try simp only at hae
      subst hae
      have htl := at_len _ _ _ (List.getElem?_eq_getElem hx)
      obtain ⟨hf1, hf2⟩ := find_take (bck x A O m s) _ hx hF.out
      rw [HBQ.out] at hf1 hf2
      generalize (allL x.lats.length)[k] = t at *
      have HF1 := Lib.hid hf1
      have HF2 := Lib.hid hf2
      have HTL := Lib.hid htl
      have hbw := HB2.out.trans (hB.out.mono HB2.out.size)
      have HBW := Lib.hid hbw
      have c9 := (HWI.out ws hbw).box.at' 9 _ rfl
      have hlk := HLK.out ws hbw t htl
      have hls := HLS.out ws hbw
      have c1 := (HWI.out ws hbw).box.at' 1 _ rfl
      try simp only at c9 c1
      obtain ⟨st, hst⟩ : ∃ u, bs t = u := ⟨_, rfl⟩
      have HST := Lib.hid hst
      have ekv : kv t = .string st := by rw [← hst]; rfl
      rw [ekv] at hlk
      rw [hst] at d0
      clear htl hf1 hf2 hbw hst ekv
      have hls2 : (Instr.lookup 67 (.map (some b)) (.string ss) false).run Tryz.prog ws = .ok (.int .i64 ((m : Int) + 1)) ws := hls
      clear hls
      cases hg : getI (tbl O) t with
      | none =>
        rw [hg] at hlk
        have hlk2 : (Instr.lookup 67 (.map (some b)) (.string st) true).run Tryz.prog ws = .ok (.tuple #[.int .i64 0, .bool false]) ws := hlk
        have HN := Lib.hid (HF2.out (by rw [hg]; rfl))
        have HBB := Lib.hid hB.out
        clear hlk hg hB
        go_wp2_with fail
        go_roundw
        case rel => exact ⟨k + 1, by omega, by go_num, HN.out, HBB.out⟩
        case measure => simp [intOf]; omega
      | some q =>
        rw [hg] at hlk
        have hlk2 : (Instr.lookup 67 (.map (some b)) (.string st) true).run Tryz.prog ws = .ok (.tuple #[.int .i64 q, .bool true]) ws := hlk
        clear hlk
        by_cases hqm : q = (m : Int)
        · have HG : Hid (getI (tbl O) t = some (m : Int)) := by show _ = _; rw [hg, hqm]
          subst hqm
          have HBB := Lib.hid hB.out
          clear hg hB
          go_wp2_with fail
          clear hlk2 hls2 c9
          with_reducible refine (HAI.out ws).mono ?_
          rintro e w3 ⟨aJ, cJ, rfl, hoJ, hb3⟩
          have HSJ := Lib.hid (own_sl' hoJ)
          have HB3 := Lib.hid (HBW.out.trans (hb3.mono HBW.out.size))
          have H23 := Lib.hid (HBB.out.trans (hb3.mono HBB.out.size))
          have hcQ := HSJ.out.cap
          have hgQ := HSJ.out.big
          clear hoJ hb3 c1
          go_wp2_with fail
          go_loopw [57] (fun j wr => ∃ (k2 : Nat), k2 ≤ J ∧ j = .int .i64 k2 ∧ Hid (((allL x.ins.length).take k2).any (stp x A t s) = false) ∧ Hid (Below w3.heap.size w3 wr)) (fun j _ => J - (intOf j).toNat)
          case atStart => exact ⟨0, Nat.zero_le _, rfl, rfl, Below.refl _ _⟩
          case round =>
            obtain ⟨k2, hk2, rfl, hF2, hB2⟩ := hrel
            generalize wr = wt at *
            by_cases hlt2 : k2 < J
            · obtain ⟨bj, oj, hx2, hae2, hbs2, d2⟩ := txt_at (HSJ.out.next hB2.out) hlt2
              try simp only at hae2
              subst hae2
              have hil := at_len _ _ _ (List.getElem?_eq_getElem hx2)
              obtain ⟨hs1, hs2⟩ := find_take (stp x A t s) _ hx2 hF2.out
              rw [HSQ.out] at hs1 hs2
              generalize (allL x.ins.length)[k2] = inp at *
              have HS1 := Lib.hid hs1
              have HS2 := Lib.hid hs2
              have hbt := HB3.out.trans (hB2.out.mono HB3.out.size)
              have HBT := Lib.hid hbt
              have hbx := (HWI.out wt hbt).box
              have c0 := hbx.at' 0 _ rfl
              have c1 := hbx.at' 1 _ rfl
              have c2 := hbx.at' 2 _ rfl
              have c3 := hbx.at' 3 _ rfl
              have c4 := hbx.at' 4 _ rfl
              have c5 := hbx.at' 5 _ rfl
              have c6 := hbx.at' 6 _ rfl
              have c7 := hbx.at' 7 _ rfl
              try simp only at c0 c1 c2 c3 c4 c5 c6 c7
              have hnx := HNEX.out wt hbt t inp HTL.out hil
              have hva := fun (U : World) (hU : Below W1.heap.size W1 U) => HVAL.out U hU t inp HTL.out hil
              have hse := bs_eq (next x t inp) s
              rw [HSS.out] at hse
              obtain ⟨si, hsi⟩ : ∃ u, bs inp = u := ⟨_, rfl⟩
              have HSI2 := Lib.hid hsi
              rw [hsi] at d2
              simp only [hsi, HST.out] at hnx hva
              have HNX := Lib.hid hnx
              have HVA := Lib.hid hva
              generalize hsd : decide (next x t inp = s) = r at *
              generalize allow x A (vals x t inp) = q at *
              generalize bs (next x t inp) = sN at *
              clear hs1 hs2 hbt hbx hil hsi hnx hva hF2 hsd
              go_wp2_with fail
              with_reducible refine HNX.out.mono ?_
              rintro e w4 ⟨rfl, hb4⟩
              have hb14 := HBT.out.trans (hb4.mono HBT.out.size)
              have HVA4 := Lib.hid (HVA.out w4 hb14)
              have HB4 := Lib.hid (hB2.out.trans (hb4.mono hB2.out.size))
              clear hb4 hb14 c0 c1 c2 c3 c4 c5 c6 c7 hB2 d2
              go_wp2_with fail
              with_reducible refine HVA4.out.mono ?_
              rintro e w5 ⟨rfl, hb5⟩
              have HB5 := Lib.hid (HB4.out.trans (hb5.mono HB4.out.size))
              clear hb5
              cases q
              · have HN := Lib.hid (HS2.out rfl)
                go_wp2_with fail
                go_roundw
                case rel => exact ⟨k2 + 1, by omega, by go_num, HN.out, HB5.out⟩
                case measure => simp [intOf]; omega
              · cases r
                · have HN := Lib.hid (HS2.out rfl)
                  go_wp2_with fail
                  go_roundw
                  case rel => exact ⟨k2 + 1, by omega, by go_num, HN.out, HB5.out⟩
                  case measure => simp [intOf]; omega
                · have HY := Lib.hid (HS1.out rfl)
                  have HBC : Hid (bck x A O m s t = true) := by
                    show _ = _
                    rw [HBQ.out, HG.out]
                    have hany : (allL x.ins.length).any (stp x A t s) = true := List.any_eq_true.2 ⟨inp, List.mem_of_find?_eq_some HY.out, List.find?_some HY.out⟩
                    rw [hany]; simp
                  have HFT := Lib.hid (HF1.out (by rw [← HBQ.out]; exact HBC.out))
                  have hx5 := HX1.out w5 (HB3.out.trans (HB5.out.mono HB3.out.size))
                  have y0 := hx5.at' 0 _ rfl
                  have y1 := hx5.at' 1 _ rfl
                  have z0 := hx5.fz 0
                  have z1 := hx5.fz 1
                  have HFIN := Lib.hid (HB1.out.trans ((HB3.out.trans (HB5.out.mono HB3.out.size)).mono HB1.out.size))
                  clear hx5
                  have hx6 := (HX1.out w5 (HB3.out.trans (HB5.out.mono HB3.out.size))).set 0 (.string st)
                  have hx7 := hx6.set 1 (.string si)
                  have r0 := hx7.at' 0 _ rfl
                  have r1 := hx7.at' 1 _ rfl
                  have HFI2 := Lib.hid ((HFIN.out.setCell (p := ⟨w.heap.size, 0, none⟩) (Nat.le_refl _) (.string st)).setCell (p := ⟨w.heap.size, 1, none⟩) (Nat.le_refl _) (.string si))
                  clear hx6 hx7
                  go_wp2_with fail
                  rw [Exit.noGoto_ret]
                  refine bodyPost_ret (v := .agg #[.string st, .string si]) (by simp [results, Tryz.results63, go_sem, r0, r1]) rfl ?_
                  exact ⟨t, inp, ⟨HFT.out, HY.out⟩, by rw [HST.out, HSI2.out], HFI2.out⟩
            · have hany : (allL x.ins.length).any (stp x A t s) = false := by
                have h1 := hF2.out
                rwa [List.take_of_length_le (by have := HJL.out; omega)] at h1
              have HN := Lib.hid (HF2.out (by rw [hany, Bool.and_false]))
              have HBE := Lib.hid (H23.out.trans (hB2.out.mono H23.out.size))
              clear hany hF2 hB2
              go_wp2_with fail
              go_roundw
              case rel => exact ⟨k + 1, by omega, by go_num, HN.out, HBE.out⟩
              case measure => simp [intOf]; omega
        · have HN := Lib.hid (HF2.out (by
            rw [hg]
            have : ¬ (some q = some (m : Int)) := fun e => hqm (Option.some.inj e)
            rw [decide_eq_false this]; rfl))
          have HBB := Lib.hid hB.out
          have hqm2 : (q != (m : Int)) = true := by simpa using hqm
          clear hg hB hqm
          go_wp2_with fail
          go_roundw
          case rel => exact ⟨k + 1, by omega, by go_num, HN.out, HBB.out⟩
          case measure => simp [intOf]; omega
    · have h1 := hF.out
      rw [List.take_of_length_le (by have := HKL.out; omega), HEX.out] at h1
      cases h1
end EnumC
end Go.Proofs.YtjmmhbmbafjneaaGreatDoor

/-
  enum's walk: path.
-/
namespace Go.Proofs.YtjmmhbmbafjneaaGreatDoor
open Go.RowKit Base Go.Maps
set_option linter.unusedVariables false
set_option linter.unusedSimpArgs false
namespace EnumC
open Circuit BadP StrashP SimV EnumA EnumP GetI MapG Coi EnumW Order
open Go.Shelf Go.Sort

def revLaidS_ren : Go.Shelf.Ren := ⟨fun | 35 => 64 | n => n, fun | 22 => 30 | 23 => 9 | 3 => 3 | 4 => 4 | 0 => 0 | n => n, fun | n => n⟩
theorem revLaidS : Go.Proofs.SlLaysE.n35 Tryz.prog revLaidS_ren := {
  mixed := by kernel_rfl
  f35 := ⟨Tryz.f64.name, by decide, Tryz.func64.trans (congrArg some (by kernel_rfl))⟩
  t0 := Tryz.underlying0
  a0 := Tryz.isAgg0
  z0 := Tryz.sizeOf0
  v0 := Tryz.zeroValue0
  t3 := Tryz.underlying3
  a3 := Tryz.isAgg3
  z3 := Tryz.sizeOf3
  v3 := Tryz.zeroValue3
  t4 := Tryz.underlying4
  a4 := Tryz.isAgg4
  z4 := Tryz.sizeOf4
  v4 := Tryz.zeroValue4
  t22 := Tryz.underlying30
  a22 := Tryz.isAgg30
  z22 := Tryz.sizeOf30
  v22 := Tryz.zeroValue30
  a23 := Tryz.isAgg9
  z23 := Tryz.sizeOf9 }

def encQ (q : List Bool) : Value := .string (bs q)
set_option maxHeartbeats 1000000 in
theorem rev_own (w : World) (B : Nat) (a : Option Addr) (n c : Nat) (xs : List (List Bool)) (hown : w.ownsRow B 9 1 (.slice a n c) n (txt xs)) (hB : B ≤ w.heap.size) :
    Calls Tryz.prog 64 #[.slice a n c] w fun e w' => e = .returned (.tuple #[]) ∧ w'.ownsRow B 9 1 (.slice a n c) n (txt xs.reverse) ∧ Below B w w' := by
  have hl := hown.1
  rw [txt_len, Nat.mul_one] at hl
  rcases hown.2 with ⟨hv, hnil⟩ | ⟨gb, cap, cur, hv, hgb, hh, h1, h2, h3, h4⟩
  · simp only [Value.slice.injEq] at hv
    obtain ⟨rfl, rfl, rfl⟩ := hv
    have hx : xs = [] := List.eq_nil_of_length_eq_zero hl
    subst hx
    have hcon := AnyE.slices_Reverse_empty revLaidS none 0 w
    change Calls Tryz.prog 64 _ _ _ at hcon
    refine hcon.mono fun e w' h => ?_
    obtain ⟨he, hw⟩ := h
    subst hw
    exact ⟨he, World.ownsRow_nil _ _ _ _, Below.refl _ _⟩
  · simp only [Value.slice.injEq] at hv
    obtain ⟨rfl, _, rfl⟩ := hv
    have ht : cur.toList.take xs.length = xs.map encQ := by rw [hl, ← Nat.mul_one n, h4]; rfl
    have hcon := AnyE.slices_Reverse revLaidS encQ (fun _ => rfl) gb 0 c xs w (OwnP.holds hh ht) (by rw [hl]; unfold maxLen at h2; omega)
    change Calls Tryz.prog 64 _ _ _ at hcon
    rw [hl] at hcon
    refine hcon.mono ?_
    rintro e w' ⟨rfl, q, rfl⟩
    refine ⟨rfl, ?_, ?_⟩
    · have ho := OwnP.own_put (enc := encQ) (n := q) (os := #[]) (ys := xs.reverse) (zs := []) hgb hh (by rw [List.append_nil, List.length_reverse]; omega) h2 h3
      rw [OwnP.grow_nil, List.append_nil, List.length_reverse, hl] at ho
      exact ho
    · have hb := OwnP.below_put (enc := encQ) (w := w) (n := q) (os := #[]) xs.reverse.toArray hgb hB
      rw [OwnP.grow_nil] at hb
      exact hb

theorem tbl_mem {O : Ord} {s : List Bool} {m : Nat} (h : getI (tbl O) s = some (m : Int)) : (s, m) ∈ O := by
  have h1 := getI_mem h
  unfold tbl at h1
  rw [List.mem_reverse, List.mem_map] at h1
  obtain ⟨⟨t, n⟩, h2, h3⟩ := h1
  simp only [Prod.mk.injEq] at h3
  obtain ⟨rfl, h3⟩ := h3
  have : n = m := by omega
  rw [← this]; exact h2
theorem back_ex {x : Circ} {A : List (List Int)} {O : Ord} (hK : Known x A O) {s : List Bool} {m : Nat} (hs : (s, m + 1) ∈ O) : (allL x.lats.length).any (bck x A O m s) = true := by
  obtain ⟨s0, i, h1, h2, h3, h4⟩ := hK.sound _ hs
  simp only at h4
  obtain ⟨k, hk, hle⟩ := hK.all m s0 h1
  have hkm : k = m := by
    obtain ⟨k', hk', hle'⟩ := hK.all (k + 1) s ⟨s0, i, hK.sound _ hk, h2, h3, h4⟩
    have := nodup_one hK.nodup hk' hs
    omega
  subst hkm
  rw [List.any_eq_true]
  refine ⟨s0, all_mem.2 (R_len h1), ?_⟩
  unfold bck
  rw [(tbl_get hK.nodup s0).1 k hk, Bool.and_eq_true]
  refine ⟨by simp, List.any_eq_true.2 ⟨i, all_mem.2 h2, ?_⟩⟩
  unfold stp
  rw [h3, h4]; simp
theorem backIs_mem {x : Circ} {A : List (List Int)} {O : Ord} {m : Nat} {s t i : List Bool} (h : BackIs x A O m s t i) : (t, m) ∈ O ∧ i.length = x.ins.length ∧ allow x A (vals x t i) = true ∧ next x t i = s := by
  have h1 := List.find?_some h.1
  have h2 := List.find?_some h.2
  have h3 := List.mem_of_find?_eq_some h.2
  unfold bck at h1
  unfold stp at h2
  simp only [Bool.and_eq_true, decide_eq_true_eq] at h1 h2
  exact ⟨tbl_mem h1.1, all_mem.1 h3, h2.1, h2.2⟩

/-- From a state on, by the least ways, to another one. -/
def Tail (x : Circ) (A : List (List Int)) (O : Ord) : List Bool → Nat → List (List Bool) → List Bool → Nat → Prop
  | s0, m, [], s, n => s0 = s ∧ m = n
  | s0, m, i :: r, s, n => ∃ t, BackIs x A O m t s0 i ∧ Tail x A O t (m + 1) r s n
theorem tail_len {x : Circ} {A : List (List Int)} {O : Ord} : ∀ {r : List (List Bool)} {s0 : List Bool} {m : Nat} {s : List Bool} {n : Nat}, Tail x A O s0 m r s n → m + r.length = n
  | [], _, _, _, _, h => h.2
  | i :: r, _, _, _, _, ⟨t, _, h⟩ => by have := tail_len h; rw [List.length_cons]; omega
theorem own_nextH {w w' : World} {B : Nat} {e : TypeId} {size : Nat} {v : Value} {n : Nat} {vs : List Value} (h : w.ownsRow B e size v n vs) (hb : Below w.heap.size w w') : w'.ownsRow B e size v n vs := by
  refine ⟨h.1, ?_⟩
  rcases h.2 with hn | ⟨g, cap, cur, rfl, hg, hh, r⟩
  · exact .inl hn
  · exact .inr ⟨g, cap, cur, rfl, hg, by rw [hb.block g (Array.getElem?_eq_some_iff.1 hh).1]; exact hh, r⟩
theorem own_mono {w : World} {B B' : Nat} {e : TypeId} {size : Nat} {v : Value} {n : Nat} {vs : List Value} (h : w.ownsRow B e size v n vs) (hb : B' ≤ B) : w.ownsRow B' e size v n vs := by
  refine ⟨h.1, ?_⟩
  rcases h.2 with hn | ⟨g, cap, cur, rfl, hg, r⟩
  · exact .inl hn
  · exact .inr ⟨g, cap, cur, rfl, Nat.le_trans hb hg, r⟩
def lenV : Value → Nat
  | .slice _ n _ => n
  | _ => 0
theorem own_one {w : World} {B : Nat} {e : TypeId} {v : Value} (hB : B ≤ w.heap.size) (hv : v.oneCell' = true) : (w.alloc (.cells #[v] e)).ownsRow B e 1 (.slice (some ⟨w.heap.size, 0, none⟩) 1 1) 1 [v] := by
  refine ⟨by simp, .inr ⟨w.heap.size, 1, #[v], rfl, hB, ?_, Nat.le_refl _, by unfold maxLen; omega, by simp, by simp⟩⟩
  show (w.heap.push _)[w.heap.size]? = _
  simp

set_option maxRecDepth 8000 in
set_option maxHeartbeats 16000000 in
theorem path_any (w : World) (B1 N b : Nat) (x : Circ) (p : At) (aA : Option Addr) (nA cA : Nat) (O : Ord) (aO : Option Addr) (cO : Nat) (h : WIs B1 N b x p aA nA cA O aO cO w) (hin : InCirc w x p) (hw : WfC x) (hok : CheckOk x) (hl10 : x.lats.length ≤ 10) (hi10 : x.ins.length ≤ 10)
    (vs : List Value) (A : List (List Int)) (hA : Sl2 w aA nA cA vs A) (hA64 : ∀ y ∈ A.flatten, -9223372036854775808 ≤ y ∧ y ≤ 9223372036854775807) (hK : Known x A O) (s : List Bool) (n : Nat) (hsn : (s, n) ∈ O) (hn : n ≤ 100000) (i0 : List Bool) (kb : Int) :
    Calls Tryz.prog 36 #[.pointer (some ⟨N, 0, none⟩), .string (bs s), .string (bs i0), .int .i64 kb] w fun e w2 => ∃ s0 ins a c, Tail x A O s0 0 ins s n ∧ (s0, 0) ∈ O ∧ e = .returned (.agg #[.int .i64 kb, .string (bs s0), .slice a (n + 1) c]) ∧ w2.ownsRow w.heap.size 9 1 (.slice a (n + 1) c) (n + 1) (txt (ins ++ [i0])) ∧ Below w.heap.size w w2 := by
  obtain ⟨W1, hW1⟩ : ∃ U, w.alloc (.cells #[.int .i64 0, .string ⟨#[]⟩, .slice none 0 0] 44) = U := ⟨_, rfl⟩
  have hb1 : Below w.heap.size w W1 := by rw [← hW1]; exact (Below.refl _ _).alloc (Nat.le_refl _) _
  have hx1 : BoxN w.heap.size [.int .i64 0, .string ⟨#[]⟩, .slice none 0 0] W1 := by rw [← hW1]; exact BoxN.new w _ _
  have hs1 : w.heap.size < W1.heap.size := hx1.lt
  have HWI := Lib.hid (fun (U : World) (hU : Below W1.heap.size W1 U) => (h.next hb1).next hU)
  have HX1 := Lib.hid (fun (U : World) (hU : Below W1.heap.size W1 U) => hx1.next hU hx1.lt)
  have HLN : Hid (∀ t m, (t, m) ∈ O → t.length = x.lats.length) := fun t m ht => R_len (hK.sound _ ht)
  have HBK := Lib.hid (fun (U : World) (hU : Below W1.heap.size W1 U) (t : List Bool) (m : Nat) (ht : (t, m + 1) ∈ O) (hm : m ≤ 1000000) => back_any U B1 N b x p aA nA cA O aO cO ((h.next hb1).next hU) ((hin.next hb1).next hU) hw hok hl10 hi10 vs A ((hA.next hb1).next hU) hA64 t (R_len (hK.sound _ ht)) m hm (by have := (tbl_get hK.nodup t).1 _ ht; rw [this]; rfl) (back_ex hK ht))
  have HLS : Hid (∀ (U : World), Below W1.heap.size W1 U → ∀ t m, (t, m) ∈ O → (Instr.lookup 67 (.map (some b)) (.string (bs t)) false).run Tryz.prog U = .ok (.int .i64 (m : Int)) U) := fun U hU t m ht => by
    have h2 : t.length = x.lats.length := R_len (hK.sound _ ht)
    have h1 := ((h.next hb1).next hU).map.look1 (T := 67) kindS Tryz.underlying67 Tryz.underlying3 (zeroI U) (x := t) (by show _ ≤ _; omega)
    rw [(tbl_get hK.nodup t).1 m ht] at h1
    exact h1
  have HB1 := Lib.hid hb1
  have HSN := Lib.hid hsn
  obtain ⟨W2, hW2⟩ : ∃ U, W1.alloc (.cells #[.string (bs i0)] 9) = U := ⟨_, rfl⟩
  have hb2 : Below W1.heap.size W1 W2 := by rw [← hW2]; exact (Below.refl _ _).alloc (Nat.le_refl _) _
  have ho2 : W2.ownsRow W1.heap.size 9 1 (.slice (some ⟨W1.heap.size, 0, none⟩) 1 1) 1 (txt [i0]) := by rw [← hW2]; exact own_one (Nat.le_refl _) rfl
  have HB2 := Lib.hid hb2
  have HO2 := Lib.hid ho2
  have HNN : Hid (w.heap.size < W1.heap.size) := hs1
  clear h hin hw hok hl10 hi10 hA hA64 hK hsn hb1 hx1 hb2 ho2 hs1
  obtain ⟨ss, hss⟩ : ∃ t, bs s = t := ⟨_, rfl⟩
  have HSS := Lib.hid hss
  rw [hss]
  clear hss
  go_enter Tryz.func36, Tryz.ntmps36
  go_wp2_with fail
  clear hW1 hW2
  go_loopw [1, 9] (fun u1 u9 wr => ∃ (t : List Bool) (m : Nat) (ins : List (List Bool)) (a : Option Addr) (c : Nat), u1 = .string (bs t) ∧ u9 = .slice a (n + 1 - m) c ∧ Hid (m ≤ n) ∧ Hid ((t, m) ∈ O) ∧ Hid (Tail x A O t m ins s n) ∧ Hid (wr.ownsRow W1.heap.size 9 1 (.slice a (n + 1 - m) c) (n + 1 - m) (txt (i0 :: ins.reverse))) ∧ Hid (Below W1.heap.size W1 wr)) (fun _ u9 _ => n + 1 - lenV u9)
  case atStart => exact ⟨s, n, [], _, 1, by rw [HSS.out], by rw [show n + 1 - n = 1 from by omega], Nat.le_refl _, HSN.out, ⟨rfl, rfl⟩, by rw [show n + 1 - n = 1 from by omega]; exact HO2.out, HB2.out⟩
  case round =>
    obtain ⟨t, m, ins, a, c, rfl, rfl, hmn, hmem, hT, hO, hB⟩ := hrel
    generalize wr = ws at *
    have c9 := (HWI.out ws hB.out).box.at' 9 _ rfl
    try simp only at c9
    have hlk := HLS.out ws hB.out t m hmem.out
    by_cases hm0 : m = 0
    · subst hm0
      have HBB := Lib.hid hB.out
      have HOO := Lib.hid hO.out
      have HTT := Lib.hid hT.out
      have HME := Lib.hid hmem.out
      clear hB hO hT hmem hmn
      have hrev := rev_own ws W1.heap.size a (n + 1) c (i0 :: ins.reverse) HOO.out HBB.out.size
      have e1 : (i0 :: ins.reverse).reverse = ins ++ [i0] := by simp
      rw [e1] at hrev
      have HRV := Lib.hid hrev
      obtain ⟨st, hst⟩ : ∃ u, bs t = u := ⟨_, rfl⟩
      have HST := Lib.hid hst
      have ekv : kv t = .string st := by rw [← hst]; rfl
      try rw [ekv] at hlk
      try rw [hst] at hlk
      rw [hst]
      clear hrev e1 hst ekv
      go_wp2_with fail
      clear c9 hlk
      with_reducible refine HRV.out.mono ?_
      rintro e w5 ⟨rfl, hor, hb5⟩
      have HOR := Lib.hid hor
      have HB5 := Lib.hid (HBB.out.trans hb5)
      have hx5 := HX1.out w5 HB5.out
      have y0 := hx5.at' 0 _ rfl
      have y1 := hx5.at' 1 _ rfl
      have y2 := hx5.at' 2 _ rfl
      have z0 := hx5.fz 0
      have z1 := hx5.fz 1
      have z2 := hx5.fz 2
      have hx6 := ((hx5.set 0 (.int .i64 kb)).set 1 (.string st)).set 2 (.slice a (n + 1) c)
      have r0 := hx6.at' 0 _ rfl
      have r1 := hx6.at' 1 _ rfl
      have r2 := hx6.at' 2 _ rfl
      have HFI2 := Lib.hid ((((HB1.out.trans (HB5.out.mono HB1.out.size)).setCell (p := ⟨w.heap.size, 0, none⟩) (Nat.le_refl _) (.int .i64 kb)).setCell (p := ⟨w.heap.size, 1, none⟩) (Nat.le_refl _) (.string st)).setCell (p := ⟨w.heap.size, 2, none⟩) (Nat.le_refl _) (.slice a (n + 1) c))
      clear hx5 hx6 hor hb5
      go_wp2_with fail
      refine bodyPost_ret (v := .agg #[.int .i64 kb, .string st, .slice a (n + 1) c]) (by simp [results, Tryz.results36, go_sem, r0, r1, r2]) rfl ?_
      exact ⟨t, ins, a, c, HTT.out, HME.out, by rw [HST.out], own_mono (Go.RowKit.ownsRow_setCell_below (Go.RowKit.ownsRow_setCell_below (Go.RowKit.ownsRow_setCell_below HOR.out (a := ⟨w.heap.size, 0, none⟩) HNN.out _) (a := ⟨w.heap.size, 1, none⟩) HNN.out _) (a := ⟨w.heap.size, 2, none⟩) HNN.out _) (Nat.le_of_lt HNN.out), HFI2.out⟩
    · obtain ⟨k, rfl⟩ : ∃ k, m = k + 1 := ⟨m - 1, by omega⟩
      have hbk := HBK.out ws hB.out t k hmem.out (by have := hmn.out; omega)
      have HBB := Lib.hid hB.out
      have HOO := Lib.hid hO.out
      have HTT := Lib.hid hT.out
      have HMN := Lib.hid hmn.out
      clear hB hO hT hmem hmn hm0
      obtain ⟨st, hst⟩ : ∃ u, bs t = u := ⟨_, rfl⟩
      have HST := Lib.hid hst
      rw [hst] at hlk hbk
      rw [hst]
      clear hst
      have HBQ := Lib.hid hbk
      clear hbk
      go_wp2_with fail
      with_reducible refine HBQ.out.mono ?_
      rintro e w3 ⟨t', i, hBI, rfl, hb3⟩
      have HBI := Lib.hid hBI
      obtain ⟨w4, hw4⟩ : ∃ U, w3.alloc (.cells #[.string (bs t'), .string (bs i)] 106) = U := ⟨_, rfl⟩
      obtain ⟨st', hst'⟩ : ∃ u, bs t' = u := ⟨_, rfl⟩
      obtain ⟨si, hsi⟩ : ∃ u, bs i = u := ⟨_, rfl⟩
      have HST' := Lib.hid hst'
      have HSI := Lib.hid hsi
      rw [hst', hsi] at hw4 
      rw [hst', hsi] 
      have hx4 : BoxN w3.heap.size [.string st', .string si] w4 := by rw [← hw4]; exact BoxN.new w3 _ _
      have y0 := hx4.at' 0 _ rfl
      have y1 := hx4.at' 1 _ rfl
      have HB4 : Hid (Below W1.heap.size W1 w4) := by rw [← hw4]; exact (HBB.out.trans (hb3.mono HBB.out.size)).alloc (Nat.le_trans HBB.out.size hb3.size) _
      have hle4 := HB4.out.size
      have HO4 : Hid (w4.ownsRow W1.heap.size 9 1 (.slice a (n + 1 - (k + 1)) c) (n + 1 - (k + 1)) (txt (i0 :: ins.reverse))) := by rw [← hw4]; exact (own_nextH HOO.out hb3).alloc _
      have HE : Hid (n + 1 - k = n + 1 - (k + 1) + 1) := by show _ = _; have := HMN.out; omega
      have ek : n + 1 - (k + 1) = n - k := by omega
      rw [ek] at HO4 HE
      have ho4 := HO4.out
      clear hBI hst' hsi c9 hlk hx4 hb3
      go_wp2_with ((with_reducible refine wpL_push (B := W1.heap.size) _ (.string si) _ (n - k) (txt (i0 :: ins.reverse)) info_st Tryz.underlying30 ?_ ?_ ?_ ?_ ?_ ho4 ?_ ?_ ?_ HB4.out ?_); rfl; rfl; rfl; rfl; rfl; (exact hle4); omega; omega; (intro a5 c5 w5 hown5 hb5 hs5))
      go_roundw
      case rel => 
        refine ⟨t', k, i :: ins, a5, c5, by rw [HST'.out], by rw [HE.out], by have := HMN.out; show _ ≤ _; omega, (backIs_mem HBI.out).1, ⟨t, by rw [HST.out] at *; exact HBI.out, HTT.out⟩, ?_, hb5⟩
        show World.ownsRow _ _ _ _ _ _ _
        have e2 : txt (i0 :: (i :: ins).reverse) = txt (i0 :: ins.reverse) ++ [.string si] := by rw [← HSI.out]; simp [txt]
        rw [e2, HE.out]; exact hown5
      case measure => show n + 1 - _ < n + 1 - _; simp [lenV]; have := HMN.out; omega
end EnumC
end Go.Proofs.YtjmmhbmbafjneaaGreatDoor

/-
  A slice of the call's own whose elements are slices of integers: each of the call's own, or lying below.
-/
namespace Go.Proofs.YtjmmhbmbafjneaaGreatDoor
open Go.RowKit
set_option linter.unusedVariables false
set_option linter.unusedSimpArgs false
namespace Base

/-- x is a slice that holds xs: of the call's own from N on, or below N. -/
def RowOk (w : World) (N : Nat) (e0 : TypeId) (x : Value) (xs : List Int) : Prop :=
  ∃ a c, x = .slice a xs.length c ∧ Sl w a xs.length c (ints xs) ∧ ((∀ b o, a = some ⟨b, o, none⟩ → xs ≠ [] → b < N) ∨ w.ownsRow N e0 1 x xs.length (ints xs))

theorem RowOk.next {w w' : World} {N : Nat} {e0 : TypeId} {x : Value} {xs : List Int} (h : RowOk w N e0 x xs) (hb : Below w.heap.size w w') : RowOk w' N e0 x xs := by
  obtain ⟨a, c, rfl, hs, h⟩ := h
  refine ⟨a, c, rfl, hs.next hb, ?_⟩
  rcases h with h | h
  · exact .inl h
  · exact .inr (own_next h hb)

theorem RowOk.one {w : World} {N : Nat} {e0 : TypeId} {x : Value} {xs : List Int} (h : RowOk w N e0 x xs) : x.oneCell' = true := by
  obtain ⟨a, c, rfl, _⟩ := h; rfl

theorem RowOk.ints {w : World} {N : Nat} {e0 : TypeId} {x : Value} {xs : List Int} (h : RowOk w N e0 x xs) : IntsV w x xs := by
  obtain ⟨a, c, e, hs, _⟩ := h; exact ⟨a, c, e, hs⟩

theorem RowOk.of_own {w : World} {N : Nat} {e0 : TypeId} {a : Option Addr} {c : Nat} {xs : List Int} (h : w.ownsRow N e0 1 (.slice a xs.length c) xs.length (Base.ints xs)) : RowOk w N e0 (.slice a xs.length c) xs := by
  obtain ⟨a', c', hv, hsl⟩ := own_sl h
  simp only [Value.slice.injEq] at hv
  obtain ⟨rfl, _, rfl⟩ := hv
  exact ⟨a, c, rfl, hsl, .inr h⟩

/-- What lies there already, lies below. -/
theorem RowOk.of_sl {w : World} {N : Nat} {e0 : TypeId} {x : Value} {xs : List Int} (h : IntsV w x xs) (hN : w.heap.size ≤ N) : RowOk w N e0 x xs := by
  obtain ⟨a, c, rfl, hs⟩ := h
  refine ⟨a, c, rfl, hs, .inl fun b o ha hne => ?_⟩
  have hl : 0 < xs.length := List.length_pos_iff.2 hne
  obtain ⟨b', o', _, ha', hlt, _⟩ := hs.int hl
  rw [ha] at ha'
  simp only [Option.some.injEq, Addr.mk.injEq] at ha'
  obtain ⟨rfl, _, _⟩ := ha'
  omega

/-- .. is so from any number on that is no less. -/
theorem RowOk.low {w : World} {N N' : Nat} {e0 : TypeId} {x : Value} {xs : List Int} (h : RowOk w N e0 x xs) (hN : w.heap.size ≤ N') : RowOk w N' e0 x xs := RowOk.of_sl h.ints hN

/-- Behind an append to a row of the call's own of another type. -/
theorem RowOk.kept {w w1 : World} {N : Nat} {e0 e1 : TypeId} {x v : Value} {xs : List Int} {n : Nat} {vals : List Value} (h : RowOk w N e0 x xs) (hown : w.ownsRow N e1 1 v n vals) (he : e0 ≠ e1) (hg : w.grownBy w1 v.ownBlock) : RowOk w1 N e0 x xs := by
  obtain ⟨a, c, rfl, hs, h⟩ := h
  rcases h with h | h
  · refine ⟨a, c, rfl, ⟨hs.len, hs.cap, hs.big, hs.bare, fun k u hu => ?_⟩, .inl h⟩
    obtain ⟨b, o, ha, hlt, hc⟩ := hs.cell k u hu
    have hne : xs ≠ [] := by
      rintro rfl
      simp [Base.ints] at hu
    have hbN := h b o ha hne
    have hblk : w1.heap[b]? = w.heap[b]? := hg.block b hlt (fun e => by have := (hown.lt b e.symm).1; omega)
    exact ⟨b, o, ha, Nat.lt_of_lt_of_le hlt hg.size, (World.cell?_of_block (w := w) (a := ⟨b, o + k, none⟩) hblk).trans hc⟩
  · exact RowOk.of_own (h.kept hg (own_apart h hown he))

structure Mix (w : World) (N : Nat) (e1 e0 : TypeId) (v : Value) (n : Nat) (vals : List Value) (xss : List (List Int)) : Prop where
  outer : w.ownsRow N e1 1 v n vals
  len : xss.length = n
  row : ∀ (i : Nat) (x : Value) (xs : List Int), vals[i]? = some x → xss[i]? = some xs → RowOk w N e0 x xs

theorem Mix.nil (w : World) (N : Nat) (e1 e0 : TypeId) : Mix w N e1 e0 (.slice none 0 0) 0 [] [] := ⟨World.ownsRow_nil _ _ _ _, rfl, fun i x xs h => by simp at h⟩

theorem Mix.next {w w' : World} {N : Nat} {e1 e0 : TypeId} {v : Value} {n : Nat} {vals : List Value} {xss : List (List Int)} (h : Mix w N e1 e0 v n vals xss) (hb : Below w.heap.size w w') : Mix w' N e1 e0 v n vals xss :=
  ⟨own_next h.outer hb, h.len, fun i x xs hx hxs => (h.row i x xs hx hxs).next hb⟩

theorem Mix.sl2 {w : World} {N : Nat} {e1 e0 : TypeId} {v : Value} {n : Nat} {vals : List Value} {xss : List (List Int)} (h : Mix w N e1 e0 v n vals xss) : ∃ a c, v = .slice a n c ∧ Sl2 w a n c vals xss := by
  obtain ⟨a, c, rfl, hs⟩ := own_sl h.outer
  exact ⟨a, c, rfl, hs, h.len, fun k x xs hx hxs => (h.row k x xs hx hxs).ints⟩

theorem Mix.sl2' {w : World} {N : Nat} {e1 e0 : TypeId} {a : Option Addr} {n c : Nat} {vals : List Value} {xss : List (List Int)} (h : Mix w N e1 e0 (.slice a n c) n vals xss) : Sl2 w a n c vals xss := by
  obtain ⟨a', c', hv, hs⟩ := h.sl2
  simp only [Value.slice.injEq] at hv
  obtain ⟨rfl, _, rfl⟩ := hv
  exact hs

theorem Mix.vlen {w : World} {N : Nat} {e1 e0 : TypeId} {v : Value} {n : Nat} {vals : List Value} {xss : List (List Int)} (h : Mix w N e1 e0 v n vals xss) : vals.length = n := by have := h.outer.1; omega

theorem Mix.push {w w1 : World} {N : Nat} {e1 e0 : TypeId} {v v' x : Value} {n : Nat} {vals : List Value} {xss : List (List Int)} (h : Mix w N e1 e0 v n vals xss) (he : e0 ≠ e1) {xs : List Int}
    (hx : RowOk w N e0 x xs) (hown : w1.ownsRow N e1 1 v' (n + 1) (vals ++ [x])) (hg : w.grownBy w1 v.ownBlock) : Mix w1 N e1 e0 v' (n + 1) (vals ++ [x]) (xss ++ [xs]) := by
  have hl := h.vlen
  refine ⟨hown, by simp [h.len], fun i y ys hi hys => ?_⟩
  by_cases hin : i < n
  · rw [List.getElem?_append_left (by omega)] at hi
    rw [List.getElem?_append_left (by rw [h.len]; exact hin)] at hys
    exact (h.row i y ys hi hys).kept h.outer he hg
  · rw [List.getElem?_append_right (by omega)] at hi
    rw [List.getElem?_append_right (by rw [h.len]; omega)] at hys
    have e : i - vals.length = 0 := by
      have := (List.getElem?_eq_some_iff.1 hi).1
      simpa using this
    rw [e] at hi
    rw [h.len, ← hl, e] at hys
    simp only [List.getElem?_cons_zero, Option.some.injEq] at hi hys
    subst hi; subst hys
    exact hx.kept h.outer he hg

/-- append of one slice to such a slice. -/
theorem wpL_pushM {P : Program} {w : World} {ops : Array Oper} {rest : List Oper} {dst : Option Tmp} {ty : TypeId} {pos : String} {af : Array Edge} {a : Act} {Q : Exit → Act → World → Prop}
    {s x : Operand} {t e1 e0 : TypeId} {bytes : Nat} (B : Nat) (w0 : World) (u : Value) (xs : List Int) (v : Value) (n : Nat) (vals : List Value) (xss : List (List Int))
    (hinfo : (P.info? e1).map (fun i => (i.zero, i.size, i.bytes)) = some (some (.slice none 0 0), 1, bytes)) (ht : P.underlying t = some (.slice e1)) (he : e0 ≠ e1)
    (hw : w = w0.alloc (.cells #[u] e1)) (hs : a.eval s = v) (hx : a.eval x = .slice (some ⟨w0.heap.size, 0, none⟩) 1 1)
    (hmix : Mix w0 B e1 e0 v n vals xss) (hu : RowOk w0 B e0 u xs) (hB : B ≤ w0.heap.size) (hn : (n + 1) * bytes ≤ 140737488355328) (hn' : n + 1 ≤ 9223372036854775807) {W : World} (hb : Below B W w0)
    (hK : ∀ a' c w1, Mix w1 B e1 e0 (.slice a' (n + 1) c) (n + 1) (vals ++ [u]) (xss ++ [xs]) → Below B W w1 → w0.heap.size + 1 ≤ w1.heap.size → wpList P ops Q rest (a.put dst (.slice a' (n + 1) c)) w1) :
    wpList P ops Q (⟨dst, .call { callee := .builtin .append, args := #[s, x], argTypes := #[t, t] }, ty, pos, af, none⟩ :: rest) a w := by
  obtain ⟨i, hi, hz0, hz1, hz2⟩ := info_parts hinfo
  subst hw
  refine wpList_append_own _ rfl s x t rfl B e1 i (.slice none 0 0) 1 bytes ht hi hz0 hz1 hz2 rfl (by decide) v n vals hs (hmix.outer.alloc _) ⟨w0.heap.size, 0, none⟩ 1 1 [u] hx rfl (cell_one_new _ _ _) (by intro q hq; simp at hq; subst hq; exact hu.one)
    (by unfold maxLen; omega) hn (by simp; omega) ?_
  intro v' w1 hown' hgrow _
  obtain ⟨a', c, rfl, _⟩ := own_sl hown'
  have hal : Below w0.heap.size w0 (w0.alloc (.cells #[u] e1)) := (Below.refl _ _).alloc (Nat.le_refl _) _
  refine hK a' c w1 ((hmix.next hal).push he (hu.next hal) hown' hgrow) (below_own (hmix.outer.alloc _) hgrow (hb.alloc (by omega) _) (by simp; omega)) ?_
  have := hgrow.size
  simpa using this

/-- From behind a draw. -/
theorem undrew {B : Nat} {w w' : World} (h : Below B w.drew w') : Below B w w' := ⟨h.os, h.tape, h.output, h.size, h.block⟩

/-! ### All of the call's own. -/
theorem Own2.sl2' {w : World} {N : Nat} {e1 e0 : TypeId} {a : Option Addr} {n c : Nat} {vals : List Value} {xss : List (List Int)} (h : Own2 w N e1 e0 (.slice a n c) n vals xss) : Sl2 w a n c vals xss := by
  obtain ⟨a', c', hv, hs⟩ := h.sl2
  simp only [Value.slice.injEq] at hv
  obtain ⟨rfl, _, rfl⟩ := hv
  exact hs

theorem Own2.vlen {w : World} {N : Nat} {e1 e0 : TypeId} {v : Value} {n : Nat} {vals : List Value} {xss : List (List Int)} (h : Own2 w N e1 e0 v n vals xss) : vals.length = n := by have := h.outer.1; omega

theorem Own2.mono {w : World} {N N' : Nat} {e1 e0 : TypeId} {v : Value} {n : Nat} {vals : List Value} {xss : List (List Int)} (h : Own2 w N e1 e0 v n vals xss) (hN : N' ≤ N) : Own2 w N' e1 e0 v n vals xss :=
  ⟨own_mono h.outer hN, h.len, fun i x xs hx hxs => by
    obtain ⟨a, c, rfl, ho⟩ := h.row i x xs hx hxs
    exact ⟨a, c, rfl, own_mono ho hN⟩⟩

theorem Own2.mix {w : World} {N : Nat} {e1 e0 : TypeId} {v : Value} {n : Nat} {vals : List Value} {xss : List (List Int)} (h : Own2 w N e1 e0 v n vals xss) : Mix w N e1 e0 v n vals xss :=
  ⟨h.outer, h.len, fun i x xs hx hxs => by
    obtain ⟨a, c, rfl, ho⟩ := h.row i x xs hx hxs
    exact RowOk.of_own ho⟩

/-- append of one slice of the call's own to such a slice. -/
theorem wpL_pushO {P : Program} {w : World} {ops : Array Oper} {rest : List Oper} {dst : Option Tmp} {ty : TypeId} {pos : String} {af : Array Edge} {a : Act} {Q : Exit → Act → World → Prop}
    {s x : Operand} {t e1 e0 : TypeId} {bytes : Nat} (B : Nat) (w0 : World) (ua : Option Addr) (uc : Nat) (xs : List Int) (ul : Nat) (hul : xs.length = ul) (v : Value) (n : Nat) (vals : List Value) (xss : List (List Int))
    (hinfo : (P.info? e1).map (fun i => (i.zero, i.size, i.bytes)) = some (some (.slice none 0 0), 1, bytes)) (ht : P.underlying t = some (.slice e1)) (he : e0 ≠ e1)
    (hw : w = w0.alloc (.cells #[.slice ua ul uc] e1)) (hs : a.eval s = v) (hx : a.eval x = .slice (some ⟨w0.heap.size, 0, none⟩) 1 1)
    (hmix : Own2 w0 B e1 e0 v n vals xss) (hu : w0.ownsRow B e0 1 (.slice ua ul uc) ul (ints xs)) (hB : B ≤ w0.heap.size) (hn : (n + 1) * bytes ≤ 140737488355328) (hn' : n + 1 ≤ 9223372036854775807) {W : World} (hb : Below B W w0)
    (hK : ∀ a' c w1, Own2 w1 B e1 e0 (.slice a' (n + 1) c) (n + 1) (vals ++ [.slice ua ul uc]) (xss ++ [xs]) → Below B W w1 → w0.heap.size + 1 ≤ w1.heap.size → wpList P ops Q rest (a.put dst (.slice a' (n + 1) c)) w1) :
    wpList P ops Q (⟨dst, .call { callee := .builtin .append, args := #[s, x], argTypes := #[t, t] }, ty, pos, af, none⟩ :: rest) a w := by
  obtain ⟨i, hi, hz0, hz1, hz2⟩ := info_parts hinfo
  subst hw
  subst hul
  refine wpList_append_own _ rfl s x t rfl B e1 i (.slice none 0 0) 1 bytes ht hi hz0 hz1 hz2 rfl (by decide) v n vals hs (hmix.outer.alloc _) ⟨w0.heap.size, 0, none⟩ 1 1 [.slice ua xs.length uc] hx rfl (cell_one_new _ _ _) (by intro q hq; simp at hq; subst hq; rfl)
    (by unfold maxLen; omega) hn (by simp; omega) ?_
  intro v' w1 hown' hgrow _
  obtain ⟨a', c, rfl, _⟩ := own_sl hown'
  have hal : Below w0.heap.size w0 (w0.alloc (.cells #[.slice ua xs.length uc] e1)) := (Below.refl _ _).alloc (Nat.le_refl _) _
  refine hK a' c w1 ((hmix.next hal).push he (own_next hu hal) hown' hgrow) (below_own (hmix.outer.alloc _) hgrow (hb.alloc (by omega) _) (by simp; omega)) ?_
  have := hgrow.size
  simpa using this

theorem own_ints {w : World} {B : Nat} {e : TypeId} {a : Option Addr} {n c : Nat} {xs : List Int} (h : w.ownsRow B e 1 (.slice a n c) n (ints xs)) : Sl w a n c (ints xs) := by
  obtain ⟨a', c', hv, hsl⟩ := own_sl h
  simp only [Value.slice.injEq] at hv
  obtain ⟨rfl, _, rfl⟩ := hv
  exact hsl

end Base
end Go.Proofs.YtjmmhbmbafjneaaGreatDoor

/-
  enum's walk: outside.
-/
namespace Go.Proofs.YtjmmhbmbafjneaaGreatDoor
open Go.RowKit Base Go.Maps
set_option linter.unusedVariables false
set_option linter.unusedSimpArgs false
namespace EnumC
open Circuit BadP StrashP SimV EnumA EnumP GetI MapG Coi EnumW Order

def litAt (i : Nat) (v : Bool) : Int := if v then -(i : Int) - 1 else (i : Int) + 1
/-- The clause that a state alone breaks. -/
def clOf (s : List Bool) : List Int := (List.range s.length).map fun i => litAt i (s.getD i false)
theorem clOf_len (s : List Bool) : (clOf s).length = s.length := by simp [clOf]
theorem clOf_take {s : List Bool} {k : Nat} (hk : k < s.length) : clOf (s.take (k + 1)) = clOf (s.take k) ++ [litAt k (s.getD k false)] := by
  unfold clOf
  rw [List.length_take, List.length_take, Nat.min_eq_left (by omega), Nat.min_eq_left (by omega), List.range_succ, List.map_append]
  congr 1
  · apply List.map_congr_left
    intro i hi
    rw [List.mem_range] at hi
    simp only [List.getD_eq_getElem?_getD, List.getElem?_take]
    rw [if_pos (by omega), if_pos (by omega)]
  · simp only [List.map_cons, List.map_nil, List.getD_eq_getElem?_getD, List.getElem?_take]
    rw [if_pos (by omega)]
/-- All states that can't be reached, each its clause. -/
def outs (O : Ord) (L : List (List Bool)) : List (List Int) := (L.filter fun s => !(getI (tbl O) s).isSome).map clOf
theorem outs_take (O : Ord) {L : List (List Bool)} {k : Nat} (hk : k < L.length) : outs O (L.take (k + 1)) = outs O (L.take k) ++ if (getI (tbl O) L[k]).isSome then [] else [clOf L[k]] := by
  unfold outs
  rw [List.take_succ_eq_append_getElem hk, List.filter_append, List.map_append]
  congr 1
  cases h : (getI (tbl O) L[k]).isSome
  · rw [List.filter_cons_of_pos (by rw [h]; rfl)]; rfl
  · rw [List.filter_cons_of_neg (by rw [h]; simp)]; rfl
theorem outs_len (O : Ord) (L : List (List Bool)) : (outs O L).length ≤ L.length := by
  unfold outs; rw [List.length_map]; exact List.length_filter_le _ _
theorem info_rO : (Tryz.prog.info? 22).map (fun i => (i.zero, i.size, i.bytes)) = some (some (.slice none 0 0), 1, 24) := by kernel_rfl

set_option maxRecDepth 8000 in
set_option maxHeartbeats 16000000 in
theorem outside_any (w : World) (B1 N b : Nat) (x : Circ) (p : At) (aA : Option Addr) (nA cA : Nat) (O : Ord) (aO : Option Addr) (cO : Nat) (h : WIs B1 N b x p aA nA cA O aO cO w) (hin : InCirc w x p) (hl10 : x.lats.length ≤ 10) :
    Calls Tryz.prog 37 #[.pointer (some ⟨N, 0, none⟩)] w fun e w2 => ∃ a c vals, e = .returned (.slice a (outs O (allL x.lats.length)).length c) ∧ Own2 w2 w.heap.size 22 3 (.slice a (outs O (allL x.lats.length)).length c) (outs O (allL x.lats.length)).length vals (outs O (allL x.lats.length)) ∧ Below w.heap.size w w2 := by
  obtain ⟨K, hK⟩ : ∃ m, 2 ^ x.lats.length = m := ⟨_, rfl⟩
  have hK1 : K ≤ 1024 := by rw [← hK]; exact Nat.pow_le_pow_right (by decide) hl10
  have HAL := fun U => all_any U x.lats.length hl10
  simp only [hK] at HAL
  have HAL := Lib.hid HAL
  have HKL : Hid ((allL x.lats.length).length = K) := by show _ = _; rw [allL_len, hK]
  have HWI := Lib.hid (fun (U : World) (hU : Below w.heap.size w U) => h.next hU)
  have HLK := Lib.hid (fun (U : World) (hU : Below w.heap.size w U) (t : List Bool) (ht : t.length = x.lats.length) => (h.next hU).map.look (T := 67) kindS Tryz.underlying67 Tryz.underlying3 (zeroI U) (x := t) (by show _ ≤ _; omega))
  have hcL := hin.lats.cap
  have hgL := hin.lats.big
  have c2 := h.box.at' 2 _ rfl
  have HAT : Hid (∀ s ∈ allL x.lats.length, s.length ≤ 10) := fun s hs => by rw [all_mem.1 hs]; exact hl10
  have HOK := Lib.hid fun k (hk : k < (allL x.lats.length).length) => outs_take O hk
  have HON := Lib.hid fun k => outs_len O ((allL x.lats.length).take k)
  obtain ⟨a1, b1, a2, b2, a3, b3, a4, b4, a5, b5, a6, b6, a7, b7⟩ := p
  simp only [cells] at *
  clear h hin hK
  go_enter Tryz.func37, Tryz.ntmps37
  go_wp2_with fail
  with_reducible refine (HAL.out w).mono ?_
  rintro e w2 ⟨aI, cI, rfl, hoI, hb2⟩
  have HSI := Lib.hid (own_sl' hoI)
  have HB2 := Lib.hid hb2
  have hcK := HSI.out.cap
  have hgK := HSI.out.big
  clear hoI hb2 c2
  go_wp2_with fail
  go_loopw [3, 18] (fun u j wr => ∃ (k m : Nat) (a : Option Addr) (c : Nat) (vals : List Value), k ≤ K ∧ j = .int .i64 k ∧ u = .slice a m c ∧ Hid (m = (outs O ((allL x.lats.length).take k)).length) ∧ Hid (Own2 wr w2.heap.size 22 3 (.slice a m c) m vals (outs O ((allL x.lats.length).take k))) ∧ Hid (Below w2.heap.size w2 wr)) (fun _ j _ => K - (intOf j).toNat)
  case atStart => exact ⟨0, 0, none, 0, [], Nat.zero_le _, rfl, rfl, rfl, Own2.nil _ _ _ _, Below.refl _ _⟩
  case round =>
    obtain ⟨k, m, a, c, vals, hk, rfl, rfl, hm, hO, hB⟩ := hrel
    obtain ⟨ws, hws⟩ : ∃ U : World, U = wr := ⟨_, rfl⟩
    subst hws
    by_cases hlt : k < K
    · obtain ⟨bi, oi, hx, hae, hbs, d0⟩ := txt_at (HSI.out.next hB.out) hlt
      try simp only at hae
      subst hae
      have htl := at_len _ _ _ (List.getElem?_eq_getElem hx)
      have hot := HOK.out k hx
      have HON1 := Lib.hid (HON.out (k + 1))
      have hmk := HON.out k
      rw [List.length_take] at hmk
      generalize (allL x.lats.length)[k] = t at *
      have hbw := HB2.out.trans (hB.out.mono HB2.out.size)
      have HBW := Lib.hid hbw
      have c9 := (HWI.out ws hbw).box.at' 9 _ rfl
      have hlk := HLK.out ws hbw t htl
      try simp only at c9
      obtain ⟨st, hst⟩ : ∃ u, bs t = u := ⟨_, rfl⟩
      have HST := Lib.hid hst
      have ekv : kv t = .string st := by rw [← hst]; rfl
      rw [ekv] at hlk
      rw [hst] at d0
      have HMK : Hid (m ≤ 1024) := by show _ ≤ _; rw [hm.out]; omega
      clear hbw ekv hmk
      cases hg : getI (tbl O) t with
      | some q =>
        rw [hg] at hlk hot
        have hlk2 : (Instr.lookup 67 (.map (some b)) (.string st) true).run Tryz.prog ws = .ok (.tuple #[.int .i64 q, .bool true]) ws := hlk
        have hot2 : outs O ((allL x.lats.length).take (k + 1)) = outs O ((allL x.lats.length).take k) := by rw [hot]; exact List.append_nil _
        have HOT := Lib.hid hot2
        have HOO := Lib.hid hO.out
        have HMM := Lib.hid hm.out
        have HBB := Lib.hid hB.out
        clear hlk hg hB hot hot2 hO hm htl hst
        go_wp2_with fail
        go_roundw
        case rel => exact ⟨k + 1, m, a, c, vals, by omega, by go_num, rfl, by rw [HOT.out]; exact HMM.out, by rw [HOT.out]; exact HOO.out, HBB.out⟩
        case measure => simp [intOf]; omega
      | none =>
        rw [hg] at hlk hot
        have hlk2 : (Instr.lookup 67 (.map (some b)) (.string st) true).run Tryz.prog ws = .ok (.tuple #[.int .i64 0, .bool false]) ws := hlk
        have hot2 : outs O ((allL x.lats.length).take (k + 1)) = outs O ((allL x.lats.length).take k) ++ [clOf t] := hot
        have HOT := Lib.hid hot2
        have HOO := Lib.hid hO.out
        have HMM := Lib.hid hm.out
        have HBB := Lib.hid hB.out
        have hsz : st.size = t.length := by rw [← hst]; exact bs_size t
        have HSZ := Lib.hid hsz
        have HBY : Hid (∀ (k : Nat) (h : k < st.size), st[k]'h = byteB (t.getD k false)) := by subst hst; exact fun k h => bs_at t h
        have HT10 : Hid (t.length ≤ 10) := by show _ ≤ _; omega
        have hs10 : st.size ≤ 10 := by omega
        clear hlk hg hB hot hot2 hO hm htl hst hsz
        go_wp2_with fail
        clear c9 hlk2 d0
        go_loopw [8, 34] (fun u j wr => ∃ (q : Nat) (a' : Option Addr) (c' : Nat), q ≤ st.size ∧ j = .int .i64 q ∧ u = .slice a' q c' ∧ Hid (wr.ownsRow ws.heap.size 3 1 (.slice a' q c') q (ints (clOf (t.take q)))) ∧ Hid (Below ws.heap.size ws wr)) (fun _ j _ => st.size - (intOf j).toNat)
        case atStart => exact ⟨0, none, 0, Nat.zero_le _, rfl, rfl, World.ownsRow_nil _ _ _ _, Below.refl _ _⟩
        case round =>
          obtain ⟨q, a', c', hq, rfl, rfl, hO2, hB2⟩ := hrel
          generalize wr = wt at *
          by_cases hlt2 : q < st.size
          · have hb := HBY.out q hlt2
            have HCT := Lib.hid (clOf_take (s := t) (k := q) (by have := HSZ.out; omega))
            generalize t.getD q false = bv at *
            have hown := hO2.out
            have hbb := hB2.out
            have hsz := hB2.out.size
            clear hO2 hB2
            cases bv
            · have hb2 : (st[q].toNat : Int) = 48 := by rw [hb]; rfl
              clear hb
              go_wp2_with ((with_reducible refine wpL_push (B := ws.heap.size) _ (.int .i64 ((q : Int) + 1)) _ q (ints (clOf (t.take q))) info_iR Tryz.underlying22 ?_ ?_ ?_ ?_ ?_ hown ?_ ?_ ?_ hbb ?_); rfl; rfl; rfl; rfl; rfl; (exact hsz); omega; omega; (intro a5 c5 w7 hown7 hb7 hs7))
              go_roundw
              case rel => exact ⟨q + 1, a5, c5, by omega, by go_num, rfl, by show World.ownsRow _ _ _ _ _ _ _; rw [HCT.out]; unfold ints at hown7 ⊢; rw [List.map_append]; exact hown7, hb7⟩
              case measure => simp [intOf]; omega
            · have hb2 : (st[q].toNat : Int) = 49 := by rw [hb]; rfl
              clear hb
              go_wp2_with ((with_reducible refine wpL_push (B := ws.heap.size) _ (.int .i64 (-(q : Int) - 1)) _ q (ints (clOf (t.take q))) info_iR Tryz.underlying22 ?_ ?_ ?_ ?_ ?_ hown ?_ ?_ ?_ hbb ?_); rfl; rfl; rfl; rfl; rfl; (exact hsz); omega; omega; (intro a5 c5 w7 hown7 hb7 hs7))
              go_roundw
              case rel => exact ⟨q + 1, a5, c5, by omega, by go_num, rfl, by show World.ownsRow _ _ _ _ _ _ _; rw [HCT.out]; unfold ints at hown7 ⊢; rw [List.map_append]; exact hown7, hb7⟩
              case measure => simp [intOf]; omega
          · have hqs : q = t.length := by have := HSZ.out; omega
            have hown : wt.ownsRow w2.heap.size 3 1 (.slice a' q c') q (ints (clOf t)) := by
              have h1 := hO2.out
              rw [List.take_of_length_le (by omega)] at h1
              exact own_mono h1 HBB.out.size
            have hO3 := HOO.out.next hB2.out
            have hbb := HBB.out.trans (hB2.out.mono HBB.out.size)
            have hsz := hbb.size
            have HCL : Hid ((clOf t).length = q) := by show _ = _; rw [clOf_len, hqs]
            have hmm := HMK.out
            clear hO2 hB2 hqs
            go_wp2_with ((with_reducible refine wpL_pushO (B := w2.heap.size) _ a' c' (clOf t) _ HCL.out _ m vals (outs O ((allL x.lats.length).take k)) info_rO Tryz.underlying28 ?_ ?_ ?_ ?_ hO3 hown ?_ ?_ ?_ hbb ?_); decide; rfl; rfl; rfl; exact hsz; omega; omega; (intro a6 c6 w5 hmix5 hb5 hs5))
            go_roundw
            case rel => exact ⟨k + 1, m + 1, a6, c6, vals ++ [Value.slice a' q c'], by omega, by go_num, rfl, by show _ = _; rw [HOT.out, List.length_append, ← HMM.out]; rfl, by rw [HOT.out]; exact hmix5, hb5⟩
            case measure => simp [intOf]; omega
    · have HF : Hid (Own2 ws w2.heap.size 22 3 (.slice a m c) m vals (outs O (allL x.lats.length))) := by
        have h1 := hO.out
        rwa [List.take_of_length_le (by have := HKL.out; omega)] at h1
      have HMF : Hid (m = (outs O (allL x.lats.length)).length) := by
        have h1 := hm.out
        rwa [List.take_of_length_le (by have := HKL.out; omega)] at h1
      have HBB := Lib.hid (HB2.out.trans (hB.out.mono HB2.out.size))
      go_wp2_with fail
      go_ret
      exact ⟨a, c, vals, by rw [← HMF.out]; rfl, by rw [← HMF.out]; exact HF.out.mono HB2.out.size, HBB.out⟩
end EnumC
end Go.Proofs.YtjmmhbmbafjneaaGreatDoor

/-
  lits.Check, at whatever greatest variable may be.
-/
namespace Go.Proofs.YtjmmhbmbafjneaaGreatDoor
open Go.RowKit Base
set_option linter.unusedVariables false
set_option linter.unusedSimpArgs false
namespace LitsC
open Circuit

def oddM (mx l : Int) : Bool := decide (l < 0) || decide (mx < var l)
theorem eg_chk : SlfI.Enters 95 := enters_of Tryz.func95 (by kernel_rfl) rfl
set_option maxHeartbeats 4000000 in
theorem chk1_any (w : World) (Bw Bm : Nat) (hw : w.cell? ⟨Bw, 0, none⟩ = some (.bool false)) (mx : Int) (hm : w.cell? ⟨Bm, 0, none⟩ = some (.int .i64 mx)) (hlw : Bw < w.heap.size) (hlm : Bm < w.heap.size) (x : Int) (hx0 : -9223372036854775808 ≤ x) (hx1 : x ≤ 9223372036854775807) :
    Calls Tryz.prog 95 #[.int .i64 x, .pointer (some ⟨Bw, 0, none⟩), .pointer (some ⟨Bm, 0, none⟩)] w fun e w' => e = .returned (.bool (oddM mx x)) ∧ Below w.heap.size w w' := by
  have HS := fun (U : World) (hU : Below w.heap.size w U) => (⟨hU, (hU.cell (p := ⟨Bw, 0, none⟩) hlw).trans hw, (hU.cell (p := ⟨Bm, 0, none⟩) hlm).trans hm⟩ : Below w.heap.size w U ∧ U.cell? ⟨Bw, 0, none⟩ = some (.bool false) ∧ U.cell? ⟨Bm, 0, none⟩ = some (.int .i64 mx))
  have LC1 := Lib.hid (fun (U : World) (hU : Below w.heap.size w U ∧ U.cell? ⟨Bw, 0, none⟩ = some (.bool false) ∧ U.cell? ⟨Bm, 0, none⟩ = some (.int .i64 mx)) => (var_any x hx0 hx1 U).mono (fun e w' h => (⟨h.1, h.2 ▸ hU⟩ : e = .returned (.int .i64 (var x)) ∧ Below w.heap.size w w' ∧ w'.cell? ⟨Bw, 0, none⟩ = some (.bool false) ∧ w'.cell? ⟨Bm, 0, none⟩ = some (.int .i64 mx))))
  have HF := Lib.hid (HS w.drew (Below.refl _ _).drew)
  have HOD : Hid (oddM mx x = (decide (x < 0) || decide (mx < var x))) := rfl
  clear HS hw hm hlw hlm hx0 hx1
  generalize hv : var x = v at *
  clear hv
  by_cases hx : x < 0
  · have hd : decide (x < 0) = true := decide_eq_true hx
    have HR : Hid (oddM mx x = true) := by show _ = _; rw [HOD.out, hd]; rfl
    clear hx
    go_enter Tryz.func95, Tryz.ntmps95
    go_upto_region 1 with fail
    refine Lex.region (fun w' => Below w.heap.size w w' ∧ w'.cell? ⟨Bw, 0, none⟩ = some (.bool false) ∧ w'.cell? ⟨Bm, 0, none⟩ = some (.int .i64 mx)) (by kernel_rfl) (by kernel_rfl) HF.out ?_
    repeat (first
      | (refine Lex.step_val (v := ?_) ?_ (fun w' hSw => ?_) ?_; rotate_left; (focus (go_simp; done)); (focus ((try dsimp only at hSw); go_simp; (try with_reducible rfl); done)); (try simp only [Act.put, List.setIfInBounds_toArray, List.set_cons_zero, List.set_cons_succ]))
      | (refine Lex.step_call (v := ?_) (f := ?_) (args := ?_) ?_ (fun w' hSw => ?_) ?_ ?_; rotate_left 3; (focus (go_simp; done)); (focus ((try dsimp only at hSw); go_simp; (refine And.intro ?_ ?_ <;> with_reducible rfl); done)); (focus (first | with_reducible exact LC1.out)); (try simp only [Act.put, List.setIfInBounds_toArray, List.set_cons_zero, List.set_cons_succ]))
      | (refine Lex.step_off ?_ ?_; (focus (first | (go_simp; done) | (simp [Region.wanted, yielded, undef]; done) | rfl)); (try simp only [Act.put, List.setIfInBounds_toArray, List.set_cons_zero, List.set_cons_succ]))
      | fail)
    refine Lex.step_nil ?_
    intro wz hz
    go_wp2_with fail
    go_ret
    exact ⟨ret_bool HR.out.symm, hz.1⟩
  · have hd : decide (x < 0) = false := decide_eq_false hx
    have HR : Hid (oddM mx x = decide (mx < v)) := by show _ = _; rw [HOD.out, hd]; rfl
    clear hx
    generalize hq : decide (mx < v) = q at *
    go_enter Tryz.func95, Tryz.ntmps95
    go_upto_region 1 with fail
    refine Lex.region (fun w' => Below w.heap.size w w' ∧ w'.cell? ⟨Bw, 0, none⟩ = some (.bool false) ∧ w'.cell? ⟨Bm, 0, none⟩ = some (.int .i64 mx)) (by kernel_rfl) (by kernel_rfl) HF.out ?_
    repeat (first
      | (refine Lex.step_val (v := ?_) ?_ (fun w' hSw => ?_) ?_; rotate_left; (focus (go_simp; done)); (focus ((try dsimp only at hSw); go_simp; (try with_reducible rfl); done)); (try simp only [Act.put, List.setIfInBounds_toArray, List.set_cons_zero, List.set_cons_succ]))
      | (refine Lex.step_call (v := ?_) (f := ?_) (args := ?_) ?_ (fun w' hSw => ?_) ?_ ?_; rotate_left 3; (focus (go_simp; done)); (focus ((try dsimp only at hSw); go_simp; (refine And.intro ?_ ?_ <;> with_reducible rfl); done)); (focus (first | with_reducible exact LC1.out)); (try simp only [Act.put, List.setIfInBounds_toArray, List.set_cons_zero, List.set_cons_succ]))
      | (refine Lex.step_off ?_ ?_; (focus (first | (go_simp; done) | (simp [Region.wanted, yielded, undef]; done) | rfl)); (try simp only [Act.put, List.setIfInBounds_toArray, List.set_cons_zero, List.set_cons_succ]))
      | fail)
    refine Lex.step_nil ?_
    intro wz hz
    go_wp2_with fail
    go_ret
    exact ⟨ret_bool HR.out.symm, hz.1⟩

set_option maxHeartbeats 2000000 in
theorem check_any (w : World) (a : Option Addr) (n c : Nat) (l : List Int) (hsl : Sl w a n c (ints l)) (hw : ∀ y ∈ l, Circuit.I64 y) (mx : Int) (hm0 : 0 ≤ mx) (hm1 : mx ≤ 2048) :
    Calls Tryz.prog 73 #[.int .i64 mx, .slice a n c] w fun e w' => e = .returned (.int .i64 (if l.any (oddM mx) = true then 4 else 0)) ∧ Below w.heap.size w w' := by
  have hlm : l.length = n := by have := hsl.len; rwa [ints_len] at this
  obtain ⟨W1, hW1⟩ : ∃ U, w.alloc (.cells #[.int .i64 mx] 3) = U := ⟨_, rfl⟩
  obtain ⟨U, hU⟩ : ∃ U, W1.alloc (.cells #[.bool false] 4) = U := ⟨_, rfl⟩
  have hb1 : Below w.heap.size w W1 := by rw [← hW1]; exact (Below.refl _ _).alloc (Nat.le_refl _) _
  have hb2 : Below W1.heap.size W1 U := by rw [← hU]; exact (Below.refl _ _).alloc (Nat.le_refl _) _
  have hz1 : w.heap.size < W1.heap.size := by rw [← hW1]; simp
  have hz2 : W1.heap.size < U.heap.size := by rw [← hU]; simp
  have u0 : U.cell? ⟨w.heap.size, 0, none⟩ = some (.int .i64 mx) := (hb2.cell (p := ⟨w.heap.size, 0, none⟩) hz1).trans (by rw [← hW1]; simp)
  have u1 : U.cell? ⟨W1.heap.size, 0, none⟩ = some (.bool false) := by rw [← hU]; simp
  have w0 : W1.cell? ⟨w.heap.size, 0, none⟩ = some (.int .i64 mx) := by rw [← hW1]; simp
  have hb := hb1.trans (hb2.mono hb1.size)
  have CF := SlfI.containsFunc U a n c (ints l) 95 #[] #[.pointer (some ⟨W1.heap.size, 0, none⟩), .pointer (some ⟨w.heap.size, 0, none⟩)] (l.map (oddM mx)) (hsl.next hb) (by rw [List.length_map, hlm]) eg_chk (by
    intro V hV j y q hy hq
    obtain ⟨hj, rfl⟩ := Base.ints_at hy
    rw [List.getElem?_map, List.getElem?_eq_getElem hj] at hq
    simp only [Option.map_some, Option.some.injEq] at hq
    subst hq
    have hzV := hV.size
    exact chk1_any V W1.heap.size w.heap.size ((hV.cell (p := ⟨W1.heap.size, 0, none⟩) hz2).trans u1) mx ((hV.cell (p := ⟨w.heap.size, 0, none⟩) (Nat.lt_trans hz1 hz2)).trans u0) (by omega) (by omega) l[j] (hw _ (List.getElem_mem hj)).1 (hw _ (List.getElem_mem hj)).2)
  have hall : ((l.map (oddM mx)).any id) = l.any (oddM mx) := by
    rw [List.any_map]
    rfl
  rw [hall] at CF
  have HCF := Lib.hid CF
  have HB := Lib.hid hb
  have HU := Lib.hid hU
  have HWR : Hid ((decide (mx < 0) || decide (2048 < mx)) = false) := by show _ = _; rw [decide_eq_false (by omega), decide_eq_false (by omega)]; rfl
  clear CF hall hb hb1 hb2 hz1 hz2 u0 u1 hsl hw hU
  generalize l.any (oddM mx) = q at *
  cases q
  all_goals
    go_enter Tryz.func73, Tryz.ntmps73
    go_wp2_with fail
    rw [HWR.out, HU.out]
    with_reducible refine HCF.out.mono ?_
    rintro e w3 ⟨rfl, hb3⟩
    have HB3 := Lib.hid (HB.out.trans (hb3.mono HB.out.size))
    clear hb3
    go_wp2_with fail
    go_ret
    exact ⟨rfl, HB3.out⟩

end LitsC
end Go.Proofs.YtjmmhbmbafjneaaGreatDoor
