/-
  Several texts in one (written by merge2.py): XSimVals XResetA XFirst XInitEq XSimNext XEnumW XSlfR XSimTrue XEnumX XEnumY XEnumS XValuesS
-/
import Derived.Test.YtjmmhbmbafjneaaGreatDoorEnumTM2
import Derived.Test.YtjmmhbmbafjneaaGreatDoorEnumTM1
import Derived.Deep.RegionWith
import Derived.Deep.DeepCutAuto
import Derived.Test.YtjmmhbmbafjneaaGreatDoorCBox
import Derived.Test.YtjmmhbmbafjneaaGreatDoorCheckP
import Derived.StringKeys
import Derived.Test.YtjmmhbmbafjneaaGreatDoorBase
import Derived.Shelf.Abstract
import Derived.Test.YtjmmhbmbafjneaaGreatDoorSlfI
import Derived.RangeFuncBox
import Derived.RangeFuncLeaves
import Derived.WalkKit
import Derived.OwnWalkIn
import Derived.TacticsInMore
import Derived.LoopNIn
import Derived.LoopIn
import Derived.Maps.AppendAt
import Derived.Sort.OwnSorted
import Derived.Shelf.SortM.Plain
import Derived.Shelf.SortM.SortNone
import Derived.Ground.SlgmProg
import Derived.Lib.SlKeysI
import Derived.Test.YtjmmhbmbafjneaaGreatDoorLaws
/-
  sim.Values: gate by gate (written by simvals.py).
-/
namespace Go.Proofs.YtjmmhbmbafjneaaGreatDoor
open Go.RowKit Base
set_option linter.unusedVariables false
set_option linter.unusedSimpArgs false
namespace SimV
open Circuit BadP StrashP Coi

theorem zero_cbs (n : Nat) : List.replicate n (Value.int .u8 48) = cbs (List.replicate n false) := by unfold cbs; rw [List.map_replicate]; rfl
theorem byte_of (L : List Bool) {k : Nat} (h : k < (bs L).size) : (((bs L)[k]).toNat : Int) = ((byteB (L.getD k false)).toNat : Int) := by rw [bs_at L h]
theorem zip_take {α β : Type} (l : List α) (m : List β) {k : Nat} (h1 : k < l.length) (h2 : k < m.length) : (l.zip m).take (k + 1) = (l.zip m).take k ++ [(l[k], m[k])] := by
  rw [List.take_succ_eq_append_getElem (by rw [List.length_zip]; omega), List.getElem_zip]
theorem bits_ok (W : World) (L : List Bool) (h : L.length ≤ 1000) : Calls Tryz.prog 119 #[.string (bs L), .int .i64 (L.length : Int)] W fun e w' => e = .returned (.bool true) ∧ Below W.heap.size W w' := by
  have h1 := SimBits.bits_any W (bs L) (by rw [bs_size]; omega) (L.length : Int)
  rw [bits_bs L rfl] at h1
  exact h1

set_option maxRecDepth 8000 in
set_option maxHeartbeats 16000000 in
theorem values_any (w : World) (x : Circ) (p : At) (hin : InCirc w x p) (hw : WfC x) (hok : CheckOk x) (st inp : List Bool) (hst : st.length = x.lats.length) (hinp : inp.length = x.ins.length) :
    Calls Tryz.prog 98 #[.agg (cells x p), .string (bs st), .string (bs inp)] w fun e w' => e = .returned (.tuple #[.string (bs (vals x st inp)), .int .i64 0]) ∧ Below w.heap.size w w' := by
  obtain ⟨W1, hW1⟩ : ∃ U, w.alloc (.cells (cells x p) 27) = U := ⟨_, rfl⟩
  obtain ⟨hb1, hx1⟩ := cbox_new w x p W1 hW1
  have hV : x.lats.length ≤ 64 := hok.1.2.2.2.1
  have hI : x.ins.length ≤ 64 := hok.1.2.2.1
  have HC := check_any W1 x _ (hin.next hb1) hw.ins hw.outs hw.bads hw.invs hw.lats hw.ands hw.mx
  rw [chk_pos hok] at HC
  have HB1' : ∀ W : World, Calls Tryz.prog 119 #[.string (bs st), .int .i64 (x.lats.length : Int)] W fun e w' => e = .returned (.bool true) ∧ Below W.heap.size W w' := fun W => by
    have := bits_ok W st (by omega)
    rwa [hst] at this
  have HB2' : ∀ W : World, Calls Tryz.prog 119 #[.string (bs inp), .int .i64 (x.ins.length : Int)] W fun e w' => e = .returned (.bool true) ∧ Below W.heap.size W w' := fun W => by
    have := bits_ok W inp (by omega)
    rwa [hinp] at this
  have HBS := Lib.hid HB1'
  have HBI := Lib.hid HB2'
  have hm0 := hok.1.1
  have hm1 := hok.1.2.1
  obtain ⟨n, hmx, hn1, hn2⟩ : ∃ m : Nat, x.max = (m : Int) - 1 ∧ 1 ≤ m ∧ m ≤ 2049 := ⟨x.max.toNat + 1, by omega, by omega, by omega⟩
  have hzl : (x.max + 1).toNat = n := by omega
  have HVF := Lib.hid (vals_fold hok hst hinp)
  have HLI : Hid (InCirc W1 x p) := hin.next hb1
  have HOI : Hid (∀ (k : Nat) (h : k < x.ins.length), (-9223372036854775808 ≤ x.ins[k] ∧ x.ins[k] ≤ 9223372036854775807) ∧ (var x.ins[k]).toNat < n) := fun k h => by
    have h1 := own_pos hok _ (ins_own (List.getElem_mem h))
    have h2 := (own_at hok _ (ins_own (List.getElem_mem h))).2
    omega
  have HOL : Hid (∀ (k : Nat) (h : k < x.lats.length), (-9223372036854775808 ≤ x.lats[k].1 ∧ x.lats[k].1 ≤ 9223372036854775807) ∧ (var x.lats[k].1).toNat < n) := fun k h => by
    have h1 := own_pos hok _ (lat_own (List.getElem_mem h))
    have h2 := (own_at hok _ (lat_own (List.getElem_mem h))).2
    omega
  have HOA : Hid (∀ (k : Nat) (h : k < x.ands.length), (-9223372036854775808 ≤ x.ands[k].1 ∧ x.ands[k].1 ≤ 9223372036854775807) ∧ (var x.ands[k].1).toNat < n ∧ (0 ≤ x.ands[k].2.1 ∧ x.ands[k].2.1 ≤ 9223372036854775807) ∧ (0 ≤ x.ands[k].2.2 ∧ x.ands[k].2.2 ≤ 9223372036854775807)) := fun k h => by
    have h1 := own_pos hok _ (and_own (List.getElem_mem h))
    have h2 := (own_at hok _ (and_own (List.getElem_mem h))).2
    have h3 := and_lits hok _ (List.getElem_mem h)
    exact ⟨⟨by omega, by omega⟩, by omega, h3⟩
  have HVL : Hid (∀ L : List Bool, L.length = n → ∀ (u : Int) b, (setB L u b).length = n) := fun L h u b => by rw [setB_len]; exact h
  have HZL : Hid ((zero x).length = n) := by show _ = _; unfold zero; rw [List.length_replicate, hzl]
  have HZE : Hid (List.replicate n (Value.int .u8 48) = cbs (zero x)) := by show _ = _; rw [zero_cbs, ← hzl]; rfl
  have HBSE : Hid (base x st inp = putAll ((x.lats.zip st).map fun p => (p.1.1, p.2)) (putAll (x.ins.zip inp) (zero x))) := rfl
  have HSI := Lib.hid hinp
  have HSS := Lib.hid hst
  have HBY1 := Lib.hid (fun (k : Nat) (h : k < (bs inp).size) => byte_of inp h)
  have HBY2 := Lib.hid (fun (k : Nat) (h : k < (bs st).size) => byte_of st h)
  have hz1 : (bs inp).size = x.ins.length := by rw [bs_size]; exact hinp
  have hz2 : (bs st).size = x.lats.length := by rw [bs_size]; exact hst
  have HZ1 := Lib.hid hz1
  have HZ2 := Lib.hid hz2
  have hcI := hin.ins.cap
  have hgI := hin.ins.big
  have hcL := hin.lats.cap
  have hgL := hin.lats.big
  have hcA := hin.ands.cap
  have hgA := hin.ands.big
  have HB1 := Lib.hid hb1
  have HX1 := Lib.hid hx1
  have HCK := Lib.hid HC
  have HCB := Lib.hid (fun (U : World) (hU : Below W1.heap.size W1 U) => hx1.next hU (Nat.le_refl _))
  have c0 := hx1.k0
  have c1 := hx1.k1
  have c2 := hx1.k2
  have c3 := hx1.k3
  have c4 := hx1.k4
  have c5 := hx1.k5
  have c6 := hx1.k6
  have c7 := hx1.k7
  obtain ⟨a1, b1, a2, b2, a3, b3, a4, b4, a5, b5, a6, b6, a7, b7⟩ := p
  generalize hsi : bs inp = si at *
  generalize hss : bs st = ss at *
  have HMX := Lib.hid hmx
  have HM1 : Hid (1 ≤ n ∧ n ≤ 2049) := ⟨hn1, hn2⟩
  clear hsi hss hin hb1 hx1 HC HB1' HB2' hok hw hst hinp hzl hz1 hz2 hm0 hm1 hmx hn1 hn2
  unfold cells at *
  try simp only at c0 c1 c2 c3 c4 c5 c6 c7 hcI hgI hcL hgL hcA hgA
  go_enter Tryz.func98, Tryz.ntmps98
  go_wp2_with fail
  with_reducible refine HCK.out.mono ?_
  rintro e w2 ⟨rfl, hb2⟩
  have k2 := (HCB.out w2 hb2).k2
  try simp only at k2
  have HB2 := Lib.hid hb2
  clear hb2 c0 c1 c2 c3 c4 c5 c6 c7
  go_wp2_with fail
  with_reducible refine (HBS.out _).mono ?_
  rintro e w3 ⟨rfl, hb3⟩
  have hb13 := HB2.out.trans (hb3.mono HB2.out.size)
  have k1 := (HCB.out w3 hb13).k1
  try simp only at k1
  have HB3 := Lib.hid hb13
  clear hb3 hb13 k2
  go_wp2_with fail
  with_reducible refine (HBI.out _).mono ?_
  rintro e w4 ⟨rfl, hb4⟩
  have hb14 := HB3.out.trans (hb4.mono HB3.out.size)
  obtain ⟨W5, hW5⟩ : ∃ U, w4.alloc (.cells #[.int .u8 48] 5) = U := ⟨_, rfl⟩
  have hb5 : Below w4.heap.size w4 W5 := by rw [← hW5]; exact (Below.refl _ _).alloc (Nat.le_refl _) _
  have hs5 : Sl W5 (some ⟨w4.heap.size, 0, none⟩) 1 1 [.int .u8 48] := by rw [← hW5]; exact sl_new w4 #[.int .u8 48] 5 1 rfl (by decide)
  have HRP := Lib.hid (Repeat.repeat_any W5 w4.heap.size 0 1 hs5 n (by have := HM1.out; omega))
  have hb15 := hb14.trans (hb5.mono hb14.size)
  have k0 := (HCB.out W5 hb15).k0
  try simp only at k0
  have HB5 := Lib.hid hb15
  rw [HMX.out] at k0
  clear hb4 hb14 hb5 hs5 hb15 k1
  go_wp2_with fail
  clear hW5
  rw [show wrap64 (n : Int) = (n : Int) from by unfold wrap64; have := HM1.out; omega]
  with_reducible refine HRP.out.mono ?_
  rintro e w6 ⟨g, rfl, ho6, hb6⟩
  have HX6 : Hid (BoxN g (cbs (zero x)) w6) := by rw [← HZE.out]; exact box_own ho6
  have HGE : Hid (W5.heap.size ≤ g) := (ho6.lt g rfl).1
  have HB6 := Lib.hid hb6
  have HT := Lib.hid (fun (U : World) (hU : Below W5.heap.size W5 U) => HB5.out.trans (hU.mono HB5.out.size))
  have k1 := (HCB.out w6 (HT.out w6 hb6)).k1
  try simp only at k1
  clear ho6 hb6 k0 HRP HBS HBI HCK
  go_wp2_with fail
  clear k1
  go_loopw [43] (fun i wr => ∃ k : Nat, k ≤ x.ins.length ∧ i = .int .i64 k ∧ Hid (BoxN g (cbs (putAll ((x.ins.zip inp).take k) (zero x))) wr) ∧ Hid (Below W5.heap.size W5 wr)) (fun i _ => x.ins.length - (Go.RowKit.intOf i).toNat)
  case atStart => exact ⟨0, Nat.zero_le _, rfl, HX6.out, HB6.out⟩
  case round =>
    obtain ⟨k, hk, rfl, hX, hB⟩ := hrel
    generalize wr = ws at *
    by_cases hlt : k < x.ins.length
    · obtain ⟨b, o, hx, hae, hbs, d0⟩ := (HLI.out.next (HT.out ws hB.out)).ins.int hlt
      try simp only at hae
      subst hae
      have hks : k < si.size := by have := HZ1.out; omega
      have hki : k < inp.length := by have := HSI.out; omega
      have hs := set_any ws g n n _ hX.out (by rw [putAll_len]; exact HZL.out) (Nat.le_refl _) (by have := HM1.out; omega) x.ins[k] (HOI.out k hx).1.1 (HOI.out k hx).1.2 (HOI.out k hx).2 (inp.getD k false) W5.heap.size HGE.out W5 hB.out
      rw [← HBY1.out k hks] at hs
      have HE : Hid (setB (putAll ((x.ins.zip inp).take k) (zero x)) (var x.ins[k]) (inp.getD k false) = putAll ((x.ins.zip inp).take (k + 1)) (zero x)) := by
        show _ = _
        rw [zip_take _ _ hx hki, putAll_snoc, List.getD_eq_getElem?_getD, List.getElem?_eq_getElem hki]
        rfl
      rw [HE.out] at hs
      have HS := Lib.hid hs
      generalize x.ins[k] = y at *
      clear hs HE hX hB
      go_wp2_with fail
      with_reducible refine HS.out.mono ?_
      rintro e w8 ⟨rfl, hX8, hF8, hB8⟩
      have HX8 := Lib.hid hX8
      have HB8 := Lib.hid hB8
      clear hX8 hF8 hB8
      go_wp2_with fail
      go_roundw
      case rel => exact ⟨k + 1, by omega, by go_num, HX8.out, HB8.out⟩
      case measure => simp [Go.RowKit.intOf]; omega
    · have hend : k = x.ins.length := by omega
      have HXI : Hid (BoxN g (cbs (putAll (x.ins.zip inp) (zero x))) ws) := by
        have h := hX.out
        rwa [List.take_of_length_le (by rw [List.length_zip]; omega)] at h
      have HBI := Lib.hid hB.out
      have k2 := (HCB.out ws (HT.out ws hB.out)).k2
      try simp only at k2
      clear hX hB HX6 HB6 hend hk
      obtain ⟨L1, hL1⟩ : ∃ L, putAll (x.ins.zip inp) (zero x) = L := ⟨_, rfl⟩
      rw [hL1] at HXI HBSE
      have HL1 : Hid (L1.length = n) := by show _ = _; rw [← hL1, putAll_len]; exact HZL.out
      clear hL1
      go_wp2_with fail
      clear k2
      go_loopw [58] (fun i wr => ∃ k : Nat, k ≤ x.lats.length ∧ i = .int .i64 k ∧ Hid (BoxN g (cbs (putAll (((x.lats.zip st).map fun p => (p.1.1, p.2)).take k) L1)) wr) ∧ Hid (Below W5.heap.size W5 wr)) (fun i _ => x.lats.length - (Go.RowKit.intOf i).toNat)
      case atStart => exact ⟨0, Nat.zero_le _, rfl, HXI.out, HBI.out⟩
      case round =>
        obtain ⟨k, hk, rfl, hX, hB⟩ := hrel
        generalize wr = wt at *
        by_cases hlt : k < x.lats.length
        · obtain ⟨bl, ol, hx, hae, hbs, d0, d1, d2⟩ := (HLI.out.next (HT.out wt hB.out)).lats.tri hlt
          try simp only at hae
          subst hae
          have hks : k < ss.size := by have := HZ2.out; omega
          have hki : k < st.length := by have := HSS.out; omega
          obtain ⟨U, hU⟩ : ∃ U, wt.alloc (.cells #[.int .i64 x.lats[k].1, .int .i64 x.lats[k].2.1, .int .i64 x.lats[k].2.2] 71) = U := ⟨_, rfl⟩
          have hbU : Below wt.heap.size wt U := by rw [← hU]; exact (Below.refl _ _).alloc (Nat.le_refl _) _
          have u0 : U.cell? ⟨wt.heap.size, 0, none⟩ = some (.int .i64 x.lats[k].1) := by rw [← hU]; simp [go_sem]
          have hs := fun (V : World) (hV : Below U.heap.size U V) => set_any V g n n _ ((hX.out.next hbU hX.out.lt).next hV (Nat.lt_of_lt_of_le hX.out.lt hbU.size)) (by rw [putAll_len]; exact HL1.out) (Nat.le_refl _) (by have := HM1.out; omega) x.lats[k].1 (HOL.out k hx).1.1 (HOL.out k hx).1.2 (HOL.out k hx).2 (st.getD k false) W5.heap.size HGE.out W5 (hB.out.trans ((hbU.trans (hV.mono hbU.size)).mono hB.out.size))
          have HE : Hid (setB (putAll (((x.lats.zip st).map fun p => (p.1.1, p.2)).take k) L1) (var x.lats[k].1) (st.getD k false) = putAll (((x.lats.zip st).map fun p => (p.1.1, p.2)).take (k + 1)) L1) := by
            show _ = _
            rw [← List.map_take, ← List.map_take, zip_take _ _ hx hki, List.map_append, List.map_cons, List.map_nil, putAll_snoc, List.getD_eq_getElem?_getD, List.getElem?_eq_getElem hki]
            rfl
          simp only [HE.out, ← HBY2.out k hks] at hs
          have HS := Lib.hid hs
          generalize x.lats[k] = y at *
          clear hs HE hX hB hbU
          go_wp2_with fail
          go_region_with (go_at_call 122; (have hbv : Below U.heap.size U U.drew := (Below.refl _ _).drew); (with_reducible refine (HS.out _ hbv).mono ?_); rintro e w9 ⟨rfl, hX9, hF9, hB9⟩)
          all_goals
            have HX9 := Lib.hid hX9
            have HB9 := Lib.hid hB9
            clear hX9 hF9 hB9 hbv u0
            go_wp2_with fail
            go_roundw
            case rel => exact ⟨k + 1, by omega, by go_num, HX9.out, HB9.out⟩
            case measure => simp [Go.RowKit.intOf]; omega
        · have hend : k = x.lats.length := by omega
          have HXL : Hid (BoxN g (cbs (base x st inp)) wt) := by
            have h := hX.out
            rw [List.take_of_length_le (by rw [List.length_map, List.length_zip]; omega), ← HBSE.out] at h
            exact h
          have HBL := Lib.hid hB.out
          have HBLN : Hid ((base x st inp).length = n) := by show _ = _; rw [HBSE.out, putAll_len]; exact HL1.out
          have k6 := (HCB.out wt (HT.out wt hB.out)).k6
          try simp only at k6
          clear hX hB HXI HBI hend hk HBSE
          obtain ⟨L2, hL2⟩ : ∃ L, base x st inp = L := ⟨_, rfl⟩
          rw [hL2] at HXL HBLN HVF
          clear hL2
          go_wp2_with fail
          clear k6
          go_loopw [74] (fun i wr => ∃ k : Nat, k ≤ x.ands.length ∧ i = .int .i64 k ∧ Hid (BoxN g (cbs ((x.ands.take k).foldl stepS L2)) wr) ∧ Hid (((x.ands.take k).foldl stepS L2).length = n) ∧ Hid (Below W5.heap.size W5 wr)) (fun i _ => x.ands.length - (Go.RowKit.intOf i).toNat)
          case atStart => exact ⟨0, Nat.zero_le _, rfl, HXL.out, HBLN.out, HBL.out⟩
          case round =>
            clear HXL HBLN HBL
            obtain ⟨k, hk, rfl, hX, hLn, hB⟩ := hrel
            generalize wr = wu at *
            by_cases hlt : k < x.ands.length
            · obtain ⟨bl, ol, hx, hae, hbs, d0, d1, d2⟩ := (HLI.out.next (HT.out wu hB.out)).ands.tri hlt
              try simp only at hae
              subst hae
              obtain ⟨U, hU⟩ : ∃ U, wu.alloc (.cells #[.int .i64 x.ands[k].1, .int .i64 x.ands[k].2.1, .int .i64 x.ands[k].2.2] 74) = U := ⟨_, rfl⟩
              have hbU : Below wu.heap.size wu U := by rw [← hU]; exact (Below.refl _ _).alloc (Nat.le_refl _) _
              have hbx : BoxN wu.heap.size [.int .i64 x.ands[k].1, .int .i64 x.ands[k].2.1, .int .i64 x.ands[k].2.2] U := by rw [← hU]; exact BoxN.new wu _ _
              have HLE : Hid ((x.ands.take (k + 1)).foldl stepS L2 = setB ((x.ands.take k).foldl stepS L2) (var x.ands[k].1) (litV ((x.ands.take k).foldl stepS L2) x.ands[k].2.1 && litV ((x.ands.take k).foldl stepS L2) x.ands[k].2.2)) := by
                show _ = _
                rw [List.take_succ_eq_append_getElem hx, List.foldl_append]; rfl
              obtain ⟨LL, hLL⟩ : ∃ L, (x.ands.take k).foldl stepS L2 = L := ⟨_, rfl⟩
              rw [hLL] at hX hLn HLE
              clear hLL
              have hoa := HOA.out k hx
              have HXU := Lib.hid (fun (V : World) (hV : Below U.heap.size U V) => (hX.out.next hbU hX.out.lt).next hV (Nat.lt_of_lt_of_le hX.out.lt hbU.size))
              have HBU := Lib.hid (fun (V : World) (hV : Below U.heap.size U V) => hB.out.trans ((hbU.trans (hV.mono hbU.size)).mono hB.out.size))
              have HNE : Hid (wu.heap.size ≠ g) := fun e => by have := hX.out.lt; omega
              have HKL : Hid (k + 1 ≤ x.ands.length) := hlt
              generalize x.ands[k] = t at *
              obtain ⟨t1, t2, t3⟩ := t
              simp only at hoa hbx HLE hU d0 d1 d2
              obtain ⟨⟨q0, q1⟩, q2, ⟨q3, q4⟩, q5, q6⟩ := hoa
              have hSK : ∀ V : World, BoxN wu.heap.size [.int .i64 t1, .int .i64 t2, .int .i64 t3] V → V.cell? ⟨wu.heap.size, 0, none⟩ = some (.int .i64 t1) ∧ V.cell? ⟨wu.heap.size, 1, none⟩ = some (.int .i64 t2) ∧ V.cell? ⟨wu.heap.size, 2, none⟩ = some (.int .i64 t3) := fun V h => ⟨h.at' 0 _ rfl, h.at' 1 _ rfl, h.at' 2 _ rfl⟩
              have b00 : Below U.heap.size U U.drew := (Below.refl _ _).drew
              have hbx0 := hbx.next b00 hbx.lt
              have hS0 := hSK _ hbx0
              have HF1 := Lib.hid (of_any U.drew (some ⟨g, 0, none⟩) n n LL (sl_box (HXU.out _ b00) (by rw [cbs_len]; exact hLn.out) (by have := HM1.out; omega)) t2 (by omega) (by omega))
              have HF2 := Lib.hid (of_any U.drew (some ⟨g, 0, none⟩) n n LL (sl_box (HXU.out _ b00) (by rw [cbs_len]; exact hLn.out) (by have := HM1.out; omega)) t3 (by omega) (by omega))
              have HSE := Lib.hid (set_any U.drew g n n LL (HXU.out _ b00) hLn.out (Nat.le_refl _) (by have := HM1.out; omega) t1 q0 q1 q2 (litV LL t2 && litV LL t3) W5.heap.size HGE.out W5 (HBU.out _ b00))
              have hmin : min ((byteB (litV LL t2)).toNat : Int) ((byteB (litV LL t3)).toNat : Int) = ((byteB (litV LL t2 && litV LL t3)).toNat : Int) := by cases litV LL t2 <;> cases litV LL t3 <;> rfl
              rw [← HLE.out, ← hmin] at HSE
              unfold cb at HF1 HF2
              generalize ((byteB (litV LL t2)).toNat : Int) = z1 at *
              generalize ((byteB (litV LL t3)).toNat : Int) = z2 at *
              have HLN2 : Hid (((x.ands.take (k + 1)).foldl stepS L2).length = n) := by show _ = _; rw [HLE.out, setB_len]; exact hLn.out
              generalize hLNe : (x.ands.take (k + 1)).foldl stepS L2 = LN at *
              have HLNE := Lib.hid hLNe
              clear hLNe
              have HBX := Lib.hid hbx0
              clear hX hB hLn HLE hbU hbx hmin q0 q1 q2 q3 q4 q5 q6 hbx0
              go_upto_region 20 with fail
              refine HeldAll.region (fun V : World => V.cell? ⟨wu.heap.size, 0, none⟩ = some (.int .i64 t1) ∧ V.cell? ⟨wu.heap.size, 1, none⟩ = some (.int .i64 t2) ∧ V.cell? ⟨wu.heap.size, 2, none⟩ = some (.int .i64 t3)) (by kernel_rfl) ?_
              (refine HeldAll.take (i := 0) (oi := _) (d := some 78) (v := ?_) rfl rfl (by kernel_rfl) (by kernel_rfl) (by kernel_rfl) (fun _ _ _ h => h) (Or.inl ⟨by rfl, ?_⟩) hS0 ?_; rotate_left; (focus (intro w hSw; clear hSw; go_simp; (try with_reducible rfl); done)); (try simp only [Act.put, List.setIfInBounds_toArray, List.set_cons_zero, List.set_cons_succ]))
              (refine HeldAll.take (i := 1) (oi := _) (d := some 79) (v := ?_) rfl rfl (by kernel_rfl) (by kernel_rfl) (by kernel_rfl) (fun _ _ _ h => h) (Or.inl ⟨by rfl, ?_⟩) hS0 ?_; rotate_left; (focus (intro w hSw; clear hSw; go_simp; (try with_reducible rfl); done)); (try simp only [Act.put, List.setIfInBounds_toArray, List.set_cons_zero, List.set_cons_succ]))
              (refine HeldAll.take (i := 2) (oi := _) (d := some 80) (v := ?_) rfl rfl (by kernel_rfl) (by kernel_rfl) (by kernel_rfl) (fun _ _ _ h => h) (Or.inl ⟨by rfl, ?_⟩) hS0 ?_; rotate_left; (focus (intro w hSw; (try dsimp only at hSw); go_simp; (try with_reducible rfl); done)); (try simp only [Act.put, List.setIfInBounds_toArray, List.set_cons_zero, List.set_cons_succ]))
              (refine HeldAll.take (i := 3) (oi := _) (d := some 81) (v := ?_) rfl rfl (by kernel_rfl) (by kernel_rfl) (by kernel_rfl) (fun _ _ _ h => h) (Or.inl ⟨by rfl, ?_⟩) hS0 ?_; rotate_left; (focus (intro w hSw; clear hSw; go_simp; (try with_reducible rfl); done)); (try simp only [Act.put, List.setIfInBounds_toArray, List.set_cons_zero, List.set_cons_succ]))
              (refine HeldAll.take (i := 4) (oi := _) (d := some 82) (v := ?_) rfl rfl (by kernel_rfl) (by kernel_rfl) (by kernel_rfl) (fun _ _ _ h => h) (Or.inl ⟨by rfl, ?_⟩) hS0 ?_; rotate_left; (focus (intro w hSw; clear hSw; go_simp; (try with_reducible rfl); done)); (try simp only [Act.put, List.setIfInBounds_toArray, List.set_cons_zero, List.set_cons_succ]))
              (refine HeldAll.take (i := 5) (oi := _) (d := some 83) (v := ?_) rfl rfl (by kernel_rfl) (by kernel_rfl) (by kernel_rfl) (fun _ _ _ h => h) (Or.inl ⟨by rfl, ?_⟩) hS0 ?_; rotate_left; (focus (intro w hSw; (try dsimp only at hSw); go_simp; (try with_reducible rfl); done)); (try simp only [Act.put, List.setIfInBounds_toArray, List.set_cons_zero, List.set_cons_succ]))
              (refine HeldAll.take (i := 7) (oi := _) (d := some 85) (v := ?_) rfl rfl (by kernel_rfl) (by kernel_rfl) (by kernel_rfl) (fun _ _ _ h => h) (Or.inl ⟨by rfl, ?_⟩) hS0 ?_; rotate_left; (focus (intro w hSw; clear hSw; go_simp; (try with_reducible rfl); done)); (try simp only [Act.put, List.setIfInBounds_toArray, List.set_cons_zero, List.set_cons_succ]))
              (refine HeldAll.take (i := 8) (oi := _) (d := some 86) (v := ?_) rfl rfl (by kernel_rfl) (by kernel_rfl) (by kernel_rfl) (fun _ _ _ h => h) (Or.inl ⟨by rfl, ?_⟩) hS0 ?_; rotate_left; (focus (intro w hSw; clear hSw; go_simp; (try with_reducible rfl); done)); (try simp only [Act.put, List.setIfInBounds_toArray, List.set_cons_zero, List.set_cons_succ]))
              (refine HeldAll.take (i := 9) (oi := _) (d := some 87) (v := ?_) rfl rfl (by kernel_rfl) (by kernel_rfl) (by kernel_rfl) (fun _ _ _ h => h) (Or.inl ⟨by rfl, ?_⟩) hS0 ?_; rotate_left; (focus (intro w hSw; (try dsimp only at hSw); go_simp; (try with_reducible rfl); done)); (try simp only [Act.put, List.setIfInBounds_toArray, List.set_cons_zero, List.set_cons_succ]))
              refine HeldAll.one (i := 6) (by kernel_rfl) ?_
              refine HeldAll.opCall (i := 6) (oi := _) (d := some 84) (R := fun v w' => v = .int .u8 z1 ∧ w' = U.drew) rfl rfl (by rfl) (by go_simp; done) (HF1.out.mono fun e w' h => ⟨_, h.1, rfl, h.2.symm⟩) ?_
              rintro v u1 ⟨rfl, rfl⟩
              refine ⟨hS0, ?_⟩
              (try simp only [Act.put, List.setIfInBounds_toArray, List.set_cons_zero, List.set_cons_succ])
              refine HeldAll.one (i := 10) (by kernel_rfl) ?_
              refine HeldAll.opCall (i := 10) (oi := _) (d := some 88) (R := fun v w' => v = .int .u8 z2 ∧ w' = U.drew) rfl rfl (by rfl) (by go_simp; done) (HF2.out.mono fun e w' h => ⟨_, h.1, rfl, h.2.symm⟩) ?_
              rintro v u1 ⟨rfl, rfl⟩
              refine ⟨hS0, ?_⟩
              (try simp only [Act.put, List.setIfInBounds_toArray, List.set_cons_zero, List.set_cons_succ])
              (refine HeldAll.take (i := 11) (oi := _) (d := some 89) (v := ?_) rfl rfl (by kernel_rfl) (by kernel_rfl) (by kernel_rfl) (fun _ _ _ h => h) (Or.inl ⟨by rfl, ?_⟩) hS0 ?_; rotate_left; (focus (intro w hSw; clear hSw; go_simp; (try with_reducible rfl); done)); (try simp only [Act.put, List.setIfInBounds_toArray, List.set_cons_zero, List.set_cons_succ]))
              refine HeldAll.one (i := 12) (by kernel_rfl) ?_
              refine HeldAll.opCall (i := 12) (oi := _) (d := some 90) (R := fun v w' => v = .tuple #[] ∧ BoxN g (cbs LN) w' ∧ OffB g U.drew w' ∧ Below W5.heap.size W5 w') rfl rfl (by rfl) (by go_simp; done) (HSE.out.mono fun e w' h => ⟨_, h.1, rfl, h.2⟩) ?_
              rintro v u1 ⟨rfl, hX9, hF9, hB9⟩
              refine ⟨hSK _ (hF9.box HBX.out HNE.out), ?_⟩
              (try simp only [Act.put, List.setIfInBounds_toArray, List.set_cons_zero, List.set_cons_succ])
              refine HeldAll.done (by kernel_rfl) ?_ _
              have HX9 := Lib.hid hX9
              have HB9 := Lib.hid hB9
              clear hX9 hF9 hB9 hS0 hSK b00
              go_wp2_with fail
              go_roundw
              case rel => exact ⟨k + 1, HKL.out, by go_num, by rw [HLNE.out]; exact HX9.out, by rw [HLNE.out]; exact HLN2.out, HB9.out⟩
              case measure => have := HKL.out; simp [Go.RowKit.intOf]; omega
            · have hend : k = x.ands.length := by omega
              have HXE : Hid (BoxN g (cbs (vals x st inp)) wu) := by
                have h := hX.out
                rw [List.take_of_length_le (by omega), HVF.out] at h
                exact h
              have HLE : Hid ((vals x st inp).length = n) := by
                have h := hLn.out
                rw [List.take_of_length_le (by omega), HVF.out] at h
                exact h
              have HBE := Lib.hid hB.out
              obtain ⟨V, hV⟩ : ∃ V, vals x st inp = V := ⟨_, rfl⟩
              rw [hV] at HXE HLE
              have HSV : Hid (bs (vals x st inp) = bs V) := by show _ = _; rw [hV]
              have hcv : (convert 133 9 (.slice (some ⟨g, 0, none⟩) n n)).run Tryz.prog wu = .ok (.string (bs V)) wu := by
                have h := run_convert_bytes_back (P := Tryz.prog) wu 133 9 5 ⟨g, 0, none⟩ n (V.map byteB) Tryz.underlying133 Tryz.underlying5 Tryz.underlying9 (fun j hj => by
                  rw [Addr.add_lit, Nat.zero_add]
                  have hj2 : j < V.length := by simpa using hj
                  rw [HXE.out.at' j _ (cbs_at hj2)]
                  unfold cb
                  simp)
                rw [List.length_map, HLE.out] at h
                exact h
              clear hX hLn hB hend hk HVF hV
              generalize bs V = sV at *
              go_wp2_with fail
              refine bodyPost_ret (v := .tuple #[.string sV, .int .i64 0]) (by simp [results, Tryz.results98, go_sem]) rfl ⟨by rw [HSV.out], ?_⟩
              exact HB1.out.trans ((HT.out _ HBE.out).mono HB1.out.size)
end SimV
end Go.Proofs.YtjmmhbmbafjneaaGreatDoor

/-
  sim.reset: a latch's first bit; a first state of some bits.
-/
namespace Go.Proofs.YtjmmhbmbafjneaaGreatDoor
open Go.RowKit Base
set_option linter.unusedVariables false
set_option linter.unusedSimpArgs false
namespace SimReset

/-- The bit that a latch begins with: its own, or one given. -/
def resetI (t : Tri) (b : Int) : Int := if t.2.2 = t.1 then b else IntKind.u8.wrap (48 + IntKind.u8.wrap t.2.2)

set_option maxHeartbeats 1000000 in
theorem reset_any (w : World) (t : Tri) (b : Int) :
    Calls Tryz.prog 120 #[.agg #[.int .i64 t.1, .int .i64 t.2.1, .int .i64 t.2.2], .int .u8 b] w fun e w' => e = .returned (.int .u8 (resetI t b)) ∧ Below w.heap.size w w' := by
  obtain ⟨U, hU⟩ : ∃ U, w.alloc (.cells #[.int .i64 t.1, .int .i64 t.2.1, .int .i64 t.2.2] 71) = U := ⟨_, rfl⟩
  have hbU : Below w.heap.size w U := by rw [← hU]; exact (Below.refl _ _).alloc (Nat.le_refl _) _
  have u0 : U.cell? ⟨w.heap.size, 0, none⟩ = some (.int .i64 t.1) := by rw [← hU]; simp [go_sem]
  have u2 : U.cell? ⟨w.heap.size, 2, none⟩ = some (.int .i64 t.2.2) := by rw [← hU]; simp [go_sem]
  have HBU := Lib.hid hbU
  clear hbU
  by_cases h : t.2.2 = t.1
  · have hv : (t.2.2 == t.1) = true := by simp [h]
    have HV : Hid (resetI t b = b) := by show _ = _; unfold resetI; rw [if_pos h]
    clear h
    go_enter Tryz.func120, Tryz.ntmps120
    go_wp2_with fail
    go_ret
    exact ⟨by rw [HV.out]; rfl, HBU.out⟩
  · have hv : (t.2.2 == t.1) = false := by simp [h]
    have HV : Hid (resetI t b = IntKind.u8.wrap (48 + IntKind.u8.wrap t.2.2)) := by show _ = _; unfold resetI; rw [if_neg h]
    clear h
    generalize hq : IntKind.u8.wrap t.2.2 = q at *
    generalize hr : IntKind.u8.wrap (48 + q) = r at *
    go_enter Tryz.func120, Tryz.ntmps120
    go_wp2_with fail
    go_ret
    exact ⟨by rw [HV.out]; rfl, HBU.out⟩

end SimReset
namespace MeetsP
def ResetOk (lats : List Tri) : Prop := ∀ t ∈ lats, t.2.2 = 0 ∨ t.2.2 = 1 ∨ t.2.2 = t.1
def resetB (t : Tri) (b : UInt8) : UInt8 := if t.2.2 = t.1 then b else if t.2.2 = 1 then 49 else 48
def firstL (lats : List Tri) (fr : List UInt8) : List UInt8 := List.zipWith resetB lats fr
theorem bits_len {s : List UInt8} {V : Nat} (h : RefBits.bits s V = true) : s.length = V := by
  unfold RefBits.bits at h
  rw [Bool.and_eq_true, decide_eq_true_eq] at h
  omega
end MeetsP
end Go.Proofs.YtjmmhbmbafjneaaGreatDoor

/-
  sim.First: a first state, of the bits that are free.
-/
namespace Go.Proofs.YtjmmhbmbafjneaaGreatDoor
open Go.RowKit Base
set_option linter.unusedVariables false
set_option linter.unusedSimpArgs false
namespace First
open Circuit MeetsP

theorem resetI_eq {t : Tri} (h : t.2.2 = 0 ∨ t.2.2 = 1 ∨ t.2.2 = t.1) (b : UInt8) : SimReset.resetI t (b.toNat : Int) = ((resetB t b).toNat : Int) := by
  unfold SimReset.resetI resetB
  by_cases h1 : t.2.2 = t.1
  · rw [if_pos h1, if_pos h1]
  · rw [if_neg h1, if_neg h1]
    rcases h with h | h | h
    · rw [h, if_neg (by decide)]
      rw [IntKind.wrap_u8, IntKind.wrap_u8]; rfl
    · rw [h, if_pos rfl]
      rw [IntKind.wrap_u8, IntKind.wrap_u8]; rfl
    · exact absurd h h1

theorem reset_any' (w : World) (t : Tri) (h : t.2.2 = 0 ∨ t.2.2 = 1 ∨ t.2.2 = t.1) (b : UInt8) :
    Calls Tryz.prog 120 #[.agg #[.int .i64 t.1, .int .i64 t.2.1, .int .i64 t.2.2], .int .u8 (b.toNat : Int)] w fun e w' => e = .returned (.int .u8 ((resetB t b).toNat : Int)) ∧ Below w.heap.size w w' := by
  have := SimReset.reset_any w t (b.toNat : Int)
  rw [resetI_eq h b] at this
  exact this

theorem ownF_next {w w' : World} {B : Nat} {e : TypeId} {size : Nat} {v : Value} {n : Nat} {vs : List Value} (h : w.ownsRowF B e size v n vs) (hb : Below w.heap.size w w') : w'.ownsRowF B e size v n vs := by
  refine ⟨h.1, ?_⟩
  rcases h.2 with hn | ⟨g, cap, cur, fz, rfl, hg, hh, r⟩
  · exact .inl hn
  · exact .inr ⟨g, cap, cur, fz, rfl, hg, by rw [hb.block g (Array.getElem?_eq_some_iff.1 hh).1]; exact hh, r⟩
theorem atF_next {T e : TypeId} {B b : Nat} {p : Value} {bs : List Value} {w w' : World} (h : Lib.BuilderAtF T e B b p bs w) (hb : Below w.heap.size w w') : Lib.BuilderAtF T e B b p bs w' := by
  obtain ⟨hB, v, hh, ho, hne⟩ := h
  exact ⟨hB, v, by rw [hb.block b (Array.getElem?_eq_some_iff.1 hh).1]; exact hh, ownF_next ho hb, hne⟩
theorem isB_next {T e : TypeId} {B b : Nat} {bs : List Value} {w w' : World} (h : Lib.IsBuilderF T e B b bs w) (hb : Below w.heap.size w w') : Lib.IsBuilderF T e B b bs w' :=
  h.elim (fun x => .inl (atF_next x hb)) (fun x => .inr (atF_next x hb))

/-- The builder in words of this program. -/
abbrev IsB (B b : Nat) (l : List UInt8) (w : World) : Prop := Lib.IsBuilderF 136 5 B b (Lib.byteCells l) w

theorem write_any (B b : Nat) (l : List UInt8) (c : UInt8) (w : World) (h : IsB B b l w) (hl : l.length ≤ 100000) (hB : B ≤ w.heap.size) :
    Calls Tryz.prog 100 #[.pointer (some ⟨b, 0, none⟩), .int .u8 (c.toNat : Int)] w fun e w' => e = .returned .nilIface ∧ IsB B b (l ++ [c]) w' ∧ Below B w w' := by
  have hc := Any.Builder_WriteByte_k LayB.lays167 LayB.extra167 B b (Lib.byteCells l) (c.toNat : Int) w h (by unfold Lib.byteCells; rw [List.length_map]; omega) hB
  change Calls Tryz.prog 100 _ _ _ at hc
  refine hc.mono ?_
  rintro e w' ⟨rfl, h1, h2, _⟩
  refine ⟨rfl, .inr ?_, h2⟩
  have e1 : Lib.byteCells (l ++ [c]) = Lib.byteCells l ++ [.int .u8 (c.toNat : Int)] := by unfold Lib.byteCells; simp
  rw [e1]
  exact h1
theorem string_any (B b : Nat) (l : List UInt8) (w : World) (h : IsB B b l w) (hB : B ≤ w.heap.size) :
    Calls Tryz.prog 102 #[.pointer (some ⟨b, 0, none⟩)] w fun e w' => e = .returned (.string ⟨l.toArray⟩) ∧ Below B w w' := by
  have hc := Any.Builder_String_any_k LayB.lays169 LayB.extra169 B b l w h hB
  change Calls Tryz.prog 102 _ _ _ at hc
  exact hc.mono fun e w' h => ⟨h.1, h.2.2.1⟩
theorem isB_new (w : World) : IsB w.heap.size w.heap.size [] (w.alloc (.cells #[.pointer none, .slice none 0 0] 136)) := by
  refine .inl ⟨Nat.le_refl _, .slice none 0 0, by show (w.heap.push _)[w.heap.size]? = _; simp, ⟨by simp [Lib.byteCells], .inl ⟨rfl, rfl⟩⟩, by simp [Value.ownBlock]⟩

def firstS (lats : List Tri) (s : ByteArray) : ByteArray := ⟨(firstL lats s.data.toList).toArray⟩
theorem firstL_take {lats : List Tri} {s : List UInt8} {k : Nat} (h1 : k < lats.length) (h2 : k < s.length) : firstL (lats.take (k + 1)) (s.take (k + 1)) = firstL (lats.take k) (s.take k) ++ [resetB lats[k] s[k]] := by
  unfold firstL
  rw [List.take_succ_eq_append_getElem h1, List.take_succ_eq_append_getElem h2, List.zipWith_append (by simp; omega)]
  rfl

set_option maxRecDepth 8000 in
set_option maxHeartbeats 4000000 in
theorem first_any (w : World) (x : Circ) (p : At) (hin : InCirc w x p) (hw : WfC x) (hk : CheckOk x) (s : ByteArray) (hs : RefBits.bits s.data.toList x.lats.length = true) :
    Calls Tryz.prog 97 #[.agg (cells x p), .string s] w fun e w' => e = .returned (.tuple #[.string (firstS x.lats s), .int .i64 0]) ∧ Below w.heap.size w w' := by
  obtain ⟨a1, b1, a2, b2, a3, b3, a4, b4, a5, b5, a6, b6, a7, b7⟩ := p
  obtain ⟨W1, hW1⟩ : ∃ U, w.alloc (.cells (cells x ⟨a1, b1, a2, b2, a3, b3, a4, b4, a5, b5, a6, b6, a7, b7⟩) 27) = U := ⟨_, rfl⟩
  obtain ⟨hb1, hx1⟩ := cbox_new w x _ W1 hW1
  have hlen : s.size = x.lats.length := by
    have := bits_len hs
    rw [Array.length_toList] at this
    exact this
  have hV : x.lats.length ≤ 64 := hk.1.2.2.2.1
  have HC := check_any W1 x _ (hin.next hb1) hw.ins hw.outs hw.bads hw.invs hw.lats hw.ands hw.mx
  rw [chk_pos hk] at HC
  have HBT : ∀ W : World, Calls Tryz.prog 119 #[.string s, .int .i64 (x.lats.length : Int)] W fun e w' => e = .returned (.bool true) ∧ Below W.heap.size W w' := by
    intro W
    have := SimBits.bits_any W s (by omega) (x.lats.length : Int)
    rw [hs] at this
    exact this
  have HRS := Lib.hid hk.2.1.2.1
  have HL := Lib.hid (hin.next hb1).lats
  have hcap := hin.lats.cap
  have hbig := hin.lats.big
  have HB1 := Lib.hid hb1
  have HX1 := Lib.hid hx1
  have HC := Lib.hid HC
  have HBT := Lib.hid HBT
  have c0 := hx1.k0
  have c1 := hx1.k1
  have c2 := hx1.k2
  have c3 := hx1.k3
  have c4 := hx1.k4
  have c5 := hx1.k5
  have c6 := hx1.k6
  have c7 := hx1.k7
  have HF : Hid (firstS x.lats s = ⟨(firstL (x.lats.take x.lats.length) (s.data.toList.take x.lats.length)).toArray⟩) := by
    show _ = _
    rw [List.take_length, List.take_of_length_le (by rw [Array.length_toList]; exact Nat.le_of_eq hlen)]
    rfl
  generalize firstS x.lats s = F at *
  have HLN := Lib.hid hlen
  clear hin hb1 hx1 hk hs hlen hw
  unfold cells at *
  go_enter Tryz.func97, Tryz.ntmps97
  go_wp2_with fail
  with_reducible refine HC.out.mono ?_
  rintro e w2 ⟨rfl, hb2⟩
  have k2 := (HX1.out.next hb2 (Nat.le_refl _)).k2
  have HB2 := Lib.hid hb2
  clear hb2
  go_wp2_with fail
  with_reducible refine (HBT.out _).mono ?_
  rintro e w3 ⟨rfl, hb3⟩
  have HB3 := Lib.hid (HB2.out.trans (hb3.mono HB2.out.size))
  obtain ⟨W4, hW4⟩ : ∃ U, w3.alloc (.cells #[.pointer none, .slice none 0 0] 136) = U := ⟨_, rfl⟩
  have hisb := isB_new w3
  rw [hW4] at hisb
  have hb4 : Below w3.heap.size w3 W4 := by rw [← hW4]; exact (Below.refl _ _).alloc (Nat.le_refl _) _
  have k4 := (HX1.out.next (HB3.out.trans (hb4.mono HB3.out.size)) (Nat.le_refl _)).k2
  have HISB := Lib.hid hisb
  have HB4 := Lib.hid hb4
  clear hb3 hisb hb4 k2
  go_wp2_with fail
  go_loopw [24] (fun i wr => ∃ k : Nat, k ≤ x.lats.length ∧ i = .int .i64 k ∧ Hid (IsB w3.heap.size w3.heap.size (firstL (x.lats.take k) (s.data.toList.take k)) wr) ∧ Hid (Below w3.heap.size W4 wr)) (fun i _ => x.lats.length - (intOf i).toNat)
  case atStart => exact ⟨0, Nat.zero_le _, rfl, HISB, Below.refl _ _⟩
  case round =>
    obtain ⟨k, hkn, rfl, hI, hB⟩ := hrel
    by_cases hlt : k < x.lats.length
    · obtain ⟨bl, ol, hx, rfl, hbs, d0, d1, d2⟩ := (HL.out.next HB3.out).tri (i := k) hlt
      have q4 := (hB.out.cell (p := ⟨w.heap.size, 2, none⟩) (Nat.lt_of_lt_of_le HX1.out.lt HB3.out.size)).trans k4
      have hks : k < s.size := by have := HLN.out; omega
      have hkl : k < s.data.toList.length := by rw [Array.length_toList]; exact hks
      have HTK := Lib.hid (firstL_take hx hkl)
      have hres := HRS.out x.lats[k] (List.getElem_mem hx)
      have hkd : s.data.toList[k] = s[k] := rfl
      rw [hkd] at HTK
      obtain ⟨U, hU⟩ : ∃ U, wr.alloc (.cells #[.int .i64 x.lats[k].1, .int .i64 x.lats[k].2.1, .int .i64 x.lats[k].2.2] 71) = U := ⟨_, rfl⟩
      have hbU : Below wr.heap.size wr U := by rw [← hU]; exact (Below.refl _ _).alloc (Nat.le_refl _) _
      have u0 : U.cell? ⟨wr.heap.size, 0, none⟩ = some (.int .i64 x.lats[k].1) := by rw [← hU]; simp [go_sem]
      have u1 : U.cell? ⟨wr.heap.size, 1, none⟩ = some (.int .i64 x.lats[k].2.1) := by rw [← hU]; simp [go_sem]
      have u2 : U.cell? ⟨wr.heap.size, 2, none⟩ = some (.int .i64 x.lats[k].2.2) := by rw [← hU]; simp [go_sem]
      have hlb : bl < w3.heap.size := hbs
      have e0 := ((HB4.out.trans hB.out).cell (p := ⟨bl, ol + k * 3, none⟩) hlb).trans d0
      have e1 := ((HB4.out.trans hB.out).cell (p := ⟨bl, ol + k * 3 + 1, none⟩) hlb).trans d1
      have e2 := ((HB4.out.trans hB.out).cell (p := ⟨bl, ol + k * 3 + 2, none⟩) hlb).trans d2
      generalize x.lats[k] = t at *
      generalize hq : s[k] = q at *
      have hix : s[k] = q := hq
      have HR := Lib.hid (fun W => reset_any' W t hres q)
      have hlen : (firstL (x.lats.take k) (s.data.toList.take k)).length ≤ 100000 := by
        unfold firstL; rw [List.length_zipWith, List.length_take]; omega
      have HW := Lib.hid (fun (W : World) (hb : Below U.heap.size U W) => write_any w3.heap.size w3.heap.size _ (resetB t q) W (isB_next (isB_next hI.out hbU) hb) hlen (Nat.le_trans (Nat.le_trans HB4.out.size hB.out.size) (Nat.le_trans hbU.size hb.size)))
      have HBU := Lib.hid hbU
      clear hq hres hkd d0 d1 d2 hlen hbU
      go_wp2_with fail
      go_region_with (first | (go_at_call 120; (with_reducible refine (HR.out _).mono ?_); rintro e w5 ⟨rfl, hb5⟩) | (go_at_call 100; (have hb55 : Below U.heap.size U w5 := (Below.refl _ _).drew.trans hb5); (with_reducible refine (HW.out _ hb55).mono ?_); rintro e w6 ⟨rfl, hi6, hb6⟩))
      all_goals
        have HI6 := Lib.hid hi6
        have HB6 := Lib.hid ((hB.out.trans ((HBU.out.trans (hb55.mono HBU.out.size)).mono (Nat.le_trans HB4.out.size hB.out.size))).trans (hb6.mono (Nat.le_refl _)))
        clear hi6 hb6 hb55 hb5
        go_wp2_with fail
        go_roundw
        case rel => exact ⟨k + 1, by omega, by go_num, by rw [HTK.out]; exact HI6, HB6⟩
        case measure => simp [intOf]; omega
    · have hkn' : k = x.lats.length := by omega
      have hII : Hid (IsB w3.heap.size w3.heap.size (firstL (x.lats.take x.lats.length) (s.data.toList.take x.lats.length)) wr) := by have h := hI.out; rw [hkn'] at h; exact h
      have HST := Lib.hid (string_any w3.heap.size w3.heap.size _ wr hII.out (Nat.le_trans HB4.out.size hB.out.size))
      clear hkn' hI hkn
      go_wp2_with fail
      with_reducible refine HST.out.mono ?_
      rintro e w5 ⟨rfl, hb5⟩
      go_wp2_with fail
      refine bodyPost_ret (v := .tuple #[.string F, .int .i64 0]) (by rw [HF.out]; simp [results, Tryz.results97, go_sem]) rfl ⟨rfl, ?_⟩
      have h34 := HB3.out.trans ((HB4.out.trans hB.out).mono HB3.out.size)
      have h5 := h34.trans (hb5.mono HB3.out.size)
      exact HB1.out.trans (h5.mono HB1.out.size)
end First
end Go.Proofs.YtjmmhbmbafjneaaGreatDoor

/-
  A first state, as bits and as its text.
-/
namespace Go.Proofs.YtjmmhbmbafjneaaGreatDoor
open Go.RowKit Base
set_option linter.unusedVariables false
set_option linter.unusedSimpArgs false
namespace BadP
open Circuit Coi

theorem init_eq {x : Circ} {s : List Bool} (hs : s.length = x.lats.length) : Initial.initialB x.lats (bs s) = tt (initL x s) := by
  have h1 : RefBits.bits (bs s).data.toList (x.lats.length : Int) = true := bits_bs s hs
  have key : ∀ (lats : List Tri) (s : List Bool), s.length = lats.length → ((List.zipWith Initial.okLat lats (s.map byteB)).all id = true ↔ ∀ p ∈ lats.zip s, okB p.1 p.2 = true) := by
    intro lats
    induction lats with
    | nil => intro s h; simp
    | cons t r ih =>
      intro s h
      cases s with
      | nil => simp at h
      | cons b s =>
        have e : Initial.okLat t (byteB b) = okB t b := by unfold Initial.okLat okB; rw [byte_one]
        rw [List.map_cons, List.zipWith_cons_cons, List.all_cons, List.zip_cons_cons, Bool.and_eq_true, ih s (by simpa using h), e]
        simp
  unfold Initial.initialB
  rw [h1, Bool.true_and, bs_list]
  by_cases hq : ∀ p ∈ x.lats.zip s, okB p.1 p.2 = true
  · rw [(key x.lats s hs).2 hq, tt_pos ⟨hs, hq⟩]
  · rw [tt_neg (fun h => hq h.2), Bool.eq_false_iff]
    exact fun h => hq ((key x.lats s hs).1 h)
end BadP
end Go.Proofs.YtjmmhbmbafjneaaGreatDoor

/-
  sim.Next, sim.Initial.
-/
namespace Go.Proofs.YtjmmhbmbafjneaaGreatDoor
open Go.RowKit Base
set_option linter.unusedVariables false
set_option linter.unusedSimpArgs false
namespace SimV
open Circuit BadP StrashP Coi First

set_option maxRecDepth 8000 in
set_option maxHeartbeats 8000000 in
theorem next_any (w : World) (x : Circ) (p : At) (hin : InCirc w x p) (hw : WfC x) (hok : CheckOk x) (st inp : List Bool) (hst : st.length = x.lats.length) (hinp : inp.length = x.ins.length) :
    Calls Tryz.prog 80 #[.agg (cells x p), .string (bs st), .string (bs inp)] w fun e w' => e = .returned (.tuple #[.string (bs (next x st inp)), .int .i64 0]) ∧ Below w.heap.size w w' := by
  obtain ⟨W1, hW1⟩ : ∃ U, w.alloc (.cells (cells x p) 27) = U := ⟨_, rfl⟩
  obtain ⟨hb1, hx1⟩ := cbox_new w x p W1 hW1
  have hV64 : x.lats.length ≤ 64 := hok.1.2.2.2.1
  have HVV := Lib.hid (values_any W1 x p (hin.next hb1) hw hok st inp hst hinp)
  have HLT := Lib.hid (lits_in hok hw).2.2
  have HNX : Hid (next x st inp = x.lats.map fun t => litV (vals x st inp) t.2.1) := rfl
  have HVL : Hid ((vals x st inp).length ≤ 1000000) := by show _ ≤ _; rw [vals_len]; have := hok.1.2.1; omega
  have HLI : Hid (InCirc W1 x p) := hin.next hb1
  have HCB := Lib.hid (fun (U : World) (hU : Below W1.heap.size W1 U) => hx1.next hU (Nat.le_refl _))
  have c0 := hx1.k0
  have c1 := hx1.k1
  have c2 := hx1.k2
  have c3 := hx1.k3
  have c4 := hx1.k4
  have c5 := hx1.k5
  have c6 := hx1.k6
  have c7 := hx1.k7
  have HB1 := Lib.hid hb1
  have hcL := hin.lats.cap
  have hgL := hin.lats.big
  obtain ⟨a1, b1, a2, b2, a3, b3, a4, b4, a5, b5, a6, b6, a7, b7⟩ := p
  simp only [cells] at *
  generalize next x st inp = NX at *
  obtain ⟨V, hV⟩ : ∃ V, vals x st inp = V := ⟨_, rfl⟩
  rw [hV] at HVV HNX HVL
  have hsz : (bs V).size ≤ 9223372036854775807 := by rw [bs_size]; have := HVL.out; omega
  have HBY := Lib.hid (bytes_cbs V)
  generalize bs V = sV at *
  generalize bs st = ss at *
  generalize bs inp = si at *
  clear hin hb1 hx1 hw hok hst hinp hV
  go_enter Tryz.func80, Tryz.ntmps80
  go_wp2_with fail
  clear hW1
  with_reducible refine HVV.out.mono ?_
  rintro e w2 ⟨rfl, hb2⟩
  have HB2 := Lib.hid hb2
  clear hb2 c0 c1 c2 c3 c4 c5 c6 c7
  go_upto_region 5 with ((with_reducible refine wpL_bytes (s := sV) ?_ ?_ Tryz.underlying9 Tryz.underlying133 Tryz.underlying5 ?_); rfl; omega; intro b cb1 w3 hsb hb3 hbb)
  obtain ⟨W4, hW4⟩ : ∃ U, w3.alloc (.cells #[.pointer none, .slice none 0 0] 136) = U := ⟨_, rfl⟩
  have hisb := isB_new w3
  rw [hW4] at hisb
  have hb4 : Below w3.heap.size w3 W4 := by rw [← hW4]; exact (Below.refl _ _).alloc (Nat.le_refl _) _
  have HISB := Lib.hid hisb
  have HSB : Hid (Sl w3 (some ⟨b, 0, none⟩) sV.size cb1 (cbs V)) := by show Sl _ _ _ _ _; rw [← HBY.out]; exact hsb
  have hb13 := HB2.out.trans (hb3.mono HB2.out.size)
  have HB3 := Lib.hid hb13
  have HB4 := Lib.hid hb4
  have k4 := (HCB.out W4 (hb13.trans (hb4.mono hb13.size))).k2
  try simp only at k4
  clear hb3 hbb hsb hisb hb4 hb13
  go_wp2_with fail
  clear hW4 k4
  go_loopw [29] (fun i wr => ∃ k : Nat, k ≤ x.lats.length ∧ i = .int .i64 k ∧ Hid (IsB w3.heap.size w3.heap.size ((x.lats.take k).map fun t => byteB (litV V t.2.1)) wr) ∧ Hid (Below w3.heap.size W4 wr)) (fun i _ => x.lats.length - (intOf i).toNat)
  case atStart => exact ⟨0, Nat.zero_le _, rfl, HISB.out, Below.refl _ _⟩
  case round =>
    obtain ⟨k, hk, rfl, hI, hB⟩ := hrel
    generalize wr = ws at *
    have hb3s : Below w3.heap.size w3 ws := HB4.out.trans hB.out
    by_cases hlt : k < x.lats.length
    · obtain ⟨bl, ol, hx, hae, hbs, d0, d1, d2⟩ := (HLI.out.next (HB3.out.trans (hb3s.mono HB3.out.size))).lats.tri hlt
      try simp only at hae
      subst hae
      have hl1 := HLT.out x.lats[k] (List.getElem_mem hx)
      have HTK : Hid (((x.lats.take (k + 1)).map fun t => byteB (litV V t.2.1)) = ((x.lats.take k).map fun t => byteB (litV V t.2.1)) ++ [byteB (litV V x.lats[k].2.1)]) := by
        show _ = _
        rw [List.take_succ_eq_append_getElem hx, List.map_append]; rfl
      have hll : ((x.lats.take k).map fun t => byteB (litV V t.2.1)).length ≤ 100000 := by rw [List.length_map, List.length_take]; omega
      generalize x.lats[k] = t at *
      obtain ⟨U, hU⟩ : ∃ U, ws.alloc (.cells #[.int .i64 t.1, .int .i64 t.2.1, .int .i64 t.2.2] 71) = U := ⟨_, rfl⟩
      have hbU : Below ws.heap.size ws U := by rw [← hU]; exact (Below.refl _ _).alloc (Nat.le_refl _) _
      have u1 : U.cell? ⟨ws.heap.size, 1, none⟩ = some (.int .i64 t.2.1) := by rw [← hU]; simp [go_sem]
      have hb3U : Below w3.heap.size w3 U := hb3s.trans (hbU.mono hb3s.size)
      have hOF := of_any U _ _ cb1 V (HSB.out.next hb3U) t.2.1 (by omega) (by omega)
      have hWR := write_any w3.heap.size w3.heap.size _ (byteB (litV V t.2.1)) U (isB_next hI.out hbU) hll hb3U.size
      unfold cb at hOF
      generalize hz : ((byteB (litV V t.2.1)).toNat : Int) = z at *
      have HOF := Lib.hid hOF
      have HWR := Lib.hid hWR
      have HBU : Hid (Below w3.heap.size W4 U) := hB.out.trans (hbU.mono (Nat.le_trans HB4.out.size hB.out.size))
      clear hI hB hb3s hl1 hll hbU hb3U hOF hWR hz
      go_wp2_with fail
      clear hU u1
      with_reducible refine HOF.out.mono ?_
      rintro e w5 ⟨rfl, rfl⟩
      go_wp2_with fail
      with_reducible refine HWR.out.mono ?_
      rintro e w6 ⟨rfl, hI6, hb6⟩
      have HI6 := Lib.hid hI6
      have HB6 := Lib.hid (HBU.out.trans hb6)
      clear hI6 hb6
      go_wp2_with fail
      go_roundw
      case rel => exact ⟨k + 1, by omega, by go_num, by rw [HTK.out]; exact HI6.out, HB6.out⟩
      case measure => simp [intOf]; omega
    · have hend : k = x.lats.length := by omega
      have HST := Lib.hid (string_any w3.heap.size w3.heap.size _ ws hI.out hb3s.size)
      have HFN : Hid (bs NX = ⟨((x.lats.take k).map fun t => byteB (litV V t.2.1)).toArray⟩) := by
        show _ = _
        rw [HNX.out, List.take_of_length_le (by omega)]
        unfold bs
        rw [List.map_map]; rfl
      have HBS := Lib.hid hb3s
      clear hI hB hb3s hend hk
      go_wp2_with fail
      with_reducible refine HST.out.mono ?_
      rintro e w5 ⟨rfl, hb5⟩
      have HB5 := Lib.hid hb5
      clear hb5
      go_wp2_with fail
      refine bodyPost_ret (v := .tuple #[.string (bs NX), .int .i64 0]) (by rw [HFN.out]; simp [results, Tryz.results80, go_sem]) rfl ⟨rfl, ?_⟩
      have h5 := HB3.out.trans ((HBS.out.trans HB5.out).mono HB3.out.size)
      exact HB1.out.trans (h5.mono HB1.out.size)

theorem byteB_inj {a b : Bool} (h : byteB a = byteB b) : a = b := by cases a <;> cases b <;> first | rfl | (exact absurd h (by decide))
theorem bs_inj {a b : List Bool} (h : bs a = bs b) : a = b := by
  have h2 := congrArg (fun q : ByteArray => q.data.toList) h
  simp only [bs_list] at h2
  exact (List.map_inj_right (fun _ _ e => byteB_inj e)).1 h2
/-- Two texts' equality, as the walk tells it. -/
theorem bs_eq (a b : List Bool) : ((bs a).toList == (bs b).toList) = decide (a = b) := by
  rw [Lib.toList_data, Lib.toList_data, Bool.eq_iff_iff, beq_iff_eq, decide_eq_true_iff]
  exact ⟨fun h => bs_inj (ext_list h), fun h => by rw [h]⟩
theorem first_same {x : Circ} (hrs : MeetsP.ResetOk x.lats) {s : List Bool} (hs : s.length = x.lats.length) : ((firstS x.lats (bs s)).toList == (bs s).toList) = tt (initL x s) := by
  have key : ∀ (lats : List Tri) (s : List Bool), MeetsP.ResetOk lats → s.length = lats.length → (MeetsP.firstL lats (s.map byteB) = s.map byteB ↔ ∀ p ∈ lats.zip s, okB p.1 p.2 = true) := by
    intro lats
    induction lats with
    | nil => intro s h1 h2; cases s with
      | nil => simp [MeetsP.firstL]
      | cons a r => simp at h2
    | cons t r ih =>
      intro s h1 h2
      cases s with
      | nil => simp at h2
      | cons b u =>
        have h3 := ih u (fun q hq => h1 q (List.mem_cons_of_mem _ hq)) (by simpa using h2)
        have ht := h1 t List.mem_cons_self
        have e : MeetsP.firstL (t :: r) ((b :: u).map byteB) = MeetsP.resetB t (byteB b) :: MeetsP.firstL r (u.map byteB) := rfl
        rw [e, List.map_cons, List.cons.injEq, h3, List.zip_cons_cons]
        have e2 : MeetsP.resetB t (byteB b) = byteB b ↔ okB t b = true := by
          unfold MeetsP.resetB okB
          by_cases q1 : t.2.2 = t.1
          · simp [q1]
          · rw [if_neg q1]
            by_cases q2 : t.2.2 = 1
            · simp [q2]
              have : (1 : Int) ≠ t.1 := fun e => q1 (by rw [q2]; exact e)
              cases b <;> simp [byteB, this]
            · have : (t.2.2 == 1) = false := by simpa using q2
              rw [if_neg q2, this]
              have q3 : (t.2.2 != t.1) = true := by simpa using q1
              rw [q3]
              cases b <;> simp [byteB]
        rw [e2]
        simp
  have h := key x.lats s hrs hs
  rw [Lib.toList_data, Lib.toList_data, bs_list]
  show (MeetsP.firstL x.lats (bs s).data.toList == _) = _
  rw [bs_list, Bool.eq_iff_iff, beq_iff_eq, h]
  constructor
  · intro e
    exact tt_pos ⟨hs, e⟩
  · intro e
    by_cases hq : initL x s
    · exact hq.2
    · rw [tt_neg hq] at e; cases e

set_option maxRecDepth 4000 in
set_option maxHeartbeats 2000000 in
theorem initial_any (w : World) (x : Circ) (p : At) (hin : InCirc w x p) (hw : WfC x) (hok : CheckOk x) (s : List Bool) (hs : s.length = x.lats.length) :
    Calls Tryz.prog 77 #[.agg (cells x p), .string (bs s)] w fun e w' => e = .returned (.bool (tt (initL x s))) ∧ Below w.heap.size w w' := by
  obtain ⟨W1, hW1⟩ : ∃ U, w.alloc (.cells (cells x p) 27) = U := ⟨_, rfl⟩
  obtain ⟨hb1, hx1⟩ := cbox_new w x p W1 hW1
  have HF := Lib.hid (first_any W1 x p (hin.next hb1) hw hok (bs s) (bits_bs s hs))
  have hfs := first_same hok.2.1.2.1 hs
  have c0 := hx1.k0
  have c1 := hx1.k1
  have c2 := hx1.k2
  have c3 := hx1.k3
  have c4 := hx1.k4
  have c5 := hx1.k5
  have c6 := hx1.k6
  have c7 := hx1.k7
  have HB1 := Lib.hid hb1
  obtain ⟨a1, b1, a2, b2, a3, b3, a4, b4, a5, b5, a6, b6, a7, b7⟩ := p
  simp only [cells] at *
  generalize hqq : tt (initL x s) = q at *
  clear hqq
  generalize firstS x.lats (bs s) = sf at *
  generalize bs s = ss at *
  clear hin hb1 hx1 hw hok hs
  go_enter Tryz.func77, Tryz.ntmps77
  go_wp2_with fail
  clear hW1
  with_reducible refine HF.out.mono ?_
  rintro e w2 ⟨rfl, hb2⟩
  have HB2 := Lib.hid hb2
  clear hb2
  go_wp2_with fail
  go_ret
  exact ⟨by first | rfl | (rw [hfs]), HB1.out.trans (HB2.out.mono HB1.out.size)⟩
end SimV
end Go.Proofs.YtjmmhbmbafjneaaGreatDoor

/-
  enum's walk: what lies in memory; reach.
-/
namespace Go.Proofs.YtjmmhbmbafjneaaGreatDoor
open Go.RowKit Base Go.Maps
set_option linter.unusedVariables false
set_option linter.unusedSimpArgs false
namespace EnumW
open Circuit BadP StrashP SimV EnumA EnumP GetI MapG

/-- Texts of bits as keys. -/
abbrev okK (s : List Bool) : Prop := s.length ≤ 1000
def kl (s : List Bool) : Lit := .string (bs s).data.toList
def kv (s : List Bool) : Value := .string (bs s)
theorem kindS : Kind Tryz.prog 9 kv kl okK :=
  ⟨string_keyed Tryz.underlying9, fun s hs => WideMaps.keyOf_string_mk Tryz.underlying9 (by rw [bs_size]; unfold maxLen; unfold okK at hs; omega), fun a b _ _ h => bs_inj (by simpa [kv] using h)⟩
abbrev MapS (w : World) (b n : Nat) (D : List (List Bool × Int)) : Prop := MapI Tryz.prog 9 3 kl okK w b n D
theorem zeroI (w : World) : (zeroValue 3).run Tryz.prog w = .ok (.int .i64 0) w := by kernel_rfl

def wcells (x : Circ) (p : At) (aA : Option Addr) (nA cA b : Nat) (aO : Option Addr) (nO cO : Nat) : List Value :=
  [.int .i64 x.max, .slice p.a1 x.ins.length p.c1, .slice p.a2 x.lats.length p.c2, .slice p.a3 x.outs.length p.c3, .slice p.a4 x.bads.length p.c4, .slice p.a5 x.invs.length p.c5, .slice p.a6 x.ands.length p.c6, .slice p.a7 x.names.length p.c7,
   .slice aA nA cA, .map (some b), .slice aO nO cO]

/-- A walk in memory. -/
structure WIs (B1 N b : Nat) (x : Circ) (p : At) (aA : Option Addr) (nA cA : Nat) (O : Ord) (aO : Option Addr) (cO : Nat) (w : World) : Prop where
  box : BoxN N (wcells x p aA nA cA b aO O.length cO) w
  map : MapS w b O.length (tbl O)
  own : w.ownsRow B1 9 1 (.slice aO O.length cO) O.length (txt (O.map (·.1)))
  ne : N ≠ b
  lN : N < B1
  lb : b < B1
  le : B1 ≤ w.heap.size

/-- What is as it was but for a walk's own. -/
structure Off3 (N b : Nat) (v : Value) (w w2 : World) : Prop where
  os : w2.os = w.os
  tape : w2.tape = w.tape
  output : w2.output = w.output
  size : w.heap.size ≤ w2.heap.size
  block : ∀ k, k < w.heap.size → k ≠ N → k ≠ b → v.ownBlock ≠ some k → w2.heap[k]? = w.heap[k]?

section
variable {B1 N b : Nat} {x : Circ} {p : At} {aA : Option Addr} {nA cA : Nat} {O : Ord} {aO : Option Addr} {cO : Nat} {w w2 w3 : World} {v v2 : Value}

theorem Off3.refl : Off3 N b v w w := ⟨rfl, rfl, rfl, Nat.le_refl _, fun _ _ _ _ _ => rfl⟩
theorem Off3.of_below (hb : Below w.heap.size w w2) : Off3 N b v w w2 := ⟨hb.os, hb.tape, hb.output, hb.size, fun k hk _ _ _ => hb.block k hk⟩
theorem Off3.trans (h : Off3 N b v w w2) (h2 : Off3 N b v2 w2 w3) (hv : ∀ k, v2.ownBlock = some k → v.ownBlock = some k ∨ w.heap.size ≤ k) : Off3 N b v w w3 :=
  ⟨h2.os.trans h.os, h2.tape.trans h.tape, h2.output.trans h.output, Nat.le_trans h.size h2.size, fun k hk h1 h3 h4 => (h2.block k (Nat.lt_of_lt_of_le hk h.size) h1 h3 (fun e => by
    rcases hv k e with g | g
    · exact h4 g
    · omega)).trans (h.block k hk h1 h3 h4)⟩
theorem Off3.base (h : Off3 N b v w w2) {B : Nat} {w0 : World} (h0 : Below B w0 w) (hB : B ≤ w.heap.size) (hN : B ≤ N) (hb : B ≤ b) (hv : ∀ k, v.ownBlock = some k → B ≤ k) : Below B w0 w2 :=
  ⟨h.os.trans h0.os, h.tape.trans h0.tape, h.output.trans h0.output, Nat.le_trans h0.size h.size, fun k hk => (h.block k (by omega) (by omega) (by omega) (fun e => by have := hv k e; omega)).trans (h0.block k hk)⟩
theorem Off3.own (h : Off3 N b v w w2) {B : Nat} {e : TypeId} {size : Nat} {u : Value} {n : Nat} {vs : List Value} (ho : w.ownsRow B e size u n vs) (h1 : u.ownBlock ≠ some N) (h2 : u.ownBlock ≠ some b) (h3 : ∀ k, u.ownBlock = some k → v.ownBlock ≠ some k) : w2.ownsRow B e size u n vs := by
  refine ⟨ho.1, ?_⟩
  rcases ho.2 with hn | ⟨g, cap, cur, hv, hb, hh, r⟩
  · exact .inl hn
  · refine .inr ⟨g, cap, cur, hv, hb, ?_, r⟩
    have hog : u.ownBlock = some g := by rw [hv]; rfl
    rw [h.block g (Array.getElem?_eq_some_iff.1 hh).1 (by rintro rfl; exact h1 hog) (by rintro rfl; exact h2 hog) (h3 g hog)]
    exact hh
theorem WIs.next (h : WIs B1 N b x p aA nA cA O aO cO w) (hb : Below w.heap.size w w2) : WIs B1 N b x p aA nA cA O aO cO w2 :=
  ⟨h.box.next hb h.box.lt, h.map.next hb, own_next h.own hb, h.ne, h.lN, h.lb, Nat.le_trans h.le hb.size⟩
end

theorem grown_alE {w w1 : World} {o : Obj} {ob : Option Nat} (h : (w.alloc o).grownBy w1 ob) : w.grownBy w1 ob := by
  have ha : Below w.heap.size w (w.alloc o) := (Below.refl _ _).alloc (Nat.le_refl _) _
  exact ⟨h.os.trans ha.os, h.tape.trans ha.tape, h.output.trans ha.output, Nat.le_trans ha.size h.size, fun k hk hne => (h.block k (Nat.lt_of_lt_of_le hk ha.size) hne).trans (ha.block k hk)⟩

/-- append of one value, with what block it then lies in. -/
theorem wpL_pushE {P : Program} {w : World} {ops : Array Oper} {rest : List Oper} {dst : Option Tmp} {ty : TypeId} {pos : String} {af : Array Edge} {a : Act} {Q : Exit → Act → World → Prop}
    {s x : Operand} {t e : TypeId} {z : Value} {bytes : Nat} (B : Nat) (w0 : World) (u : Value) (v : Value) (n : Nat) (vs : List Value)
    (hinfo : (P.info? e).map (fun i => (i.zero, i.size, i.bytes)) = some (some z, 1, bytes)) (ht : P.underlying t = some (.slice e)) (hzs : z.cells.size = 1)
    (hw : w = w0.alloc (.cells #[u] e)) (hs : a.eval s = v) (hx : a.eval x = .slice (some ⟨w0.heap.size, 0, none⟩) 1 1) (hu : u.oneCell' = true)
    (hown : w0.ownsRow B e 1 v n vs) (hB : B ≤ w0.heap.size) (hn : (n + 1) * bytes ≤ 140737488355328) (hn' : n + 1 ≤ 9223372036854775807)
    (hK : ∀ a' c w1, w1.ownsRow B e 1 (.slice a' (n + 1) c) (n + 1) (vs ++ [u]) → w0.grownBy w1 v.ownBlock → ((Value.slice a' (n + 1) c).ownBlock = v.ownBlock ∨ (Value.slice a' (n + 1) c).ownBlock = some (w0.heap.size + 1)) → wpList P ops Q rest (a.put dst (.slice a' (n + 1) c)) w1) :
    wpList P ops Q (⟨dst, .call { callee := .builtin .append, args := #[s, x], argTypes := #[t, t] }, ty, pos, af, none⟩ :: rest) a w := by
  obtain ⟨i, hi, hz0, hz1, hz2⟩ := info_parts hinfo
  subst hw
  obtain ⟨v', w1, hr, hown', hgrow, _, hob⟩ := run_append_own_at (P := P) (w0.alloc (.cells #[u] e)) B t ty e i z 1 bytes ht hi hz0 hz1 hz2 hzs (by decide) v n vs (hown.alloc _) ⟨w0.heap.size, 0, none⟩ 1 1 [u] rfl
    (cell_one_new _ _ _) (by intro q hq; simp at hq; subst hq; exact hu) (by unfold maxLen; omega) hn (by simp; omega)
  obtain ⟨a', c, rfl, _⟩ := own_sl hown'
  refine Lib.wpList_append_run _ rfl _ _ _ _ rfl _ _ hs hx _ _ hr ?_
  refine hK a' c w1 hown' (grown_alE hgrow) ?_
  rcases hob with h | h
  · exact .inl h
  · exact .inr (by rw [h]; simp)

/-- What reach leaves. -/
structure ReachOut (B1 N b : Nat) (x : Circ) (p : At) (aA : Option Addr) (nA cA : Nat) (O : Ord) (aO : Option Addr) (cO : Nat) (w : World) (O2 : Ord) (aO2 : Option Addr) (cO2 : Nat) (w2 : World) : Prop where
  is : WIs B1 N b x p aA nA cA O2 aO2 cO2 w2
  off : Off3 N b (.slice aO O.length cO) w w2
  blk : ∀ k, (Value.slice aO2 O2.length cO2).ownBlock = some k → (Value.slice aO O.length cO).ownBlock = some k ∨ w.heap.size ≤ k

set_option maxRecDepth 4000 in
set_option maxHeartbeats 4000000 in
theorem reach_any (w : World) (B1 N b : Nat) (x : Circ) (p : At) (aA : Option Addr) (nA cA : Nat) (O : Ord) (aO : Option Addr) (cO : Nat) (h : WIs B1 N b x p aA nA cA O aO cO w) (hnd : (O.map (·.1)).Nodup) (hOl : O.length ≤ 100000) (s : List Bool) (hs : s.length ≤ 1000) (k : Nat) (hk : k ≤ 1000000) :
    Calls Tryz.prog 78 #[.pointer (some ⟨N, 0, none⟩), .string (bs s), .int .i64 (k : Int)] w fun e w2 => e = .returned (.tuple #[]) ∧ ∃ aO2 cO2, ReachOut B1 N b x p aA nA cA O aO cO w (reach O s k) aO2 cO2 w2 := by
  have hlk := h.map.look (T := 67) kindS Tryz.underlying67 Tryz.underlying3 (zeroI w) (x := s) hs
  rw [tbl_some hnd] at hlk
  have c9 := h.box.at' 9 _ rfl
  obtain ⟨w3, hst, hm3, hg3⟩ := h.map.store (T := 67) kindS Tryz.underlying67 Tryz.underlying3 (by omega) (x := s) hs (v := (k : Int)) ⟨by omega, by omega⟩
  have e9 : kv s = .string (bs s) := rfl
  rw [e9] at hlk hst
  generalize (getI (tbl O) s).getD 0 = old at *
  cases hq : has O s with
  | true =>
    rw [hq] at hlk
    rw [reach_old hq]
    have HH := Lib.hid h
    clear hst hm3 hg3 h hq hnd
    generalize bs s = ss at *
    go_enter Tryz.func78, Tryz.ntmps78
    go_wp2_with fail
    refine bodyPost_ret (v := .tuple #[]) (by simp [results, Tryz.results78, go_sem]) rfl ?_
    exact ⟨rfl, aO, cO, HH.out, Off3.refl, fun k hk => .inl hk⟩
  | false =>
    rw [hq] at hlk
    rw [reach_new hq]
    have HF3 : OffB b w w3 := (OffB.refl b w).put hg3
    have hb3 := HF3.box h.box h.ne
    have ho3 := HF3.own h.own (own_not' h.own h.lb)
    have hle3 : B1 ≤ w3.heap.size := Nat.le_trans h.le HF3.size
    have c10 := hb3.at' 10 _ rfl
    have HH := Lib.hid h
    have HM3 := Lib.hid hm3
    have HB3 := Lib.hid hb3
    have HF := Lib.hid HF3
    have HNB : Hid (∀ k, (Value.slice aO O.length cO).ownBlock = some k → B1 ≤ k) := fun k hk => (ho3.lt k hk).1
    have HBG : Hid (∀ w5, w3.grownBy w5 (Value.slice aO O.length cO).ownBlock → BoxN N (wcells x p aA nA cA b aO O.length cO) w5) := fun w5 hg => by
      have hne : some N ≠ (Value.slice aO O.length cO).ownBlock := fun e => by have := (ho3.lt N e.symm).1; have := h.lN; omega
      have hblk := hg.block N hb3.lt hne
      exact ⟨Nat.lt_of_lt_of_le hb3.lt hg.size, fun j u hu => (World.cell?_of_block (w := w3) (a := ⟨N, j, none⟩) hblk).trans (hb3.at' j u hu), fun j => (World.frozen?_of_block (w := w3) (a := ⟨N, j, none⟩) hblk).trans (hb3.fz j)⟩
    clear hm3 hg3 h hq hnd hb3 HF3
    obtain ⟨n, hn⟩ : ∃ n, O.length = n := ⟨_, rfl⟩
    obtain ⟨ss, hss⟩ : ∃ t, bs s = t := ⟨_, rfl⟩
    rw [hss] at hlk hst ⊢
    rw [hn] at c10 ho3 HBG
    have HSS := Lib.hid hss
    have HN := Lib.hid hn
    have hn1 : n ≤ 100000 := by omega
    clear hss hn hOl hs
    go_enter Tryz.func78, Tryz.ntmps78
    go_wp2_with ((with_reducible refine wpL_pushE (B := B1) w3 (.string ss) _ n (txt (O.map (·.1))) info_st Tryz.underlying30 ?_ ?_ ?_ ?_ ?_ ho3 ?_ ?_ ?_ ?_); rfl; rfl; rfl; rfl; rfl; (exact hle3); omega; omega; (intro a5 c5 w5 hown5 hg5 hob5; have hb5 := HBG.out w5 hg5; have y10 := hb5.at' 10 _ rfl; have z10 := hb5.fz 10))
    have hm5 := HM3.out.same (hg5.block b (by have := HH.out.lb; omega) (fun e => by have := HNB.out b (by rw [HN.out]; exact e.symm); have := HH.out.lb; omega))
    have OB := (OffB.refl N w5).set 10 (.slice a5 (n + 1) c5)
    have hown6 := OB.own hown5 (own_not' hown5 HH.out.lN)
    have hm6 := hm5.same (OB.block b hm5.lt (fun e => HH.out.ne e.symm))
    have hb6 := hb5.set 10 (.slice a5 (n + 1) c5)
    have hl : (O ++ [(s, k)]).length = n + 1 := by rw [List.length_append, HN.out]; rfl
    refine bodyPost_end (v := .tuple #[]) (by simp [results, Tryz.results78, go_sem]) rfl ?_
    refine ⟨rfl, a5, c5, ⟨?_, ?_, ?_, HH.out.ne, HH.out.lN, HH.out.lb, ?_⟩, ?_, ?_⟩
    · rw [hl]; exact hb6
    · rw [hl, tbl_snoc]; rw [HN.out] at hm6; exact hm6
    · rw [hl]
      have e : txt ((O ++ [(s, k)]).map (·.1)) = txt (O.map (·.1)) ++ [.string ss] := by unfold txt; rw [List.map_append, List.map_append, ← HSS.out]; rfl
      rw [e]; exact hown6
    · exact Nat.le_trans hle3 (Nat.le_trans hg5.size OB.size)
    · have h3 := HF.out
      refine ⟨OB.os.trans (hg5.os.trans h3.os), OB.tape.trans (hg5.tape.trans h3.tape), OB.output.trans (hg5.output.trans h3.output), Nat.le_trans h3.size (Nat.le_trans hg5.size OB.size), fun q hq h1 h2 h4 => ?_⟩
      rw [HN.out] at h4
      exact (OB.block q (by have := h3.size; have := hg5.size; omega) h1).trans ((hg5.block q (by have := h3.size; omega) (fun e => h4 e.symm)).trans (h3.block q hq h2))
    · intro q hq
      rw [hl] at hq
      rw [HN.out]
      rcases hob5 with g | g
      · left; rw [← g]; exact hq
      · right
        rw [g] at hq
        have := HF.out.size
        simp only [Option.some.injEq] at hq
        omega
end EnumW
end Go.Proofs.YtjmmhbmbafjneaaGreatDoor

/-
  slices.IndexFunc and slices.ContainsFunc at one instance (elements of one cell), whatever predicate is handed over: ps says of each element what the predicate gives.
-/
namespace Go.Proofs.YtjmmhbmbafjneaaGreatDoor
open Go.RowKit Base
set_option linter.unusedVariables false
namespace SlfR

/-- A function value gives ps of the elements, and turns nothing that is there. -/
def Gives (w : World) (g : FuncId) (fs lb : Array Value) (vs : List Value) (ps : List Bool) : Prop :=
  ∀ W, Below w.heap.size w W → ∀ (k : Nat) (v : Value) (b : Bool), vs[k]? = some v → ps[k]? = some b → Calls Tryz.prog g (fs.push v ++ lb) W fun e w' => e = .returned (.bool b) ∧ Below W.heap.size W w'

def Enters (g : FuncId) : Prop := ∀ args w, (callFunc g args).run Tryz.prog w = .ok (.enter g args) w

theorem idx_hit (ps : List Bool) (k : Nat) (h : ps[k]? = some true) : idx id (ps.drop k) k = k := by
  obtain ⟨hk, e⟩ := List.getElem?_eq_some_iff.1 h
  rw [List.drop_eq_getElem_cons hk]; unfold idx; rw [e]; rfl
theorem idx_miss (ps : List Bool) (k : Nat) (h : ps[k]? = some false) : idx id (ps.drop k) k = idx id (ps.drop (k + 1)) (k + 1) := by
  obtain ⟨hk, e⟩ := List.getElem?_eq_some_iff.1 h
  rw [List.drop_eq_getElem_cons hk]
  show (if id ps[k] = true then _ else _) = _
  rw [e]; rfl

set_option maxHeartbeats 1000000 in
theorem indexFunc (w : World) (a : Option Addr) (n c : Nat) (vs : List Value) (g : FuncId) (fs lb : Array Value) (ps : List Bool)
    (hs : Sl w a n c vs) (hps : ps.length = n) (eg : Enters g) (hg : Gives w g fs lb vs ps) :
    Calls Tryz.prog 71 #[.slice a n c, .func (.func g) fs lb] w fun e w' => e = .returned (.int .i64 (idx id ps 0)) ∧ Below w.heap.size w w' := by
  have hcap := hs.cap
  have hbig := hs.big
  have HPS := Lib.hid hps
  have HG := Lib.hid hg
  clear hg hps
  unfold Enters at eg
  go_enter Tryz.func71, Tryz.ntmps71
  go_wp2
  go_loopw [5, 8] (fun _ i wr => ∃ k : Nat, k ≤ n ∧ i = .int .i64 k ∧ Below w.heap.size w wr ∧ Hid (idx id ps 0 = idx id (ps.drop k) k)) (fun _ i _ => n - (intOf i).toNat)
  case atStart => exact ⟨0, Nat.zero_le _, rfl, Below.refl _ _, rfl⟩
  case round =>
    obtain ⟨k, hk, rfl, hb, hI⟩ := hrel
    by_cases hlt : k < n
    · obtain ⟨b, o, v, rfl, hbs, hv, hc⟩ := hs.at hlt
      have hcr : wr.cell? ⟨b, o + k, none⟩ = some v := (hb.cell (p := ⟨b, o + k, none⟩) hbs).trans hc
      have HV := Lib.hid hv
      clear hc hv
      obtain ⟨q, hq⟩ : ∃ q, ps[k]? = some q := ⟨_, List.getElem?_eq_getElem (by have := HPS.out; omega)⟩
      have HQ := Lib.hid hq
      clear hq
      cases q
      all_goals
        go_wp2_with fail
        refine (HG.out wr hb k v _ HV.out HQ.out).mono ?_
        rintro e w1 ⟨rfl, hb1⟩
        go_wp2_with fail
      · go_roundw
        case rel => exact ⟨k + 1, by omega, by go_num, hb.trans (hb1.mono hb.size), hI.out.trans (idx_miss ps k HQ.out)⟩
        case measure => simp [intOf]; omega
      · go_ret
        exact ⟨ret_int (by rw [hI.out, idx_hit ps k HQ.out]), hb.trans (hb1.mono hb.size)⟩
    · go_wp2
      go_ret
      exact ⟨ret_int (by rw [hI.out, List.drop_of_length_le (by rw [HPS.out]; omega)]; rfl), hb⟩

set_option maxHeartbeats 400000 in
theorem containsFunc (w : World) (a : Option Addr) (n c : Nat) (vs : List Value) (g : FuncId) (fs lb : Array Value) (ps : List Bool)
    (hs : Sl w a n c vs) (hps : ps.length = n) (eg : Enters g) (hg : Gives w g fs lb vs ps) :
    Calls Tryz.prog 39 #[.slice a n c, .func (.func g) fs lb] w fun e w' => e = .returned (.bool (ps.any id)) ∧ Below w.heap.size w w' := by
  have H := Lib.hid (indexFunc w a n c vs g fs lb ps hs hps eg hg)
  clear hg hs eg hps
  go_enter Tryz.func39, Tryz.ntmps39
  go_wp2_with fail
  refine H.out.mono ?_
  rintro e w1 ⟨rfl, hb1⟩
  generalize hq : idx id ps 0 = q
  have HQ := Lib.hid hq
  clear hq
  go_wp2_with fail
  go_ret
  exact ⟨ret_bool (by rw [← idx_nn id ps 0, HQ.out]), hb1⟩
end SlfR
end Go.Proofs.YtjmmhbmbafjneaaGreatDoor

/-
  sim.True, sim.Holds, replay.Allowed.
-/
namespace Go.Proofs.YtjmmhbmbafjneaaGreatDoor
open Go.RowKit Base
set_option linter.unusedVariables false
set_option linter.unusedSimpArgs false
namespace SimV
open Circuit BadP StrashP

set_option maxHeartbeats 2000000 in
theorem true_any (w : World) (L : List Bool) (l : Int) (h0 : -9223372036854775808 ≤ l) (h1 : l ≤ 9223372036854775807) (hL : L.length ≤ 1000000) :
    Calls Tryz.prog 87 #[.string (bs L), .int .i64 l] w fun e w' => e = .returned (.bool (litV L l)) ∧ Below w.heap.size w w' := by
  have hz : (bs L).size ≤ 9223372036854775807 := by rw [bs_size]; omega
  have HOF := Lib.hid (fun (b c1 : Nat) (w1 : World) (hs : Sl w1 (some ⟨b, 0, none⟩) (bs L).size c1 (bytesV (bs L))) => of_any w1 _ _ c1 L (by rw [← bytes_cbs]; exact hs) l h0 h1)
  have hb : ((((byteB (litV L l)).toNat : Int)) == 49) = litV L l := byte_one _
  unfold cb at HOF
  generalize ((byteB (litV L l)).toNat : Int) = z at *
  generalize litV L l = q at *
  generalize bs L = s at *
  clear hL
  go_enter Tryz.func87, Tryz.ntmps87
  go_wp2_with ((with_reducible refine wpL_bytes (s := s) ?_ ?_ Tryz.underlying9 Tryz.underlying133 Tryz.underlying5 ?_); rfl; omega; intro b c1 w1 hsb hb1 hbb)
  with_reducible refine (HOF.out b c1 w1 hsb).mono ?_
  rintro e w2 ⟨rfl, rfl⟩
  have HB1 := Lib.hid hb1
  clear hb1 hbb hsb
  go_wp2_with fail
  go_ret
  exact ⟨rfl, HB1.out⟩

theorem is_any (w : World) (L : List Bool) (l : Int) (h0 : -9223372036854775808 ≤ l) (h1 : l ≤ 9223372036854775807) (hL : L.length ≤ 1000000) :
    Calls Tryz.prog 143 #[.string (bs L), .int .i64 l] w fun e w' => e = .returned (.bool (litV L l)) ∧ Below w.heap.size w w' := by
  have H := Lib.hid (true_any w L l h0 h1 hL)
  generalize bs L = s at *
  generalize litV L l = q at *
  clear hL h0 h1
  go_enter Tryz.func143, Tryz.ntmps143
  go_wp2_with fail
  with_reducible refine H.out.mono ?_
  rintro e w2 ⟨rfl, hb⟩
  have HB := Lib.hid hb
  clear hb
  go_wp2_with fail
  go_ret
  exact ⟨rfl, HB.out⟩
theorem isNot_any (w : World) (L : List Bool) (l : Int) (h0 : -9223372036854775808 ≤ l) (h1 : l ≤ 9223372036854775807) (hL : L.length ≤ 1000000) :
    Calls Tryz.prog 123 #[.string (bs L), .int .i64 l] w fun e w' => e = .returned (.bool (!litV L l)) ∧ Below w.heap.size w w' := by
  have H := Lib.hid (is_any w L l h0 h1 hL)
  generalize bs L = s at *
  generalize litV L l = q at *
  clear hL h0 h1
  go_enter Tryz.func123, Tryz.ntmps123
  go_wp2_with fail
  with_reducible refine H.out.mono ?_
  rintro e w2 ⟨rfl, hb⟩
  have HB := Lib.hid hb
  clear hb
  go_wp2_with fail
  go_ret
  exact ⟨rfl, HB.out⟩

theorem holds1_any (w : World) (N b n c : Nat) (L : List Bool) (hc : w.cell? ⟨N, 0, none⟩ = some (.slice (some ⟨b, 0, none⟩) n c)) (hs : Sl w (some ⟨b, 0, none⟩) n c (cbs L)) (l : Int) (h0 : -9223372036854775808 ≤ l) (h1 : l ≤ 9223372036854775807) :
    Calls Tryz.prog 163 #[.int .i64 l, .pointer (some ⟨N, 0, none⟩)] w fun e w' => e = .returned (.bool (litV L l)) ∧ Below w.heap.size w w' := by
  have HOF := Lib.hid (of_any w _ n c L hs l h0 h1)
  have hb : ((((byteB (litV L l)).toNat : Int)) == 49) = litV L l := byte_one _
  unfold cb at HOF
  generalize ((byteB (litV L l)).toNat : Int) = z at *
  generalize litV L l = q at *
  clear hs h0 h1
  go_enter Tryz.func163, Tryz.ntmps163
  go_wp2_with fail
  with_reducible refine HOF.out.mono ?_
  rintro e w2 ⟨rfl, rfl⟩
  go_wp2_with fail
  go_ret
  exact ⟨rfl, Below.refl _ _⟩

theorem eg_h1 : SlfI.Enters 163 := enters_of Tryz.func163 (by kernel_rfl) rfl
theorem eg_not : SlfI.Enters 123 := enters_of Tryz.func123 (by kernel_rfl) rfl
theorem eg_br : SlfR.Enters 124 := enters_of Tryz.func124 (by kernel_rfl) rfl
theorem int_gives {w : World} {g : FuncId} {fs lb : Array Value} {cl : List Int} {p : Int → Bool} (h : ∀ W, Below w.heap.size w W → ∀ y, y ∈ cl → Calls Tryz.prog g (fs.push (.int .i64 y) ++ lb) W fun e w' => e = .returned (.bool (p y)) ∧ Below W.heap.size W w') :
    SlfI.Gives w g fs lb (ints cl) (cl.map p) := by
  intro W hW k v b hv hb
  unfold ints at hv
  rw [List.getElem?_map, Option.map_eq_some_iff] at hv hb
  obtain ⟨y, hy, rfl⟩ := hv
  obtain ⟨y2, hy2, rfl⟩ := hb
  rw [hy] at hy2
  cases hy2
  exact h W hW y (List.mem_of_getElem? hy)

set_option maxHeartbeats 2000000 in
theorem holds_any (w : World) (L : List Bool) (hL : L.length ≤ 1000000) (a : Option Addr) (n c : Nat) (cl : List Int) (hsl : Sl w a n c (ints cl)) (h64 : ∀ y ∈ cl, -9223372036854775808 ≤ y ∧ y ≤ 9223372036854775807) :
    Calls Tryz.prog 144 #[.string (bs L), .slice a n c] w fun e w' => e = .returned (.bool (cl.any (litV L))) ∧ Below w.heap.size w w' := by
  have hz : (bs L).size ≤ 9223372036854775807 := by rw [bs_size]; omega
  have hcl : (cl.map (litV L)).length = n := by have := hsl.len; rw [ints_len] at this; rw [List.length_map]; exact this
  have e : (cl.map (litV L)).any id = cl.any (litV L) := by rw [List.any_map]; rfl
  have HCF := Lib.hid (fun (N b c1 : Nat) (w2 : World) (hb : Below w.heap.size w w2) (hN : N < w2.heap.size) (hc : w2.cell? ⟨N, 0, none⟩ = some (.slice (some ⟨b, 0, none⟩) (bs L).size c1)) (hs : Sl w2 (some ⟨b, 0, none⟩) (bs L).size c1 (bytesV (bs L))) =>
    e ▸ SlfI.containsFunc w2 a n c (ints cl) 163 #[] #[.pointer (some ⟨N, 0, none⟩)] (cl.map (litV L)) (hsl.next hb) hcl eg_h1 (int_gives fun W hW y hy => holds1_any W N b _ c1 L ((hW.cell (p := ⟨N, 0, none⟩) hN).trans hc) (by rw [← bytes_cbs]; exact hs.next hW) y (h64 y hy).1 (h64 y hy).2))
  clear hsl hcl h64 hL e
  generalize cl.any (litV L) = q at *
  generalize bs L = s at *
  have hmf : ∀ (fn : Fn) (first cap : Array Value) (w : World), (Instr.makeFunc fn first cap).run Tryz.prog w = .ok (.func fn first cap) w := fun _ _ _ _ => rfl
  go_enter Tryz.func144, Tryz.ntmps144
  go_wp2_with ((with_reducible refine wpL_bytes (s := s) ?_ ?_ Tryz.underlying9 Tryz.underlying133 Tryz.underlying5 ?_); rfl; omega; intro b c1 w1 hsb hb1 hbb)
  obtain ⟨W2, hW2⟩ : ∃ U, w1.alloc (.cells #[.slice (some ⟨b, 0, none⟩) s.size c1] 133) = U := ⟨_, rfl⟩
  have hb2 : Below w1.heap.size w1 W2 := by rw [← hW2]; exact (Below.refl _ _).alloc (Nat.le_refl _) _
  have hb12 := hb1.trans (hb2.mono hb1.size)
  have HC2 := Lib.hid (HCF.out w1.heap.size b c1 W2 hb12 (by rw [← hW2]; simp) (by rw [← hW2]; simp [go_sem]) (hsb.next hb2))
  have HB2 := Lib.hid hb12
  rw [hW2]
  clear hb1 hbb hsb hb2 hb12 hW2
  with_reducible refine HC2.out.mono ?_
  rintro e w3 ⟨rfl, hb3⟩
  have HB3 := Lib.hid (HB2.out.trans (hb3.mono HB2.out.size))
  clear hb3
  go_wp2_with fail
  go_ret
  exact ⟨rfl, HB3.out⟩

theorem broken_any (w : World) (L : List Bool) (hL : L.length ≤ 1000000) (a : Option Addr) (n c : Nat) (cl : List Int) (hsl : Sl w a n c (ints cl)) (h64 : ∀ y ∈ cl, -9223372036854775808 ≤ y ∧ y ≤ 9223372036854775807) :
    Calls Tryz.prog 124 #[.string (bs L), .slice a n c] w fun e w' => e = .returned (.bool (!cl.any (litV L))) ∧ Below w.heap.size w w' := by
  have H := Lib.hid (holds_any w L hL a n c cl hsl h64)
  clear hsl h64 hL
  generalize bs L = s at *
  generalize cl.any (litV L) = q at *
  go_enter Tryz.func124, Tryz.ntmps124
  go_wp2_with fail
  with_reducible refine H.out.mono ?_
  rintro e w2 ⟨rfl, hb⟩
  have HB := Lib.hid hb
  clear hb
  go_wp2_with fail
  go_ret
  exact ⟨rfl, HB.out⟩

set_option maxRecDepth 4000 in
set_option maxHeartbeats 4000000 in
theorem allowed_any (w : World) (x : Circ) (p : At) (hin : InCirc w x p) (L : List Bool) (hL : L.length ≤ 1000000) (hv64 : ∀ y ∈ x.invs, -9223372036854775808 ≤ y ∧ y ≤ 9223372036854775807) (aA : Option Addr) (n cA : Nat) (vs : List Value) (A : List (List Int)) (hA : Sl2 w aA n cA vs A) (hA64 : ∀ y ∈ A.flatten, -9223372036854775808 ≤ y ∧ y ≤ 9223372036854775807) :
    Calls Tryz.prog 99 #[.agg (cells x p), .slice aA n cA, .string (bs L)] w fun e w' => e = .returned (.bool (allow x A L)) ∧ Below w.heap.size w w' := by
  obtain ⟨W1, hW1⟩ : ∃ U, w.alloc (.cells (cells x p) 27) = U := ⟨_, rfl⟩
  obtain ⟨hb1, hx1⟩ := cbox_new w x p W1 hW1
  have e1 : ((x.invs.map fun y => !litV L y).any id) = !x.invs.all (litV L) := by rw [List.any_map]; simp [List.all_eq_not_any_not, Function.comp_def]
  have e2 : ((A.map fun c : List Int => !c.any (litV L)).any id) = !(A.all fun c : List Int => c.any (litV L)) := by rw [List.any_map]; simp [List.all_eq_not_any_not, Function.comp_def]
  have hc1 := SlfI.containsFunc W1 p.a5 x.invs.length p.c5 (ints x.invs) 123 #[.string (bs L)] #[] (x.invs.map fun y => !litV L y) (hin.next hb1).invs (by rw [List.length_map]) eg_not (int_gives fun W hW y hy => isNot_any W L y (hv64 y hy).1 (hv64 y hy).2 hL)
  rw [e1] at hc1
  have HC1 := Lib.hid hc1
  have hal : A.length = n := hA.len
  have HC2 := Lib.hid (fun (W : World) (hW : Below W1.heap.size W1 W) => e2 ▸ SlfR.containsFunc W aA n cA vs 124 #[.string (bs L)] #[] (A.map fun c : List Int => !c.any (litV L)) ((hA.next hb1).next hW).sl (by rw [List.length_map]; exact hal) eg_br (by
    intro V hV k v b hv hb
    rw [List.getElem?_map, Option.map_eq_some_iff] at hb
    obtain ⟨y, hy, rfl⟩ := hb
    obtain ⟨hk, rfl⟩ := List.getElem?_eq_some_iff.1 hy
    obtain ⟨b', o', a2, c2, hx2, _, _, _, hs0, hvv⟩ := (((hA.next hb1).next hW).next hV).at (k := k) (by omega)
    rw [hvv] at hv
    cases hv
    exact broken_any V L hL a2 _ c2 _ hs0 (fun y hy => hA64 y (List.mem_flatten.2 ⟨_, List.getElem_mem hk, hy⟩))))
  have HOK : Hid (allow x A L = (x.invs.all (litV L) && A.all fun c => c.any (litV L))) := rfl
  have k5 := hx1.k5
  have HB1 := Lib.hid hb1
  have hcv := hin.invs.cap
  have hgv := hin.invs.big
  obtain ⟨a1, b1, a2, b2, a3, b3, a4, b4, a5, b5, a6, b6, a7, b7⟩ := p
  simp only [cells] at *
  generalize allow x A L = q at *
  generalize x.invs.all (litV L) = q1 at *
  generalize (A.all fun c : List Int => c.any (litV L)) = q2 at *
  generalize bs L = s at *
  clear hin hb1 hx1 hA hA64 hv64 hL e1 e2 hc1 hal
  have hmf : ∀ (fn : Fn) (first cap : Array Value) (w : World), (Instr.makeFunc fn first cap).run Tryz.prog w = .ok (.func fn first cap) w := fun _ _ _ _ => rfl
  go_enter Tryz.func99, Tryz.ntmps99
  go_wp2_with fail
  with_reducible refine HC1.out.mono ?_
  rintro e w2 ⟨rfl, hb2⟩
  have HB2 := Lib.hid hb2
  clear hb2 hW1 k5
  cases q1
  · go_wp2_with fail
    go_ret
    exact ⟨by rw [HOK.out]; rfl, HB1.out.trans (HB2.out.mono HB1.out.size)⟩
  · go_wp2_with fail
    with_reducible refine (HC2.out _ HB2.out).mono ?_
    rintro e w3 ⟨rfl, hb3⟩
    have HB3 := Lib.hid (HB2.out.trans (hb3.mono HB2.out.size))
    clear hb3
    go_wp2_with fail
    go_ret
    exact ⟨by rw [HOK.out]; cases q2 <;> rfl, HB1.out.trans (HB3.out.mono HB1.out.size)⟩
end SimV
end Go.Proofs.YtjmmhbmbafjneaaGreatDoor

/-
  enum's walk: values, on, firsts.
-/
namespace Go.Proofs.YtjmmhbmbafjneaaGreatDoor
open Go.RowKit Base Go.Maps
set_option linter.unusedVariables false
set_option linter.unusedSimpArgs false
namespace EnumW
open Circuit BadP StrashP SimV EnumA EnumP GetI MapG Coi

set_option maxRecDepth 8000 in
set_option maxHeartbeats 4000000 in
theorem values_any (w : World) (B1 N b : Nat) (x : Circ) (p : At) (aA : Option Addr) (nA cA : Nat) (O : Ord) (aO : Option Addr) (cO : Nat) (h : WIs B1 N b x p aA nA cA O aO cO w) (hin : InCirc w x p) (hw : WfC x) (hok : CheckOk x)
    (vs : List Value) (A : List (List Int)) (hA : Sl2 w aA nA cA vs A) (hA64 : ∀ y ∈ A.flatten, -9223372036854775808 ≤ y ∧ y ≤ 9223372036854775807) (st inp : List Bool) (hst : st.length = x.lats.length) (hinp : inp.length = x.ins.length) :
    Calls Tryz.prog 79 #[.pointer (some ⟨N, 0, none⟩), .string (bs st), .string (bs inp)] w fun e w2 => e = .returned (.tuple #[.string (bs (vals x st inp)), .bool (allow x A (vals x st inp))]) ∧ Below w.heap.size w w2 := by
  have HBX := Lib.hid h.box
  have HVV := Lib.hid (SimV.values_any w x p hin hw hok st inp hst hinp)
  have hvl : (vals x st inp).length ≤ 1000000 := by rw [vals_len]; have := hok.1.2.1; omega
  have hv64 : ∀ y ∈ x.invs, -9223372036854775808 ≤ y ∧ y ≤ 9223372036854775807 := fun y hy => by have := (lits_in hok hw).2.1 y hy; omega
  have HAL := Lib.hid (fun (U : World) (hU : Below w.heap.size w U) => SimV.allowed_any U x p (hin.next hU) (vals x st inp) hvl hv64 aA nA cA vs A (hA.next hU) hA64)
  have c0 := h.box.at' 0 _ rfl
  have c1 := h.box.at' 1 _ rfl
  have c2 := h.box.at' 2 _ rfl
  have c3 := h.box.at' 3 _ rfl
  have c4 := h.box.at' 4 _ rfl
  have c5 := h.box.at' 5 _ rfl
  have c6 := h.box.at' 6 _ rfl
  have c7 := h.box.at' 7 _ rfl
  obtain ⟨a1, b1, a2, b2, a3, b3, a4, b4, a5, b5, a6, b6, a7, b7⟩ := p
  simp only [cells] at *
  generalize allow x A (vals x st inp) = q at *
  generalize bs (vals x st inp) = sV at *
  generalize bs st = ss at *
  generalize bs inp = si at *
  clear h hin hw hok hA hA64 hst hinp hvl hv64
  go_enter Tryz.func79, Tryz.ntmps79
  go_wp2_with fail
  with_reducible refine HVV.out.mono ?_
  rintro e w2 ⟨rfl, hb2⟩
  have HB2 := Lib.hid hb2
  have hbx := HBX.out.next hb2 HBX.out.lt
  clear c0 c1 c2 c3 c4 c5 c6 c7
  have c0 := hbx.at' 0 _ rfl
  have c1 := hbx.at' 1 _ rfl
  have c2 := hbx.at' 2 _ rfl
  have c3 := hbx.at' 3 _ rfl
  have c4 := hbx.at' 4 _ rfl
  have c5 := hbx.at' 5 _ rfl
  have c6 := hbx.at' 6 _ rfl
  have c7 := hbx.at' 7 _ rfl
  have c8 := hbx.at' 8 _ rfl
  clear hb2 hbx HVV HBX
  simp only at c0 c1 c2 c3 c4 c5 c6 c7 c8
  go_wp2_with fail
  go_region_with (go_at_call 99; (have hbv : Below w.heap.size w w2.drew := HB2.out.drew); (with_reducible refine (HAL.out _ hbv).mono ?_); rintro e w3 ⟨rfl, hb3⟩)
  all_goals
    have HB3 := Lib.hid (hbv.trans (hb3.mono hbv.size))
    clear hb3 hbv
    go_wp2_with fail
    refine bodyPost_ret (v := .tuple #[.string sV, .bool q]) (by simp [results, Tryz.results79, go_sem]) rfl ⟨rfl, HB3.out⟩

/-- Numbers of steps are less than there are states. -/
def Sm (O : Ord) : Prop := ∀ e ∈ O, e.2 < O.length
theorem sm_reach {O : Ord} (h : Sm O) {n : Nat} (hn : n < O.length) (s : List Bool) : Sm (reach O s (n + 1)) := by
  unfold reach
  split
  · exact h
  · intro e he
    rw [List.length_append]
    rcases List.mem_append.1 he with g | g
    · have := h e g; simp; omega
    · rw [List.mem_singleton] at g; subst g; simp; omega
theorem sm_first {x : Circ} {k : Nat} {O : Ord} (h : Fst x k O) : Sm O := fun e he => by
  rw [(h.zero e he).1]
  exact List.length_pos_of_mem he

section
variable {B1 N b : Nat} {x : Circ} {p : At} {aA : Option Addr} {nA cA : Nat} {O O2 O3 : Ord} {aO aO2 aO3 : Option Addr} {cO cO2 cO3 : Nat} {w w2 w3 w4 : World}
theorem ReachOut.start (h : WIs B1 N b x p aA nA cA O aO cO w) : ReachOut B1 N b x p aA nA cA O aO cO w O aO cO w := ⟨h, Off3.refl, fun k hk => .inl hk⟩
theorem ReachOut.next (h : ReachOut B1 N b x p aA nA cA O aO cO w O2 aO2 cO2 w2) (hb : Below w2.heap.size w2 w3) : ReachOut B1 N b x p aA nA cA O aO cO w O2 aO2 cO2 w3 :=
  ⟨h.is.next hb, h.off.trans (v2 := .slice aO2 O2.length cO2) (Off3.of_below hb) h.blk, h.blk⟩
theorem ReachOut.trans (h : ReachOut B1 N b x p aA nA cA O aO cO w O2 aO2 cO2 w2) (h2 : ReachOut B1 N b x p aA nA cA O2 aO2 cO2 w2 O3 aO3 cO3 w3) : ReachOut B1 N b x p aA nA cA O aO cO w O3 aO3 cO3 w3 :=
  ⟨h2.is, h.off.trans h2.off h.blk, fun k hk => by
    rcases h2.blk k hk with g | g
    · exact h.blk k g
    · have := h.off.size; right; omega⟩
theorem ReachOut.base (h : ReachOut B1 N b x p aA nA cA O aO cO w O2 aO2 cO2 w2) (h0 : WIs B1 N b x p aA nA cA O aO cO w) {B : Nat} {w0 : World} (hb : Below B w0 w) (hN : B ≤ N) (hbb : B ≤ b) : Below B w0 w2 :=
  h.off.base hb (by have := h0.lN; have := h0.le; omega) hN hbb (fun k hk => by have := (h0.own.lt k hk).1; have := h0.lN; omega)
/-- A list of one's own beside a walk. -/
structure Beside (B1 N b H : Nat) (O : Ord) (aO : Option Addr) (cO : Nat) (aI : Option Addr) (K cI : Nat) (L : List (List Bool)) (w : World) : Prop where
  own : w.ownsRow H 9 1 (.slice aI K cI) K (txt L)
  lN : N < H
  lb : b < H
  apart : ∀ q, (Value.slice aI K cI).ownBlock = some q → (Value.slice aO O.length cO).ownBlock ≠ some q
theorem Beside.next {H K cI : Nat} {aI : Option Addr} {L : List (List Bool)} (h : Beside B1 N b H O aO cO aI K cI L w) (hb : Below w.heap.size w w2) : Beside B1 N b H O aO cO aI K cI L w2 := ⟨own_next h.own hb, h.lN, h.lb, h.apart⟩
theorem Beside.reach {H K cI : Nat} {aI : Option Addr} {L : List (List Bool)} (h : Beside B1 N b H O aO cO aI K cI L w) (hr : ReachOut B1 N b x p aA nA cA O aO cO w O2 aO2 cO2 w2) : Beside B1 N b H O2 aO2 cO2 aI K cI L w2 :=
  ⟨hr.off.own h.own (own_not' h.own h.lN) (own_not' h.own h.lb) h.apart, h.lN, h.lb, fun q hq hq2 => by
    rcases hr.blk q hq2 with g | g
    · exact h.apart q hq g
    · have := (h.own.lt q hq).2; omega⟩
end

set_option maxRecDepth 8000 in
set_option maxHeartbeats 8000000 in
theorem firsts_any (w00 w : World) (h0 : Below w00.heap.size w00 w) (B1 N b : Nat) (hN : w00.heap.size ≤ N) (hb : w00.heap.size ≤ b) (x : Circ) (p : At) (hin : InCirc w00 x p) (hw : WfC x) (hok : CheckOk x) (hl : x.lats.length ≤ 10) (aA : Option Addr) (nA cA : Nat) (aO : Option Addr) (cO : Nat) (h : WIs B1 N b x p aA nA cA [] aO cO w) :
    Calls Tryz.prog 49 #[.pointer (some ⟨N, 0, none⟩)] w fun e w2 => e = .returned (.tuple #[]) ∧ ∃ O2 aO2 cO2, Fst x (2 ^ x.lats.length) O2 ∧ ReachOut B1 N b x p aA nA cA [] aO cO w O2 aO2 cO2 w2 := by
  obtain ⟨K, hK⟩ : ∃ m, 2 ^ x.lats.length = m := ⟨_, rfl⟩
  have hK1 : K ≤ 1024 := by rw [← hK]; exact Nat.pow_le_pow_right (by decide) hl
  have HAL := all_any w x.lats.length hl
  rw [hK] at HAL ⊢
  have HAL := Lib.hid HAL
  have HKL : Hid ((allL x.lats.length).length = K) := by show _ = _; rw [allL_len, hK]
  have HW := Lib.hid h
  have HINI := Lib.hid (fun (U : World) (hU : Below w00.heap.size w00 U) (s : List Bool) (hs : s.length = x.lats.length) => initial_any U x p (hin.next hU) hw hok s hs)
  have HBS := Lib.hid (fun (O2 : Ord) (aO2 : Option Addr) (cO2 : Nat) (U : World) (hr : ReachOut B1 N b x p aA nA cA [] aO cO w O2 aO2 cO2 U) => hr.base h h0 hN hb)
  have HLL : Hid (x.lats.length ≤ 1000) := by show _ ≤ _; omega
  have c2 := h.box.at' 2 _ rfl
  have hcL := hin.lats.cap
  have hgL := hin.lats.big
  obtain ⟨a1, b1, a2, b2, a3, b3, a4, b4, a5, b5, a6, b6, a7, b7⟩ := p
  simp only [cells] at *
  clear h h0 hN hb hin hw hok hl hK
  go_enter Tryz.func49, Tryz.ntmps49
  go_wp2_with fail
  with_reducible refine HAL.out.mono ?_
  rintro e w2 ⟨aI, cI, rfl, hoI, hb2⟩
  have HR2 := Lib.hid ((ReachOut.start HW.out).next hb2)
  have HI2 : Hid (Beside B1 N b w.heap.size [] aO cO aI K cI (allL x.lats.length) w2) := ⟨hoI, Nat.lt_of_lt_of_le HW.out.lN HW.out.le, Nat.lt_of_lt_of_le HW.out.lb HW.out.le, fun q hq hq2 => by
    have := (hoI.lt q hq).1
    have := (HW.out.own.lt q hq2).2
    omega⟩
  have hcI := (own_sl' hoI).cap
  have hgI := (own_sl' hoI).big
  clear hoI hb2 c2 HAL
  go_wp2_with fail
  go_loopw [12] (fun i wr => ∃ (k : Nat) (O2 : Ord) (aO2 : Option Addr) (cO2 : Nat), k ≤ K ∧ i = .int .i64 k ∧ Hid (Fst x k O2) ∧ Hid (ReachOut B1 N b x ⟨a1, b1, a2, b2, a3, b3, a4, b4, a5, b5, a6, b6, a7, b7⟩ aA nA cA [] aO cO w O2 aO2 cO2 wr) ∧ Hid (Beside B1 N b w.heap.size O2 aO2 cO2 aI K cI (allL x.lats.length) wr)) (fun i _ => K - (intOf i).toNat)
  case atStart => exact ⟨0, [], aO, cO, Nat.zero_le _, rfl, fst_start, HR2.out, HI2.out⟩
  case round =>
    obtain ⟨k, O2, aO2, cO2, hk, rfl, hF, hR, hI⟩ := hrel
    generalize wr = ws at *
    by_cases hlt : k < K
    · obtain ⟨bi, oi, hx, hae, hbs, d0⟩ := txt_at (own_sl' hI.out.own) hlt
      try simp only at hae
      subst hae
      have hat : (allL x.lats.length)[k]? = some (allL x.lats.length)[k] := List.getElem?_eq_getElem hx
      have hsl := at_len _ _ _ hat
      have HAT := Lib.hid hat
      generalize (allL x.lats.length)[k] = s at *
      have c0 := hR.out.is.box.at' 0 _ rfl
      have c1 := hR.out.is.box.at' 1 _ rfl
      have c2 := hR.out.is.box.at' 2 _ rfl
      have c3 := hR.out.is.box.at' 3 _ rfl
      have c4 := hR.out.is.box.at' 4 _ rfl
      have c5 := hR.out.is.box.at' 5 _ rfl
      have c6 := hR.out.is.box.at' 6 _ rfl
      have c7 := hR.out.is.box.at' 7 _ rfl
      simp only at c0 c1 c2 c3 c4 c5 c6 c7
      have HIN := Lib.hid (HINI.out ws (HBS.out _ _ _ ws hR.out) s hsl)
      have HSL := Lib.hid hsl
      have HOL : Hid (O2.length ≤ 100000) := by
        have h1 := fst_end (A := []) hF.out
        show _ ≤ _
        have := known_len (A := []) hF.out.nodup (fun e he => by rw [(hF.out.zero e he).1]; exact (hF.out.zero e he).2)
        have h3 := HLL.out
        have h4 := HKL.out
        rw [allL_len] at h4
        omega
      clear hat hsl
      obtain ⟨ss, hss⟩ : ∃ t, bs s = t := ⟨_, rfl⟩
      have HSS := Lib.hid hss
      rw [hss] at d0 HIN
      clear hss
      go_wp2_with fail
      with_reducible refine HIN.out.mono ?_
      rintro e w3 ⟨rfl, hb3⟩
      have HR3 := Lib.hid (hR.out.next hb3)
      have HI3 := Lib.hid (hI.out.next hb3)
      clear hb3 hR hI c0 c1 c2 c3 c4 c5 c6 c7 HIN
      by_cases hq : initL x s
      · rw [tt_pos hq]
        have HRE := reach_any w3 B1 N b x _ aA nA cA O2 aO2 cO2 HR3.out.is hF.out.nodup HOL.out s (by rw [HSL.out]; exact HLL.out) 0 (by omega)
        rw [HSS.out, show ((0 : Nat) : Int) = 0 from rfl] at HRE
        have HRE := Lib.hid HRE
        have HF2 := Lib.hid (fst_more hF.out HAT.out hq)
        clear hq
        go_wp2_with fail
        with_reducible refine HRE.out.mono ?_
        rintro e w4 ⟨rfl, aO3, cO3, hr4⟩
        have HR4 := Lib.hid (HR3.out.trans hr4)
        have HI4 := Lib.hid (HI3.out.reach hr4)
        clear hr4
        go_wp2_with fail
        go_roundw
        case rel => exact ⟨k + 1, _, aO3, cO3, by omega, by go_num, HF2.out, HR4.out, HI4.out⟩
        case measure => simp [intOf]; omega
      · rw [tt_neg hq]
        have HF2 := Lib.hid (fst_skip hF.out HAT.out hq)
        clear hq
        go_wp2_with fail
        go_roundw
        case rel => exact ⟨k + 1, O2, aO2, cO2, by omega, by go_num, HF2.out, HR3.out, HI3.out⟩
        case measure => simp [intOf]; omega
    · have hend : k = K := by omega
      subst hend
      clear hI
      go_wp2_with fail
      refine bodyPost_end (v := .tuple #[]) (by simp [results, Tryz.results49, go_sem]) rfl ?_
      exact ⟨rfl, O2, aO2, cO2, hF.out, hR.out⟩
end EnumW
end Go.Proofs.YtjmmhbmbafjneaaGreatDoor

/-
  enum's walk: on; walked.
-/
namespace Go.Proofs.YtjmmhbmbafjneaaGreatDoor
open Go.RowKit Base Go.Maps
set_option linter.unusedVariables false
set_option linter.unusedSimpArgs false
namespace EnumW
open Circuit BadP StrashP SimV EnumA EnumP GetI MapG Coi

set_option maxRecDepth 8000 in
set_option maxHeartbeats 16000000 in
theorem on_any (w00 w : World) (h0 : Below w00.heap.size w00 w) (B1 N b : Nat) (hN : w00.heap.size ≤ N) (hb : w00.heap.size ≤ b) (x : Circ) (p : At) (hin : InCirc w00 x p) (hw : WfC x) (hok : CheckOk x) (hl : x.lats.length ≤ 10) (hi10 : x.ins.length ≤ 10) (aA : Option Addr) (nA cA : Nat)
    (vs : List Value) (A : List (List Int)) (hA : Sl2 w00 aA nA cA vs A) (hA64 : ∀ y ∈ A.flatten, -9223372036854775808 ≤ y ∧ y ≤ 9223372036854775807) (O : Ord) (aO : Option Addr) (cO : Nat) (h : WIs B1 N b x p aA nA cA O aO cO w)
    (i : Nat) (s : List Bool) (n : Nat) (hat : O[i]? = some (s, n)) (hB : Bfs x A i 0 O) (hsm : Sm O) :
    Calls Tryz.prog 50 #[.pointer (some ⟨N, 0, none⟩), .string (bs s)] w fun e w2 => e = .returned (.tuple #[]) ∧ ∃ O2 aO2 cO2, Bfs x A (i + 1) 0 O2 ∧ Sm O2 ∧ O.length ≤ O2.length ∧ ReachOut B1 N b x p aA nA cA O aO cO w O2 aO2 cO2 w2 := by
  obtain ⟨K, hK⟩ : ∃ m, 2 ^ x.ins.length = m := ⟨_, rfl⟩
  have hK1 : K ≤ 1024 := by rw [← hK]; exact Nat.pow_le_pow_right (by decide) hi10
  have HAL := all_any w x.ins.length hi10
  rw [hK] at HAL
  have HAL := Lib.hid HAL
  have HKL : Hid ((allL x.ins.length).length = K) := by show _ = _; rw [allL_len, hK]
  have HKE := Lib.hid hK
  have HW := Lib.hid h
  have hsl : s.length = x.lats.length := R_len (hB.sound _ (List.mem_of_getElem? hat))
  have HVAL := Lib.hid (fun (U : World) (O2 : Ord) (aO2 : Option Addr) (cO2 : Nat) (hU : Below w00.heap.size w00 U) (hw2 : WIs B1 N b x p aA nA cA O2 aO2 cO2 U) (inp : List Bool) (hinp : inp.length = x.ins.length) => values_any U B1 N b x p aA nA cA O2 aO2 cO2 hw2 (hin.next hU) hw hok vs A (hA.next hU) hA64 s inp hsl hinp)
  have HNEX := Lib.hid (fun (U : World) (hU : Below w00.heap.size w00 U) (inp : List Bool) (hinp : inp.length = x.ins.length) => SimV.next_any U x p (hin.next hU) hw hok s inp hsl hinp)
  have HBS := Lib.hid (fun (O2 : Ord) (aO2 : Option Addr) (cO2 : Nat) (U : World) (hr : ReachOut B1 N b x p aA nA cA O aO cO w O2 aO2 cO2 U) => hr.base h h0 hN hb)
  have HOB : Hid (∀ (k : Nat) (O2 : Ord), Bfs x A i k O2 → O2.length ≤ 1024) := fun k O2 hq => by
    have h1 := known_len hq.nodup hq.sound
    have h2 : 2 ^ x.lats.length ≤ 2 ^ 10 := Nat.pow_le_pow_right (by decide) hl
    omega
  have HSL : Hid (s.length = x.lats.length) := hsl
  have HL1 : Hid (x.lats.length ≤ 1000) := by show _ ≤ _; omega
  have HB := Lib.hid hB
  have HSM := Lib.hid hsm
  have HAT := Lib.hid hat
  have c1 := h.box.at' 1 _ rfl
  have hcI := hin.ins.cap
  have hgI := hin.ins.big
  obtain ⟨a1, b1, a2, b2, a3, b3, a4, b4, a5, b5, a6, b6, a7, b7⟩ := p
  simp only [cells] at *
  obtain ⟨ss, hss⟩ : ∃ t, bs s = t := ⟨_, rfl⟩
  have HSS := Lib.hid hss
  rw [hss] at HVAL HNEX ⊢
  clear h h0 hN hb hin hw hok hl hi10 hK hA hA64 hsl hB hsm hat hss
  go_enter Tryz.func50, Tryz.ntmps50
  go_wp2_with fail
  with_reducible refine HAL.out.mono ?_
  rintro e w2 ⟨aI, cI, rfl, hoI, hb2⟩
  have HR2 := Lib.hid ((ReachOut.start HW.out).next hb2)
  have HI2 : Hid (Beside B1 N b w.heap.size O aO cO aI K cI (allL x.ins.length) w2) := ⟨hoI, Nat.lt_of_lt_of_le HW.out.lN HW.out.le, Nat.lt_of_lt_of_le HW.out.lb HW.out.le, fun q hq hq2 => by
    have := (hoI.lt q hq).1
    have := (HW.out.own.lt q hq2).2
    omega⟩
  have hcK := (own_sl' hoI).cap
  have hgK := (own_sl' hoI).big
  clear hoI hb2 c1 HAL
  go_wp2_with fail
  go_loopw [18] (fun j wr => ∃ (k : Nat) (O2 : Ord) (aO2 : Option Addr) (cO2 : Nat), k ≤ K ∧ j = .int .i64 k ∧ Hid (Bfs x A i k O2) ∧ Hid (Sm O2) ∧ Hid (O2[i]? = some (s, n)) ∧ Hid (O.length ≤ O2.length) ∧ Hid (ReachOut B1 N b x ⟨a1, b1, a2, b2, a3, b3, a4, b4, a5, b5, a6, b6, a7, b7⟩ aA nA cA O aO cO w O2 aO2 cO2 wr) ∧ Hid (Beside B1 N b w.heap.size O2 aO2 cO2 aI K cI (allL x.ins.length) wr)) (fun j _ => K - (intOf j).toNat)
  case atStart => exact ⟨0, O, aO, cO, Nat.zero_le _, rfl, HB.out, HSM.out, HAT.out, Nat.le_refl _, HR2.out, HI2.out⟩
  case round =>
    obtain ⟨k, O2, aO2, cO2, hk, rfl, hF, hS, hO, hLe, hR, hI⟩ := hrel
    generalize wr = ws at *
    by_cases hlt : k < K
    · obtain ⟨bi, oi, hx, hae, hbs, d0⟩ := txt_at (own_sl' hI.out.own) hlt
      try simp only at hae
      subst hae
      have hki : (allL x.ins.length)[k]? = some (allL x.ins.length)[k] := List.getElem?_eq_getElem hx
      have hil := at_len _ _ _ hki
      have HKI := Lib.hid hki
      generalize (allL x.ins.length)[k] = inp at *
      have hb00 := HBS.out _ _ _ ws hR.out
      have HVA := Lib.hid (HVAL.out ws O2 aO2 cO2 hb00 hR.out.is inp hil)
      have HNX := Lib.hid (fun (U : World) (hU : Below ws.heap.size ws U) => HNEX.out U (hb00.trans (hU.mono hb00.size)) inp hil)
      obtain ⟨hiO, hOi⟩ := List.getElem?_eq_some_iff.1 hO.out
      have HIO := Lib.hid hiO
      have HOI : Hid (∀ h : i < O2.length, O2[i]'h = (s, n)) := fun _ => hOi
      have hO2 := HOB.out k O2 hF.out
      have hmem : (s, n) ∈ O2 := List.mem_of_getElem? hO.out
      have hn := hS.out _ hmem
      have hgt := (tbl_get hF.out.nodup s).1 n hmem
      have HN1 : Hid (n < O2.length) := hn
      have HGT := Lib.hid hgt
      have HO2 := Lib.hid hO2
      clear hki hil hb00 hiO hOi hmem hn hgt hO2
      obtain ⟨si, hsi⟩ : ∃ t, bs inp = t := ⟨_, rfl⟩
      rw [hsi] at d0 HVA HNX
      clear hsi
      go_wp2_with fail
      with_reducible refine HVA.out.mono ?_
      rintro e w3 ⟨rfl, hb3⟩
      have HR3 := Lib.hid (hR.out.next hb3)
      have HI3 := Lib.hid (hI.out.next hb3)
      have HNX3 := Lib.hid (HNX.out w3 hb3)
      clear hb3 hR hI d0 HVA HNX
      cases hq : allow x A (vals x s inp) with
      | false =>
        have HF2 := Lib.hid (bfs_skip hF.out HIO.out HKI.out (by rw [HOI.out HIO.out]; exact hq))
        clear hq
        go_wp2_with fail
        go_roundw
        case rel => exact ⟨k + 1, O2, aO2, cO2, by omega, by go_num, HF2.out, hS.out, hO.out, hLe.out, HR3.out, HI3.out⟩
        case measure => simp [intOf]; omega
      | true =>
        have hF2 := bfs_more hF.out HIO.out HKI.out (by rw [HOI.out HIO.out]; exact hq)
        rw [HOI.out HIO.out] at hF2
        have HF2 := Lib.hid hF2
        have c0 := HR3.out.is.box.at' 0 _ rfl
        have c1 := HR3.out.is.box.at' 1 _ rfl
        have c2 := HR3.out.is.box.at' 2 _ rfl
        have c3 := HR3.out.is.box.at' 3 _ rfl
        have c4 := HR3.out.is.box.at' 4 _ rfl
        have c5 := HR3.out.is.box.at' 5 _ rfl
        have c6 := HR3.out.is.box.at' 6 _ rfl
        have c7 := HR3.out.is.box.at' 7 _ rfl
        simp only at c0 c1 c2 c3 c4 c5 c6 c7
        clear hq hF2
        go_wp2_with fail
        with_reducible refine HNX3.out.mono ?_
        rintro e w4 ⟨rfl, hb4⟩
        have HR4 := Lib.hid (HR3.out.next hb4)
        have HI4 := Lib.hid (HI3.out.next hb4)
        clear hb4 c0 c1 c2 c3 c4 c5 c6 c7
        have c9 := HR4.out.is.box.at' 9 _ rfl
        try simp only at c9
        have hlk := HR4.out.is.map.look1 (T := 67) kindS Tryz.underlying67 Tryz.underlying3 (zeroI w4) (x := s) (by show _ ≤ _; rw [HSL.out]; exact HL1.out)
        rw [HGT.out] at hlk
        have e9 : kv s = .string ss := by rw [← HSS.out]; rfl
        rw [e9] at hlk
        have hlk2 : (Instr.lookup 67 (.map (some b)) (.string ss) false).run Tryz.prog w4 = .ok (.int .i64 (n : Int)) w4 := hlk
        clear hlk
        obtain ⟨nx, hnx⟩ : ∃ t, next x s inp = t := ⟨_, rfl⟩
        rw [hnx] at HF2 ⊢
        have hnl : nx.length = x.lats.length := by rw [← hnx]; exact next_len x s inp
        have hRE := reach_any w4 B1 N b x _ aA nA cA O2 aO2 cO2 HR4.out.is hF.out.nodup (by have := HO2.out; omega) nx (by rw [hnl]; exact HL1.out) (n + 1) (by have := HN1.out; have := HO2.out; omega)
        have hn63 : n ≤ 100000 := by have := HN1.out; have := HO2.out; omega
        obtain ⟨sx, hsx⟩ : ∃ t, bs nx = t := ⟨_, rfl⟩
        rw [hsx] at hRE ⊢
        have ecast : ((n + 1 : Nat) : Int) = (n : Int) + 1 := by omega
        rw [ecast] at hRE
        have HRE := Lib.hid hRE
        clear hRE hnx hnl hsx e9 ecast
        go_wp2_with fail
        with_reducible refine HRE.out.mono ?_
        rintro e w5 ⟨rfl, aO3, cO3, hr5⟩
        have HR5 := Lib.hid (HR4.out.trans hr5)
        have HI5 := Lib.hid (HI4.out.reach hr5)
        have HS5 := Lib.hid (sm_reach hS.out HN1.out nx)
        have HO5 : Hid ((reach O2 nx (n + 1))[i]? = some (s, n)) := by
          show _ = _
          rw [List.getElem?_eq_getElem (Nat.lt_of_lt_of_le HIO.out (reach_len nx (n + 1))), reach_at nx (n + 1) HIO.out, HOI.out HIO.out]
        have HL5 : Hid (O.length ≤ (reach O2 nx (n + 1)).length) := Nat.le_trans hLe.out (reach_len _ _)
        clear hr5 hlk2 c9
        go_wp2_with fail
        go_roundw
        case rel => exact ⟨k + 1, _, aO3, cO3, by omega, by go_num, HF2.out, HS5.out, HO5.out, HL5.out, HR5.out, HI5.out⟩
        case measure => simp [intOf]; omega
    · have hend : k = K := by omega
      subst hend
      have HE := Lib.hid (bfs_row hF.out (List.getElem?_eq_some_iff.1 hO.out).1 (Nat.le_of_eq HKE.out))
      clear hI
      go_wp2_with fail
      refine bodyPost_end (v := .tuple #[]) (by simp [results, Tryz.results50, go_sem]) rfl ?_
      exact ⟨rfl, O2, aO2, cO2, HE.out, hS.out, hLe.out, hR.out⟩

set_option maxRecDepth 8000 in
set_option maxHeartbeats 16000000 in
theorem walked_any (w : World) (x : Circ) (p : At) (hin : InCirc w x p) (hw : WfC x) (hok : CheckOk x) (hl : x.lats.length ≤ 10) (hi10 : x.ins.length ≤ 10) (aA : Option Addr) (nA cA : Nat)
    (vs : List Value) (A : List (List Int)) (hA : Sl2 w aA nA cA vs A) (hA64 : ∀ y ∈ A.flatten, -9223372036854775808 ≤ y ∧ y ≤ 9223372036854775807) :
    Calls Tryz.prog 26 #[.agg (cells x p), .slice aA nA cA] w fun e w2 => ∃ B1 N b O aO cO, e = .returned (.pointer (some ⟨N, 0, none⟩)) ∧ Known x A O ∧ WIs B1 N b x p aA nA cA O aO cO w2 ∧ O.length ≤ 1024 ∧ Sm O ∧ w.heap.size ≤ N ∧ w.heap.size ≤ b ∧ Below w.heap.size w w2 := by
  obtain ⟨W1, hW1⟩ : ∃ U, w.alloc (.cells (cells x p) 27) = U := ⟨_, rfl⟩
  obtain ⟨hb1, hx1⟩ := cbox_new w x p W1 hW1
  obtain ⟨W2, hW2⟩ : ∃ U, W1.alloc (.map #[] 0) = U := ⟨_, rfl⟩
  have hb2 : Below W1.heap.size W1 W2 := by rw [← hW2]; exact (Below.refl _ _).alloc (Nat.le_refl _) _
  have hs2 : W2.heap.size = W1.heap.size + 1 := by rw [← hW2]; simp
  have hm2 : MapS W2 W1.heap.size 0 (tbl []) := by rw [← hW2]; exact MapG.made _ _ _ _ _ _
  obtain ⟨W3, hW3⟩ : ∃ U, W2.alloc (.cells #[.int .i64 x.max, .slice p.a1 x.ins.length p.c1, .slice p.a2 x.lats.length p.c2, .slice p.a3 x.outs.length p.c3, .slice p.a4 x.bads.length p.c4, .slice p.a5 x.invs.length p.c5, .slice p.a6 x.ands.length p.c6, .slice p.a7 x.names.length p.c7, .slice aA nA cA, .map (some W1.heap.size), .slice none 0 0] 69) = U := ⟨_, rfl⟩
  have hb3 : Below W2.heap.size W2 W3 := by rw [← hW3]; exact (Below.refl _ _).alloc (Nat.le_refl _) _
  have hx3 : BoxN W2.heap.size (wcells x p aA nA cA W1.heap.size none 0 0) W3 := by rw [← hW3]; exact BoxN.new W2 _ _
  have hs3 : W3.heap.size = W2.heap.size + 1 := by rw [← hW3]; simp
  have hb13 : Below W1.heap.size W1 W3 := hb2.trans (hb3.mono hb2.size)
  have hwis : WIs W3.heap.size W2.heap.size W1.heap.size x p aA nA cA [] none 0 W3 := ⟨hx3, hm2.next hb3, World.ownsRow_nil _ _ _ _, by omega, by omega, by omega, Nat.le_refl _⟩
  have HF := Lib.hid (firsts_any W1 W3 hb13 W3.heap.size W2.heap.size W1.heap.size (by omega) (Nat.le_refl _) x p (hin.next hb1) hw hok hl aA nA cA none 0 hwis)
  have HON := Lib.hid (fun (U : World) (hU : Below W1.heap.size W1 U) (O : Ord) (aO : Option Addr) (cO : Nat) (h : WIs W3.heap.size W2.heap.size W1.heap.size x p aA nA cA O aO cO U) (i : Nat) (s : List Bool) (n : Nat) (hat : O[i]? = some (s, n)) (hB : Bfs x A i 0 O) (hsm : Sm O) =>
    on_any W1 U hU W3.heap.size W2.heap.size W1.heap.size (by omega) (Nat.le_refl _) x p (hin.next hb1) hw hok hl hi10 aA nA cA vs A (hA.next hb1) hA64 O aO cO h i s n hat hB hsm)
  have HBS := Lib.hid (fun (O2 : Ord) (aO2 : Option Addr) (cO2 : Nat) (U : World) (hr : ReachOut W3.heap.size W2.heap.size W1.heap.size x p aA nA cA [] none 0 W3 O2 aO2 cO2 U) => hr.base hwis hb13 (by omega) (Nat.le_refl _))
  have HOB : Hid (∀ (i : Nat) (O2 : Ord), Bfs x A i 0 O2 → O2.length ≤ 1024) := fun k O2 hq => by
    have h1 := known_len hq.nodup hq.sound
    have h2 : 2 ^ x.lats.length ≤ 2 ^ 10 := Nat.pow_le_pow_right (by decide) hl
    omega
  have HB1 := Lib.hid hb1
  have HSN : Hid (w.heap.size ≤ W1.heap.size ∧ W1.heap.size ≤ W2.heap.size) := ⟨hb1.size, by omega⟩
  have c0 := hx1.k0
  have c1 := hx1.k1
  have c2 := hx1.k2
  have c3 := hx1.k3
  have c4 := hx1.k4
  have c5 := hx1.k5
  have c6 := hx1.k6
  have c7 := hx1.k7
  have hmm := @run_makeMap Tryz.prog
  obtain ⟨a1, b1, a2, b2, a3, b3, a4, b4, a5, b5, a6, b6, a7, b7⟩ := p
  simp only [cells] at *
  clear hin hb1 hx1 hb2 hs2 hm2 hb3 hx3 hs3 hb13 hwis hw hok hl hi10 hA hA64
  go_enter Tryz.func26, Tryz.ntmps26
  go_wp2_with fail
  clear hW1 hW2 hW3 c0 c1 c2 c3 c4 c5 c6 c7 hmm
  obtain ⟨B1, hB1⟩ : ∃ n, W3.heap.size = n := ⟨_, rfl⟩
  obtain ⟨N, hN⟩ : ∃ n, W2.heap.size = n := ⟨_, rfl⟩
  obtain ⟨b, hb⟩ : ∃ n, W1.heap.size = n := ⟨_, rfl⟩
  rw [hB1, hN, hb] at HF HBS
  rw [hB1, hN, hb] at HON
  rw [hN, hb] at HSN
  rw [hN]
  have HBE := Lib.hid hb
  clear hB1 hN hb
  with_reducible refine HF.out.mono ?_
  rintro e w4 ⟨rfl, O0, aO0, cO0, hf, hr4⟩
  have HB0 : Hid (Bfs x A 0 0 O0) := fst_end hf (Nat.le_refl _)
  have HS0 := Lib.hid (sm_first hf)
  have HR4 := Lib.hid hr4
  clear hf hr4 HF
  go_wp2_with fail
  go_loopw [6] (fun j wr => ∃ (i : Nat) (O : Ord) (aO : Option Addr) (cO : Nat), i ≤ O.length ∧ j = .int .i64 i ∧ Hid (Bfs x A i 0 O) ∧ Hid (Sm O) ∧ Hid (ReachOut B1 N b x ⟨a1, b1, a2, b2, a3, b3, a4, b4, a5, b5, a6, b6, a7, b7⟩ aA nA cA [] none 0 W3 O aO cO wr)) (fun j _ => 1024 - (intOf j).toNat)
  case atStart => exact ⟨0, O0, aO0, cO0, Nat.zero_le _, rfl, HB0.out, HS0.out, HR4.out⟩
  case round =>
    clear HB0 HS0 HR4
    obtain ⟨i, O, aO, cO, hi, rfl, hB, hS, hR⟩ := hrel
    generalize wr = ws at *
    have c10 := hR.out.is.box.at' 10 _ rfl
    have hOL := HOB.out i O hB.out
    have hsl := own_sl' hR.out.is.own
    have hcO := hsl.cap
    have hgO := hsl.big
    by_cases hlt : i < O.length
    · obtain ⟨bi, oi, hx, hae, hbs, d0⟩ := txt_at hsl hlt
      have hat : O[i]? = some (O[i].1, O[i].2) := List.getElem?_eq_getElem hlt
      have ho := HON.out ws (HBS.out O aO cO ws hR.out) O aO cO hR.out.is i O[i].1 O[i].2 hat hB.out hS.out
      simp only [List.getElem_map] at d0
      obtain ⟨ss, hss⟩ : ∃ t, bs O[i].1 = t := ⟨_, rfl⟩
      rw [hss] at d0 ho
      have HO := Lib.hid ho
      have HAE := Lib.hid hae
      obtain ⟨L, hL⟩ : ∃ n, O.length = n := ⟨_, rfl⟩
      rw [hL] at c10 hlt hOL hcO
      rw [hae] at c10
      clear hss ho hat hae hsl hL hi hx
      go_wp2_with fail
      with_reducible refine HO.out.mono ?_
      rintro e w5 ⟨rfl, O2, aO2, cO2, hB2, hS2, hL2, hr5⟩
      have HB2 := Lib.hid hB2
      have HS2 := Lib.hid hS2
      have HR2 := Lib.hid (hR.out.trans hr5)
      have HL2 : Hid (i + 1 ≤ O2.length) := by show _ ≤ _; omega
      clear hB2 hS2 hL2 hr5 c10 d0 hR hB hS HO
      go_wp2_with fail
      go_roundw
      case rel => exact ⟨i + 1, O2, aO2, cO2, HL2.out, by go_num, HB2.out, HS2.out, HR2.out⟩
      case measure => simp [intOf]; omega
    · have HK := Lib.hid (bfs_end hB.out (by omega))
      have HOL := Lib.hid hOL
      have hend : i = O.length := by omega
      clear hsl hi
      rw [hend]
      obtain ⟨L, hL⟩ : ∃ n, O.length = n := ⟨_, rfl⟩
      rw [hL] at c10 hcO hOL ⊢
      clear hlt hend hL
      go_wp2_with fail
      go_ret
      refine ⟨B1, N, b, O, aO, cO, rfl, HK.out, hR.out.is, HOL.out, hS.out, ?_, ?_, ?_⟩
      · exact Nat.le_trans HSN.out.1 HSN.out.2
      · exact HSN.out.1
      · have h1 := HBS.out O aO cO ws hR.out
        have h2 := HSN.out.1
        exact HB1.out.trans (h1.mono h2)
end EnumW
end Go.Proofs.YtjmmhbmbafjneaaGreatDoor

/-
  Plain: states in the order of their texts.
-/
namespace Go.Proofs.YtjmmhbmbafjneaaGreatDoor
open Go.RowKit Base
set_option linter.unusedVariables false
set_option linter.unusedSimpArgs false
namespace EnumP
open Circuit BadP GetI

/-- A state's octets. -/
def oct (s : List Bool) : List UInt8 := s.map byteB
theorem oct_inj {a b : List Bool} (h : oct a = oct b) : a = b := (List.map_inj_right (fun x y e => by cases x <;> cases y <;> first | rfl | exact absurd e (by decide))).1 h
theorem lex_app : ∀ {a b : List UInt8} (u v : List UInt8), a.length = b.length → a < b → a ++ u < b ++ v
  | [], [], u, v, _, h => by cases h
  | [], _ :: _, u, v, hl, _ => by simp at hl
  | _ :: _, [], u, v, hl, _ => by simp at hl
  | x :: a, y :: b, u, v, hl, h => by
    rw [List.cons_append, List.cons_append, List.cons_lt_cons_iff]
    rcases List.cons_lt_cons_iff.1 h with g | ⟨g1, g2⟩
    · exact Or.inl g
    · exact Or.inr ⟨g1, lex_app u v (by simpa using hl) g2⟩
theorem lex_two (a : List UInt8) : a ++ [48] < a ++ [49] := by
  induction a with
  | nil => decide
  | cons x a ih =>
    rw [List.cons_append, List.cons_append, List.cons_lt_cons_iff]
    exact Or.inr ⟨rfl, ih⟩
theorem all_sorted : ∀ n, (allL n).Pairwise (fun a b => oct a < oct b)
  | 0 => by simp [allL]
  | n + 1 => by
    have ih := all_sorted n
    have hl : ∀ s ∈ allL n, s.length = n := fun s hs => by
      obtain ⟨j, hj⟩ := List.getElem?_of_mem hs
      exact at_len n j s hj
    rw [allL]
    generalize allL n = L at *
    induction L with
    | nil => simp
    | cons t r ih2 =>
      rw [List.pairwise_cons] at ih
      have hr := ih2 ih.2 (fun s hs => hl s (List.mem_cons_of_mem _ hs))
      have key : ∀ (c : Bool) (u : List Bool), u ∈ r.flatMap twoL → oct (t ++ [c]) < oct u := fun c u hu => by
        obtain ⟨q, hq, hu2⟩ := List.mem_flatMap.1 hu
        have h1 := ih.1 q hq
        have h2 : (oct t).length = (oct q).length := by
          unfold oct
          rw [List.length_map, List.length_map, hl t List.mem_cons_self, hl q (List.mem_cons_of_mem _ hq)]
        have e : ∀ (z : List Bool) (d : Bool), oct (z ++ [d]) = oct z ++ [byteB d] := fun z d => by unfold oct; rw [List.map_append]; rfl
        simp only [twoL, List.mem_cons, List.not_mem_nil, or_false] at hu2
        rcases hu2 with rfl | rfl <;> rw [e, e] <;> exact lex_app _ _ h2 h1
      rw [List.flatMap_cons]
      show ((t ++ [false]) :: (t ++ [true]) :: r.flatMap twoL).Pairwise _
      rw [List.pairwise_cons, List.pairwise_cons]
      refine ⟨fun u hu => ?_, fun u hu => key true u hu, hr⟩
      rcases List.mem_cons.1 hu with rfl | hu
      · have e : ∀ (d : Bool), oct (t ++ [d]) = oct t ++ [byteB d] := fun d => by unfold oct; rw [List.map_append]; rfl
        rw [e, e]
        exact lex_two (oct t)
      · exact key false u hu
theorem all_mem {n : Nat} {s : List Bool} : s ∈ allL n ↔ s.length = n := by
  constructor
  · intro hs
    obtain ⟨j, hj⟩ := List.getElem?_of_mem hs
    exact at_len n j s hj
  · intro h
    exact List.mem_of_getElem? (at_idx n s h)
theorem all_nodup (n : Nat) : (allL n).Nodup := (all_sorted n).imp fun {a b} h e => by
  subst e
  exact absurd h (List.lt_irrefl _)
/-- What was reached, in the order of texts. -/
def sortedO (n : Nat) (O : Ord) : List (List Bool) := (allL n).filter (has O)
theorem merge_oct {n : Nat} {O : Ord} (hn : (O.map (·.1)).Nodup) (hl : ∀ e ∈ O, e.1.length = n) :
    ((O.map fun e => oct e.1).mergeSort (fun x y => decide (x ≤ y))) = (sortedO n O).map oct := by
  have hp : ((O.map fun e => oct e.1).mergeSort (fun x y => decide (x ≤ y))).Pairwise (· ≤ ·) := by
    have := List.pairwise_mergeSort (le := fun x y : List UInt8 => decide (x ≤ y)) (fun a b c h1 h2 => by
      simp only [decide_eq_true_eq] at *
      exact List.le_trans h1 h2) (fun a b => by
      simp only [Bool.or_eq_true, decide_eq_true_eq]
      exact List.le_total a b) (O.map fun e => oct e.1)
    exact this.imp fun h => by simpa using h
  have hq : ((sortedO n O).map oct).Pairwise (· ≤ ·) := by
    rw [List.pairwise_map]
    exact ((all_sorted n).filter _).imp fun h => List.le_of_lt h
  refine List.Perm.eq_of_pairwise (fun a b _ _ h1 h2 => List.le_antisymm h1 h2) hp hq ((List.mergeSort_perm _ _).trans ?_)
  have e : (O.map fun e => oct e.1) = (O.map (·.1)).map oct := by rw [List.map_map]; rfl
  rw [e]
  refine List.Perm.map _ ((List.perm_ext_iff_of_nodup hn ((all_nodup n).filter _)).2 fun s => ?_)
  rw [List.mem_filter, all_mem, has_iff, List.mem_map]
  constructor
  · rintro ⟨⟨t, k⟩, h1, rfl⟩
    exact ⟨hl _ h1, k, h1⟩
  · rintro ⟨_, k, h1⟩
    exact ⟨_, h1, rfl⟩
end EnumP
end Go.Proofs.YtjmmhbmbafjneaaGreatDoor

/-
  slices.Sorted(slices.Values(l)) of []string: the texts, sorted, in memory of its own (written by valuess.py).
-/
namespace Go.Proofs.YtjmmhbmbafjneaaGreatDoor
open Go.RowKit Go.Shelf Go.Sort Base
set_option linter.unusedVariables false
set_option linter.unusedSimpArgs false
attribute [local go_sem] Oper.semAt_some
namespace ValsS

def encs (l : List (List UInt8)) : List Value := l.map encStr
theorem encs_len (l : List (List UInt8)) : (encs l).length = l.length := by simp [encs]
theorem enc_at {w : World} {a : Option Addr} {n c : Nat} {xs : List (List UInt8)} (h : Sl w a n c (encs xs)) {k : Nat} (hk : k < n) :
    ∃ b o, ∃ hx : k < xs.length, a = some ⟨b, o, none⟩ ∧ b < w.heap.size ∧ w.cell? ⟨b, o + k, none⟩ = some (encStr xs[k]) := by
  obtain ⟨b, o, x, ha, hs, hx, hc⟩ := h.at hk
  unfold encs at hx
  rw [List.getElem?_map, Option.map_eq_some_iff] at hx
  obtain ⟨y, hy, rfl⟩ := hx
  obtain ⟨hk', rfl⟩ := List.getElem?_eq_some_iff.1 hy
  exact ⟨b, o, hk', ha, hs, hc⟩
theorem info_str : (Tryz.prog.info? 9).map (fun i => (i.zero, i.size, i.bytes)) = some (some (.string ⟨#[]⟩), 1, 16) := by kernel_rfl
def sortA_ren : Go.Shelf.Ren := ⟨fun | 6 => 52 | 8 => 83 | 9 => 82 | 19 => 112 | 20 => 113 | 21 => 103 | 22 => 104 | 23 => 105 | 24 => 106 | 25 => 107 | 26 => 108 | 27 => 109 | 28 => 110 | 29 => 111 | 36 => 126 | 31 => 127 | 32 => 128 | 37 => 129 | 38 => 130 | 39 => 86 | 41 => 146 | n => n, fun | 27 => 30 | 29 => 9 | 3 => 3 | 32 => 123 | 26 => 30 | 0 => 0 | 44 => 150 | 46 => 152 | 4 => 4 | 36 => 144 | 35 => 143 | 41 => 108 | 5 => 5 | 9 => 9 | 53 => 161 | 57 => 165 | 63 => 178 | 64 => 179 | n => n, fun | n => n⟩
theorem sortA : Go.Proofs.SlLaysM.n6 Tryz.prog sortA_ren := {
  mixed := by kernel_rfl
  f6 := ⟨Tryz.f52.name, by decide, Tryz.func52.trans (congrArg some (by kernel_rfl))⟩
  f8 := Tryz.func83.trans (congrArg some (by kernel_rfl))
  f9 := ⟨Tryz.f82.name, by decide, Tryz.func82.trans (congrArg some (by kernel_rfl))⟩
  f19 := Tryz.func112.trans (congrArg some (by kernel_rfl))
  f20 := Tryz.func113.trans (congrArg some (by kernel_rfl))
  f21 := ⟨Tryz.f103.name, by decide, Tryz.func103.trans (congrArg some (by kernel_rfl))⟩
  f22 := ⟨Tryz.f104.name, by decide, Tryz.func104.trans (congrArg some (by kernel_rfl))⟩
  f23 := ⟨Tryz.f105.name, by decide, Tryz.func105.trans (congrArg some (by kernel_rfl))⟩
  f24 := ⟨Tryz.f106.name, by decide, Tryz.func106.trans (congrArg some (by kernel_rfl))⟩
  f25 := ⟨Tryz.f107.name, by decide, Tryz.func107.trans (congrArg some (by kernel_rfl))⟩
  f26 := ⟨Tryz.f108.name, by decide, Tryz.func108.trans (congrArg some (by kernel_rfl))⟩
  f27 := ⟨Tryz.f109.name, by decide, Tryz.func109.trans (congrArg some (by kernel_rfl))⟩
  f28 := ⟨Tryz.f110.name, by decide, Tryz.func110.trans (congrArg some (by kernel_rfl))⟩
  f29 := ⟨Tryz.f111.name, by decide, Tryz.func111.trans (congrArg some (by kernel_rfl))⟩
  f31 := Tryz.func127.trans (congrArg some (by kernel_rfl))
  f32 := Tryz.func128.trans (congrArg some (by kernel_rfl))
  f36 := ⟨Tryz.f126.name, by decide, Tryz.func126.trans (congrArg some (by kernel_rfl))⟩
  f37 := ⟨Tryz.f129.name, by decide, Tryz.func129.trans (congrArg some (by kernel_rfl))⟩
  f38 := ⟨Tryz.f130.name, by decide, Tryz.func130.trans (congrArg some (by kernel_rfl))⟩
  f39 := ⟨Tryz.f86.name, by decide, Tryz.func86.trans (congrArg some (by kernel_rfl))⟩
  f41 := ⟨Tryz.f146.name, by decide, Tryz.func146.trans (congrArg some (by kernel_rfl))⟩
  t0 := Tryz.underlying0
  a0 := Tryz.isAgg0
  z0 := Tryz.sizeOf0
  v0 := Tryz.zeroValue0
  t3 := Tryz.underlying3
  a3 := Tryz.isAgg3
  z3 := Tryz.sizeOf3
  v3 := Tryz.zeroValue3
  t4 := Tryz.underlying4
  a4 := Tryz.isAgg4
  z4 := Tryz.sizeOf4
  v4 := Tryz.zeroValue4
  t5 := Tryz.underlying5
  a5 := Tryz.isAgg5
  z5 := Tryz.sizeOf5
  v5 := Tryz.zeroValue5
  t9 := Tryz.underlying9
  a9 := Tryz.isAgg9
  z9 := Tryz.sizeOf9
  v9 := Tryz.zeroValue9
  t26 := Tryz.underlying30
  a26 := Tryz.isAgg30
  z26 := Tryz.sizeOf30
  v26 := Tryz.zeroValue30
  t27 := Tryz.underlying30
  a27 := Tryz.isAgg30
  z27 := Tryz.sizeOf30
  v27 := Tryz.zeroValue30
  t29 := Tryz.underlying9
  a29 := Tryz.isAgg9
  z29 := Tryz.sizeOf9
  v29 := Tryz.zeroValue9
  t32 := Tryz.underlying123
  a32 := Tryz.isAgg123
  z32 := Tryz.sizeOf123
  v32 := Tryz.zeroValue123
  t35 := Tryz.underlying143
  a35 := Tryz.isAgg143
  z35 := Tryz.sizeOf143
  v35 := Tryz.zeroValue143
  t36 := Tryz.underlying144
  a36 := Tryz.isAgg144
  z36 := Tryz.sizeOf144
  v36 := Tryz.zeroValue144
  t41 := Tryz.underlying108
  a41 := Tryz.isAgg108
  z41 := Tryz.sizeOf108
  v41 := Tryz.zeroValue108
  t44 := Tryz.underlying150
  a44 := Tryz.isAgg150
  z44 := Tryz.sizeOf150
  v44 := Tryz.zeroValue150
  t46 := Tryz.underlying152
  a46 := Tryz.isAgg152
  z46 := Tryz.sizeOf152
  v46 := Tryz.zeroValue152
  t53 := Tryz.underlying161
  a53 := Tryz.isAgg161
  z53 := Tryz.sizeOf161
  v53 := Tryz.zeroValue161
  t57 := Tryz.underlying165
  a57 := Tryz.isAgg165
  z57 := Tryz.sizeOf165
  v57 := Tryz.zeroValue165
  t63 := Tryz.underlying178
  a63 := Tryz.isAgg178
  z63 := Tryz.sizeOf178
  v63 := Tryz.zeroValue178
  t64 := Tryz.underlying179
  a64 := Tryz.isAgg179
  z64 := Tryz.sizeOf179
  v64 := Tryz.zeroValue179 }

set_option maxRecDepth 100000 in
set_option maxHeartbeats 2000000 in
theorem values1_in (F : Fence) (n : Nat) (hf : F.fn 53) (hro : F.round = none) (hn : 1 ≤ n) (l Bx n₀ : Nat) (a : Option Addr) (len cap : Nat) (zs : List (List UInt8)) (J Jx : List (List UInt8) → World → Prop)
    (hY : ∀ pre x W, J pre W → pre.length < len → YieldAt F (n - 1) Tryz.prog l #[encStr x] W fun e W' =>
      (e = .returned (.bool true) ∧ J (pre ++ [x]) W' ∧ Below n₀ W W') ∨ (e = .returned (.bool false) ∧ Jx (pre ++ [x]) W'))
    (W : World) (hBx : W.cell? ⟨Bx, 0, none⟩ = some (.slice a len cap)) (w0 : World) (hsl : Sl w0 a len cap (encs zs)) (h0n : w0.heap.size ≤ n₀) (hbW : Below n₀ w0 W) (h0 : J [] W) :
    CallsIn F n Tryz.prog 53 #[.func (.yield l) #[] #[], .pointer (some ⟨Bx, 0, none⟩)] W fun e W' => (∃ v, e = .returned v) ∧
      ((∃ ys, ys = zs ∧ J ys W') ∨ (∃ pre, True ∧ Jx pre W')) := by
  have hcap := hsl.cap
  have hbig := hsl.big
  have hzl : zs.length = len := by have := hsl.len; rw [encs_len] at this; exact this
  have HZ := Lib.hid hzl
  have HSL := Lib.hid hsl
  clear hsl hzl
  refine callsIn_of_wp Tryz.func53 rfl hf ?_ hro
  simp only [Tryz.ntmps53, List.size_toArray, List.length_cons, List.length_nil, Nat.reduceAdd, Nat.reduceSub, Array.replicate_succ, Array.replicate_zero, List.push_toArray, List.append_toArray, List.nil_append, List.cons_append]
  gi_wp2
  gi_loopw [7] (fun i wr => ∃ k : Nat, k ≤ len ∧ i = .int .i64 k ∧ J (zs.take k) wr ∧ Below n₀ w0 wr)
    (fun i _ => len - (intOf i).toNat)
  case atStart => exact ⟨0, Nat.zero_le _, rfl, h0, hbW⟩
  case round =>
    obtain ⟨k, hk, rfl, hJs, hnx⟩ := hrel
    by_cases hlt : k < len
    · obtain ⟨b, o, hx, rfl, hbs, hc⟩ := enc_at HSL.out hlt
      have hcx := (hnx.cell (p := ⟨b, o + k, none⟩) (Nat.lt_of_lt_of_le hbs h0n)).trans hc
      have HT := Lib.hid (List.take_succ_eq_append_getElem hx)
      obtain ⟨fn, tmps, assign, body, hy, hR⟩ := hY (zs.take k) zs[k] wr hJs (by rw [List.length_take, HZ.out]; omega)
      clear hc
      generalize zs[k] = z at *
      gi_wp2
      refine hR.mono ?_
      rintro e W3 (⟨rfl, hJ3, hk3⟩ | ⟨rfl, hJx3⟩)
      · gi_wp2
        go_roundw
        case rel => exact ⟨k + 1, by omega, by simp, by rw [HT.out]; exact hJ3, hnx.trans hk3⟩
        case measure => simp [intOf]; omega
      · gi_wp2
        refine bodyPost_ret (results_none rfl _ _ _) rfl ?_
        exact ⟨⟨_, rfl⟩, .inr ⟨_, trivial, hJx3⟩⟩
    · obtain rfl : k = len := by omega
      gi_wp2
      go_end0
      exact ⟨⟨_, rfl⟩, .inl ⟨zs, rfl, by rw [List.take_of_length_le (Nat.le_of_eq HZ.out)] at hJs; exact hJs⟩⟩

theorem values_stops (F : Fence) (n : Nat) (hf : F.fn 53) (hro : F.round = none) (hn : 1 ≤ n) (Bx n₀ : Nat) (a : Option Addr) (len cap : Nat) (zs : List (List UInt8)) (w0 w : World) (hBx : Bx < n₀) (h0n : w0.heap.size ≤ n₀) (hnw : n₀ ≤ w.heap.size)
    (hc : w.cell? ⟨Bx, 0, none⟩ = some (.slice a len cap)) (hsl : Sl w0 a len cap (encs zs)) (hb : Below n₀ w0 w) :
    SeqStopsK F n Tryz.prog 53 #[.pointer (some ⟨Bx, 0, none⟩)] (fun x : List UInt8 => #[encStr x]) (Below n₀) (fun ys => ys = zs) (fun _ => True) len w :=
  fun l J Jx W hW _ _ hY h0 => values1_in F n hf hro hn l Bx n₀ a len cap zs J Jx hY W ((hW.cell (p := ⟨Bx, 0, none⟩) (Nat.lt_of_lt_of_le hBx hnw)).trans hc) w0 hsl h0n (hb.trans (hW.mono hnw)) h0

set_option maxRecDepth 100000 in
set_option maxHeartbeats 2000000 in
theorem append_in (F : Fence) (n : Nat) (h0 : F.fn 81) (h1 : F.fn 53) (hro : F.round = none) (hn : 3 ≤ n) (w : World) (Bx : Nat) (a : Option Addr) (len cap : Nat) (zs : List (List UInt8)) (hBx : Bx < w.heap.size)
    (hcx : w.cell? ⟨Bx, 0, none⟩ = some (.slice a len cap)) (hsl : Sl w a len cap (encs zs)) (hlen : len * 16 ≤ 140737488355328) :
    CallsIn F n Tryz.prog 81 #[.slice none 0 0, .func (.func 53) #[] #[.pointer (some ⟨Bx, 0, none⟩)]] w fun e W' => ∃ v, e = .returned v ∧ W'.ownsRow w.heap.size 9 1 v zs.length (encs zs) ∧ Below w.heap.size w W' := by
  have hn1 : 1 ≤ n := by omega
  obtain ⟨i0, hi, hz0, hz1, hz2⟩ := info_parts info_str
  refine callsIn_of_wp_marks Tryz.func81 rfl h0 ?_ hro
  simp only [Tryz.ntmps81, List.size_toArray, List.length_cons, List.length_nil, Nat.reduceAdd, Nat.reduceSub, Array.replicate_succ, Array.replicate_zero, List.push_toArray, List.append_toArray, List.nil_append, List.cons_append]
  gi_wp2
  have bO := Boxed.new w 30 (.slice none 0 0)
  have hB0 : Below w.heap.size w (w.alloc (.cells #[.slice none 0 0] 30)) := (Below.refl _ w).alloc (Nat.le_refl _) _
  refine wpIn_rangeFunc_ownG hro hn1 (gf := 53) (lb := #[.pointer (some ⟨Bx, 0, none⟩)]) rfl h1 (enters_of Tryz.func53 (by kernel_rfl) rfl)
    (values_stops F (n - 1) h1 hro (by omega) Bx w.heap.size a len cap zs w _ hBx (Nat.le_refl _) (by simp) ((hB0.cell (p := ⟨Bx, 0, none⟩) hBx).trans hcx) hsl hB0) belowK_t (belowK_b (by simp)) (Below.refl _ _) (fun _ => rfl)
    (fun pre W => (∃ v, Boxed W w.heap.size 30 v ∧ W.ownsRow w.heap.size 9 1 v pre.length (encs pre) ∧ True) ∧ Below w.heap.size w W)
    (fun _ _ _ => False)
    (OwnFrom.and (Own.from (holdsRow_own w.heap.size w.heap.size 30 9 1 (fun pre : List (List UInt8) => pre.length) (fun pre => encs pre) (fun _ _ => True)) _) (ownFrom_below (Nat.le_refl _) (by simp)))
    (fun _ _ _ _ _ hs _ _ => hs)
    ⟨⟨_, bO, World.ownsRow_nil _ _ _ _, trivial⟩, hB0⟩
    (fun x => { tmps := #[.slice none 0 0, .func (.func 53) #[] #[.pointer (some ⟨Bx, 0, none⟩)], .pointer (some ⟨w.heap.size, 0, none⟩), undef, .slice none 0 0, encStr x, .func (.func 53) #[] #[.pointer (some ⟨Bx, 0, none⟩)], encStr x, undef, undef, undef, undef, undef], defers := [] }) ?assign ?body ?done ?stop
  case assign =>
    intro l x W K hK
    gi_wp2
    exact hK
  case body =>
    rintro l pre x W ⟨⟨v, hv, hrow, _⟩, hB⟩ hlt
    have hc := hv.cell
    gi_wp2_with (gi_at_builtin; refine wpListIn_append_own _ rfl _ _ 30 rfl w.heap.size 9 i0 (.string ⟨#[]⟩) 1 16 Tryz.underlying30 hi hz0 hz1 hz2 rfl (by decide) _ _ _ rfl (hrow.alloc _) ⟨W.heap.size, 0, none⟩ 1 1 [encStr x] rfl rfl (cell_one_new _ _ _) (by simp [Value.oneCell']) (by unfold maxLen; omega) (by omega) (by have := hB.size; simp; omega) ?_; intro v' w1 hown' hgrow _; obtain ⟨g', cap', rfl⟩ := ownsRow_succ hown'; obtain ⟨hv1, hv2, hr2, hk2, hb2⟩ := hv.appended (by decide) hrow hB.size (Nat.le_refl _) hown' hgrow; have hc1 := hv1.cell; have hf1 := hv1.frozen)
    exact ⟨hk2.from _, hb2, ⟨_, hv2, by have e : encs (pre ++ [x]) = encs pre ++ [encStr x] := (by unfold encs; rw [List.map_append]; rfl); rw [e, List.length_append]; exact hr2, trivial⟩, hB.trans hb2⟩
  case done =>
    rintro D ys W hD rfl ⟨⟨v, hv, hrow, _⟩, hB⟩ hK
    have hc := hv.cell
    gi_wp2
    refine ⟨by simp, .inl ⟨_, _, rfl, run_takeDeferred hK, ?_⟩⟩
    exact ⟨_, results_tmp rfl _ _ _, v, rfl, ownsRow_putObj hrow _ hK rfl, hB.trans (belowK_b (w := w) (Nat.le_refl _) W D _ _ (by simp at hD; omega) hK rfl rfl)⟩
  case stop =>
    rintro D c pre W _ _ h _
    exact h.elim

theorem append_any (w : World) (Bx : Nat) (a : Option Addr) (len cap : Nat) (zs : List (List UInt8)) (hBx : Bx < w.heap.size) (hcx : w.cell? ⟨Bx, 0, none⟩ = some (.slice a len cap)) (hsl : Sl w a len cap (encs zs)) (hlen : len * 16 ≤ 140737488355328) :
    Calls Tryz.prog 81 #[.slice none 0 0, .func (.func 53) #[] #[.pointer (some ⟨Bx, 0, none⟩)]] w fun e W' => ∃ v, e = .returned v ∧ W'.ownsRow w.heap.size 9 1 v zs.length (encs zs) ∧ Below w.heap.size w W' :=
  callsIn_wide.1 (append_in Fence.wide 5 trivial trivial rfl (by omega) w Bx a len cap zs hBx hcx hsl hlen)
set_option maxHeartbeats 1000000 in
theorem collect_any (w : World) (Bx : Nat) (a : Option Addr) (len cap : Nat) (zs : List (List UInt8)) (hBx : Bx < w.heap.size) (hcx : w.cell? ⟨Bx, 0, none⟩ = some (.slice a len cap)) (hsl : Sl w a len cap (encs zs)) (hlen : len * 16 ≤ 140737488355328) :
    Calls Tryz.prog 51 #[.func (.func 53) #[] #[.pointer (some ⟨Bx, 0, none⟩)]] w fun e W' => ∃ v, e = .returned v ∧ W'.ownsRow w.heap.size 9 1 v zs.length (encs zs) ∧ Below w.heap.size w W' := by
  have H := Lib.hid (append_any w Bx a len cap zs hBx hcx hsl hlen)
  clear hBx hcx hsl hlen
  go_enter Tryz.func51, Tryz.ntmps51
  go_wp2_with fail
  with_reducible refine H.out.mono ?_
  rintro e w1 ⟨v, rfl, hown, hb⟩
  go_wp2_with fail
  go_ret
  exact ⟨v, rfl, hown, hb⟩

set_option maxHeartbeats 1000000 in
theorem sorted_any (w : World) (Bx : Nat) (a : Option Addr) (len cap : Nat) (zs : List (List UInt8)) (hBx : Bx < w.heap.size) (hcx : w.cell? ⟨Bx, 0, none⟩ = some (.slice a len cap)) (hsl : Sl w a len cap (encs zs)) (hlen : len * 16 ≤ 140737488355328) :
    Calls Tryz.prog 27 #[.func (.func 53) #[] #[.pointer (some ⟨Bx, 0, none⟩)]] w fun e W' => ∃ a' c', e = .returned (.slice a' zs.length c') ∧ W'.ownsRow w.heap.size 9 1 (.slice a' zs.length c') zs.length (encs (zs.mergeSort (fun x y => decide (x ≤ y)))) ∧ Below w.heap.size w W' := by
  have hzl : zs.length ≤ 8796093022208 := by have := hsl.len; rw [encs_len] at this; omega
  have H := Lib.hid (collect_any w Bx a len cap zs hBx hcx hsl hlen)
  have HZ := Lib.hid hzl
  clear hBx hcx hsl hlen hzl
  go_enter Tryz.func27, Tryz.ntmps27
  go_wp2_with fail
  with_reducible refine H.out.mono ?_
  rintro e w1 ⟨v, rfl, hown, hb⟩
  have HB := Lib.hid hb
  have hown2 := hown
  rcases hown.2 with ⟨rfl, hz⟩ | ⟨gb, cp, cur, rfl, hbase, hgb, r1, r2, r3, r4⟩
  · have hss : zs = [] := List.eq_nil_of_length_eq_zero hz
    subst hss
    have HS := Lib.hid (AnyM.slices_Sort_string_none sortA none 0 w1)
    clear hown hown2 hb hz
    go_wp2_with fail
    refine HS.out.mono ?_
    rintro e w2 ⟨rfl, rfl⟩
    go_wp2_with fail
    go_ret
    exact ⟨none, 0, rfl, by simpa [encs] using World.ownsRow_nil w2 w.heap.size 9 1, HB.out⟩
  · have hH : Holds encStr w1 gb 0 zs.toArray := holds_of_block hgb (by rw [Nat.mul_one] at r4; exact r4)
    have hgl : gb < w1.heap.size := (Array.getElem?_eq_some_iff.1 hgb).1
    have HS := Lib.hid (AnyM.slices_Sort_string sortA gb 0 cp zs w1 hH hgl (by have := HZ.out; omega))
    have HG := Lib.hid (And.intro hbase (And.intro hgb (And.intro r1 (And.intro r2 r3))))
    clear hown hown2 hb hH hgl hbase hgb r1 r2 r3 r4
    go_wp2_with fail
    refine HS.out.mono ?_
    rintro e w2 ⟨rfl, nn, os, rfl⟩
    go_wp2_with fail
    go_ret
    obtain ⟨hbase, hgb, r1, r2, r3⟩ := HG.out
    exact ⟨some ⟨gb, 0, none⟩, cp, rfl, ownsRow_sorted (by simp) hbase hgb r1 r2 r3, HB.out.grown (grownBy_sorted _) HB.out.size (fun j hj => by cases hj; exact hbase)⟩

theorem values_any (w : World) (a : Option Addr) (len cap : Nat) :
    Calls Tryz.prog 28 #[.slice a len cap] w fun e w' => e = .returned (.func (.func 53) #[] #[.pointer (some ⟨w.heap.size, 0, none⟩)]) ∧ w' = w.alloc (.cells #[.slice a len cap] 30) := by
  go_enter Tryz.func28, Tryz.ntmps28
  go_wp2_with fail
  go_ret
  exact ⟨rfl, rfl⟩

end ValsS
end Go.Proofs.YtjmmhbmbafjneaaGreatDoor
