/-
  sim.First: a first state, of the bits that are free.
-/
import Derived.Test.YtllbncfcnjmbmaaDoorMeetsP
import Derived.Test.YtllbncfcnjmbmaaDoorSimBits
import Derived.Test.YtllbncfcnjmbmaaDoorCheckP
import Derived.Deep.RegionWith
import Derived.Deep.DeepCutAuto
namespace Go.Proofs.YtllbncfcnjmbmaaDoor
open Go.RowKit Base
set_option linter.unusedVariables false
set_option linter.unusedSimpArgs false
namespace First
open Circuit MeetsP

theorem resetI_eq {t : Tri} (h : t.2.2 = 0 ∨ t.2.2 = 1 ∨ t.2.2 = t.1) (b : UInt8) : SimReset.resetI t (b.toNat : Int) = ((resetB t b).toNat : Int) := by
  unfold SimReset.resetI resetB
  by_cases h1 : t.2.2 = t.1
  · rw [if_pos h1, if_pos h1]
  · rw [if_neg h1, if_neg h1]
    rcases h with h | h | h
    · rw [h, if_neg (by decide)]
      rw [IntKind.wrap_u8, IntKind.wrap_u8]; rfl
    · rw [h, if_pos rfl]
      rw [IntKind.wrap_u8, IntKind.wrap_u8]; rfl
    · exact absurd h h1

theorem reset_any' (w : World) (t : Tri) (h : t.2.2 = 0 ∨ t.2.2 = 1 ∨ t.2.2 = t.1) (b : UInt8) :
    Calls Tryd.prog 41 #[.agg #[.int .i64 t.1, .int .i64 t.2.1, .int .i64 t.2.2], .int .u8 (b.toNat : Int)] w fun e w' => e = .returned (.int .u8 ((resetB t b).toNat : Int)) ∧ Below w.heap.size w w' := by
  have := SimReset.reset_any w t (b.toNat : Int)
  rw [resetI_eq h b] at this
  exact this

theorem ownF_next {w w' : World} {B : Nat} {e : TypeId} {size : Nat} {v : Value} {n : Nat} {vs : List Value} (h : w.ownsRowF B e size v n vs) (hb : Below w.heap.size w w') : w'.ownsRowF B e size v n vs := by
  refine ⟨h.1, ?_⟩
  rcases h.2 with hn | ⟨g, cap, cur, fz, rfl, hg, hh, r⟩
  · exact .inl hn
  · exact .inr ⟨g, cap, cur, fz, rfl, hg, by rw [hb.block g (Array.getElem?_eq_some_iff.1 hh).1]; exact hh, r⟩
theorem atF_next {T e : TypeId} {B b : Nat} {p : Value} {bs : List Value} {w w' : World} (h : Lib.BuilderAtF T e B b p bs w) (hb : Below w.heap.size w w') : Lib.BuilderAtF T e B b p bs w' := by
  obtain ⟨hB, v, hh, ho, hne⟩ := h
  exact ⟨hB, v, by rw [hb.block b (Array.getElem?_eq_some_iff.1 hh).1]; exact hh, ownF_next ho hb, hne⟩
theorem isB_next {T e : TypeId} {B b : Nat} {bs : List Value} {w w' : World} (h : Lib.IsBuilderF T e B b bs w) (hb : Below w.heap.size w w') : Lib.IsBuilderF T e B b bs w' :=
  h.elim (fun x => .inl (atF_next x hb)) (fun x => .inr (atF_next x hb))

/-- The builder in words of this program. -/
abbrev IsB (B b : Nat) (l : List UInt8) (w : World) : Prop := Lib.IsBuilderF 74 5 B b (Lib.byteCells l) w

theorem write_any (B b : Nat) (l : List UInt8) (c : UInt8) (w : World) (h : IsB B b l w) (hl : l.length ≤ 100000) (hB : B ≤ w.heap.size) :
    Calls Tryd.prog 40 #[.pointer (some ⟨b, 0, none⟩), .int .u8 (c.toNat : Int)] w fun e w' => e = .returned .nilIface ∧ IsB B b (l ++ [c]) w' ∧ Below B w w' := by
  have hc := Any.Builder_WriteByte_k LayB.lays167 LayB.extra167 B b (Lib.byteCells l) (c.toNat : Int) w h (by unfold Lib.byteCells; rw [List.length_map]; omega) hB
  change Calls Tryd.prog 40 _ _ _ at hc
  refine hc.mono ?_
  rintro e w' ⟨rfl, h1, h2, _⟩
  refine ⟨rfl, .inr ?_, h2⟩
  have e1 : Lib.byteCells (l ++ [c]) = Lib.byteCells l ++ [.int .u8 (c.toNat : Int)] := by unfold Lib.byteCells; simp
  rw [e1]
  exact h1
theorem string_any (B b : Nat) (l : List UInt8) (w : World) (h : IsB B b l w) (hB : B ≤ w.heap.size) :
    Calls Tryd.prog 42 #[.pointer (some ⟨b, 0, none⟩)] w fun e w' => e = .returned (.string ⟨l.toArray⟩) ∧ Below B w w' := by
  have hc := Any.Builder_String_any_k LayB.lays169 LayB.extra169 B b l w h hB
  change Calls Tryd.prog 42 _ _ _ at hc
  exact hc.mono fun e w' h => ⟨h.1, h.2.2.1⟩
theorem isB_new (w : World) : IsB w.heap.size w.heap.size [] (w.alloc (.cells #[.pointer none, .slice none 0 0] 74)) := by
  refine .inl ⟨Nat.le_refl _, .slice none 0 0, by show (w.heap.push _)[w.heap.size]? = _; simp, ⟨by simp [Lib.byteCells], .inl ⟨rfl, rfl⟩⟩, by simp [Value.ownBlock]⟩

def firstS (lats : List Tri) (s : ByteArray) : ByteArray := ⟨(firstL lats s.data.toList).toArray⟩
theorem firstL_take {lats : List Tri} {s : List UInt8} {k : Nat} (h1 : k < lats.length) (h2 : k < s.length) : firstL (lats.take (k + 1)) (s.take (k + 1)) = firstL (lats.take k) (s.take k) ++ [resetB lats[k] s[k]] := by
  unfold firstL
  rw [List.take_succ_eq_append_getElem h1, List.take_succ_eq_append_getElem h2, List.zipWith_append (by simp; omega)]
  rfl

set_option maxRecDepth 8000 in
set_option maxHeartbeats 4000000 in
theorem first_any (w : World) (x : Circ) (p : At) (hin : InCirc w x p) (hw : WfC x) (hk : CheckOk x) (s : ByteArray) (hs : RefBits.bits s.data.toList x.lats.length = true) :
    Calls Tryd.prog 23 #[.agg (cells x p), .string s] w fun e w' => e = .returned (.tuple #[.string (firstS x.lats s), .int .i64 0]) ∧ Below w.heap.size w w' := by
  obtain ⟨a1, b1, a2, b2, a3, b3, a4, b4, a5, b5, a6, b6, a7, b7⟩ := p
  obtain ⟨W1, hW1⟩ : ∃ U, w.alloc (.cells (cells x ⟨a1, b1, a2, b2, a3, b3, a4, b4, a5, b5, a6, b6, a7, b7⟩) 27) = U := ⟨_, rfl⟩
  obtain ⟨hb1, hx1⟩ := cbox_new w x _ W1 hW1
  have hlen : s.size = x.lats.length := by
    have := bits_len hs
    rw [Array.length_toList] at this
    exact this
  have hV : x.lats.length ≤ 64 := hk.1.2.2.2.1
  have HC := check_any W1 x _ (hin.next hb1) hw.ins hw.outs hw.bads hw.invs hw.lats hw.ands hw.mx
  rw [chk_pos hk] at HC
  have HBT : ∀ W : World, Calls Tryd.prog 39 #[.string s, .int .i64 (x.lats.length : Int)] W fun e w' => e = .returned (.bool true) ∧ Below W.heap.size W w' := by
    intro W
    have := SimBits.bits_any W s (by omega) (x.lats.length : Int)
    rw [hs] at this
    exact this
  have HRS := Lib.hid hk.2.1.2.1
  have HL := Lib.hid (hin.next hb1).lats
  have hcap := hin.lats.cap
  have hbig := hin.lats.big
  have HB1 := Lib.hid hb1
  have HX1 := Lib.hid hx1
  have HC := Lib.hid HC
  have HBT := Lib.hid HBT
  have c0 := hx1.k0
  have c1 := hx1.k1
  have c2 := hx1.k2
  have c3 := hx1.k3
  have c4 := hx1.k4
  have c5 := hx1.k5
  have c6 := hx1.k6
  have c7 := hx1.k7
  have HF : Hid (firstS x.lats s = ⟨(firstL (x.lats.take x.lats.length) (s.data.toList.take x.lats.length)).toArray⟩) := by
    show _ = _
    rw [List.take_length, List.take_of_length_le (by rw [Array.length_toList]; exact Nat.le_of_eq hlen)]
    rfl
  generalize firstS x.lats s = F at *
  have HLN := Lib.hid hlen
  clear hin hb1 hx1 hk hs hlen hw
  unfold cells at *
  go_enter Tryd.func23, Tryd.ntmps23
  go_wp2_with fail
  with_reducible refine HC.out.mono ?_
  rintro e w2 ⟨rfl, hb2⟩
  have k2 := (HX1.out.next hb2 (Nat.le_refl _)).k2
  have HB2 := Lib.hid hb2
  clear hb2
  go_wp2_with fail
  with_reducible refine (HBT.out _).mono ?_
  rintro e w3 ⟨rfl, hb3⟩
  have HB3 := Lib.hid (HB2.out.trans (hb3.mono HB2.out.size))
  obtain ⟨W4, hW4⟩ : ∃ U, w3.alloc (.cells #[.pointer none, .slice none 0 0] 74) = U := ⟨_, rfl⟩
  have hisb := isB_new w3
  rw [hW4] at hisb
  have hb4 : Below w3.heap.size w3 W4 := by rw [← hW4]; exact (Below.refl _ _).alloc (Nat.le_refl _) _
  have k4 := (HX1.out.next (HB3.out.trans (hb4.mono HB3.out.size)) (Nat.le_refl _)).k2
  have HISB := Lib.hid hisb
  have HB4 := Lib.hid hb4
  clear hb3 hisb hb4 k2
  go_wp2_with fail
  go_loopw [24] (fun i wr => ∃ k : Nat, k ≤ x.lats.length ∧ i = .int .i64 k ∧ Hid (IsB w3.heap.size w3.heap.size (firstL (x.lats.take k) (s.data.toList.take k)) wr) ∧ Hid (Below w3.heap.size W4 wr)) (fun i _ => x.lats.length - (intOf i).toNat)
  case atStart => exact ⟨0, Nat.zero_le _, rfl, HISB, Below.refl _ _⟩
  case round =>
    obtain ⟨k, hkn, rfl, hI, hB⟩ := hrel
    by_cases hlt : k < x.lats.length
    · obtain ⟨bl, ol, hx, rfl, hbs, d0, d1, d2⟩ := (HL.out.next HB3.out).tri (i := k) hlt
      have q4 := (hB.out.cell (p := ⟨w.heap.size, 2, none⟩) (Nat.lt_of_lt_of_le HX1.out.lt HB3.out.size)).trans k4
      have hks : k < s.size := by have := HLN.out; omega
      have hkl : k < s.data.toList.length := by rw [Array.length_toList]; exact hks
      have HTK := Lib.hid (firstL_take hx hkl)
      have hres := HRS.out x.lats[k] (List.getElem_mem hx)
      have hkd : s.data.toList[k] = s[k] := rfl
      rw [hkd] at HTK
      obtain ⟨U, hU⟩ : ∃ U, wr.alloc (.cells #[.int .i64 x.lats[k].1, .int .i64 x.lats[k].2.1, .int .i64 x.lats[k].2.2] 44) = U := ⟨_, rfl⟩
      have hbU : Below wr.heap.size wr U := by rw [← hU]; exact (Below.refl _ _).alloc (Nat.le_refl _) _
      have u0 : U.cell? ⟨wr.heap.size, 0, none⟩ = some (.int .i64 x.lats[k].1) := by rw [← hU]; simp [go_sem]
      have u1 : U.cell? ⟨wr.heap.size, 1, none⟩ = some (.int .i64 x.lats[k].2.1) := by rw [← hU]; simp [go_sem]
      have u2 : U.cell? ⟨wr.heap.size, 2, none⟩ = some (.int .i64 x.lats[k].2.2) := by rw [← hU]; simp [go_sem]
      have hlb : bl < w3.heap.size := hbs
      have e0 := ((HB4.out.trans hB.out).cell (p := ⟨bl, ol + k * 3, none⟩) hlb).trans d0
      have e1 := ((HB4.out.trans hB.out).cell (p := ⟨bl, ol + k * 3 + 1, none⟩) hlb).trans d1
      have e2 := ((HB4.out.trans hB.out).cell (p := ⟨bl, ol + k * 3 + 2, none⟩) hlb).trans d2
      generalize x.lats[k] = t at *
      generalize hq : s[k] = q at *
      have hix : s[k] = q := hq
      have HR := Lib.hid (fun W => reset_any' W t hres q)
      have hlen : (firstL (x.lats.take k) (s.data.toList.take k)).length ≤ 100000 := by
        unfold firstL; rw [List.length_zipWith, List.length_take]; omega
      have HW := Lib.hid (fun (W : World) (hb : Below U.heap.size U W) => write_any w3.heap.size w3.heap.size _ (resetB t q) W (isB_next (isB_next hI.out hbU) hb) hlen (Nat.le_trans (Nat.le_trans HB4.out.size hB.out.size) (Nat.le_trans hbU.size hb.size)))
      have HBU := Lib.hid hbU
      clear hq hres hkd d0 d1 d2 hlen hbU
      go_wp2_with fail
      go_region_with (first | (go_at_call 41; (with_reducible refine (HR.out _).mono ?_); rintro e w5 ⟨rfl, hb5⟩) | (go_at_call 40; (have hb55 : Below U.heap.size U w5 := (Below.refl _ _).drew.trans hb5); (with_reducible refine (HW.out _ hb55).mono ?_); rintro e w6 ⟨rfl, hi6, hb6⟩))
      all_goals
        have HI6 := Lib.hid hi6
        have HB6 := Lib.hid ((hB.out.trans ((HBU.out.trans (hb55.mono HBU.out.size)).mono (Nat.le_trans HB4.out.size hB.out.size))).trans (hb6.mono (Nat.le_refl _)))
        clear hi6 hb6 hb55 hb5
        go_wp2_with fail
        go_roundw
        case rel => exact ⟨k + 1, by omega, by go_num, by rw [HTK.out]; exact HI6, HB6⟩
        case measure => simp [intOf]; omega
    · have hkn' : k = x.lats.length := by omega
      have hII : Hid (IsB w3.heap.size w3.heap.size (firstL (x.lats.take x.lats.length) (s.data.toList.take x.lats.length)) wr) := by have h := hI.out; rw [hkn'] at h; exact h
      have HST := Lib.hid (string_any w3.heap.size w3.heap.size _ wr hII.out (Nat.le_trans HB4.out.size hB.out.size))
      clear hkn' hI hkn
      go_wp2_with fail
      with_reducible refine HST.out.mono ?_
      rintro e w5 ⟨rfl, hb5⟩
      go_wp2_with fail
      refine bodyPost_ret (v := .tuple #[.string F, .int .i64 0]) (by rw [HF.out]; simp [results, Tryd.results23, go_sem]) rfl ⟨rfl, ?_⟩
      have h34 := HB3.out.trans ((HB4.out.trans hB.out).mono HB3.out.size)
      have h5 := h34.trans (hb5.mono HB3.out.size)
      exact HB1.out.trans (h5.mono HB1.out.size)
end First
end Go.Proofs.YtllbncfcnjmbmaaDoor
