/-
  cube.Fill, Meets, Apart.
-/
import Derived.Test.YtllbncfcnjmbmaaDoorFirst
import Derived.Test.YtllbncfcnjmbmaaDoorRepeat
import Derived.Test.YtllbncfcnjmbmaaDoorStranges
import Derived.Test.YtllbncfcnjmbmaaDoorCube
namespace Go.Proofs.YtllbncfcnjmbmaaDoor
open Go.RowKit Base
set_option linter.unusedVariables false
set_option linter.unusedSimpArgs false
namespace Fill
open Circuit MeetsP First

theorem freeB_app (l : List Int) (a : Int) (k : Nat) : freeB (l ++ [a]) k = if a = (k : Int) + 1 then 49 else freeB l k := by
  unfold freeB
  by_cases h : a = (k : Int) + 1
  · rw [if_pos h, if_pos (by simp [h])]
  · rw [if_neg h]
    have e : (l ++ [a]).contains ((k : Int) + 1) = l.contains ((k : Int) + 1) := by
      rw [Bool.eq_iff_iff]
      simp only [List.contains_iff_mem, List.mem_append, List.mem_singleton]
      exact ⟨fun h' => h'.elim id (fun e => absurd e.symm h), Or.inl⟩
    rw [e]
theorem freeL_keep {V : Nat} {l : List Int} {a : Int} (h : a ≤ 0) : freeL V (l ++ [a]) = freeL V l := by
  unfold freeL
  apply List.map_congr_left
  intro k _
  rw [freeB_app, if_neg (by omega)]
theorem freeL_set {V : Nat} {l : List Int} {a : Int} {i : Nat} (h : a = (i : Int) + 1) : freeL V (l ++ [a]) = (freeL V l).set i 49 := by
  apply List.ext_getElem
  · rw [List.length_set, freeL_len, freeL_len]
  · intro k h1 h2
    rw [freeL_at, freeB_app, List.getElem_set, freeL_at]
    by_cases hk : i = k
    · rw [if_pos (by omega), if_pos hk]
    · rw [if_neg (by omega), if_neg hk]
theorem freeL_nil (V : Nat) : freeL V [] = List.replicate V 48 := by
  unfold freeL
  apply List.ext_getElem
  · simp
  · intro k h1 h2
    rw [List.getElem_map, List.getElem_replicate]
    rfl
theorem take_snoc {α : Type} {l : List α} {k : Nat} (h : k < l.length) : l.take (k + 1) = l.take k ++ [l[k]] := List.take_succ_eq_append_getElem h

def bts (l : List UInt8) : List Value := l.map fun b => .int .u8 (b.toNat : Int)
theorem bts_set (l : List UInt8) (i : Nat) (b : UInt8) : bts (l.set i b) = (bts l).set i (.int .u8 (b.toNat : Int)) := by unfold bts; rw [List.map_set]

theorem sl_set {w : World} {g n c : Nat} {vs : List Value} (h : Sl w (some ⟨g, 0, none⟩) n c vs) {i : Nat} (hi : i < n) (u : Value) : Sl (w.setCell ⟨g, i, none⟩ u) (some ⟨g, 0, none⟩) n c (vs.set i u) := by
  have hsz : (w.setCell ⟨g, i, none⟩ u).heap.size = w.heap.size := by simp [World.setCell]
  refine ⟨by rw [List.length_set]; exact h.len, h.cap, h.big, h.bare, fun k x hx => ?_⟩
  by_cases hk : k = i
  · subst hk
    rw [List.getElem?_set_self (by rw [h.len]; exact hi)] at hx
    simp only [Option.some.injEq] at hx
    subst hx
    obtain ⟨b, o, x, ha, hb, _, hc⟩ := h.at hi
    simp only [Option.some.injEq, Addr.mk.injEq] at ha
    obtain ⟨rfl, rfl, _⟩ := ha
    rw [Nat.zero_add] at hc
    exact ⟨g, 0, rfl, by rw [hsz]; exact hb, by rw [Nat.zero_add]; exact World.cell?_setCell_same _ _ _ hc⟩
  · rw [List.getElem?_set_ne (fun e => hk e.symm)] at hx
    obtain ⟨b, o, ha, hb, hc⟩ := h.cell k x hx
    simp only [Option.some.injEq, Addr.mk.injEq] at ha
    obtain ⟨rfl, rfl, _⟩ := ha
    refine ⟨g, 0, rfl, by rw [hsz]; exact hb, (World.cell?_setCell_other _ _ _ _ (fun h => ?_)).trans hc⟩
    simp only [Addr.mk.injEq] at h
    omega

/-- What Fill tells: a state, and a number. -/
def okF (x : Circ) (l : List Int) : Bool := !((l.map (Strange.strangeB x.lats)).any id) && CubeP.inC l (best x.lats l)
noncomputable def fillS (x : Circ) (l : List Int) : ByteArray := if tt (CheckOk x) && okF x l then bestS x.lats l else ⟨#[]⟩
noncomputable def fillE (x : Circ) (l : List Int) : Int := if tt (CheckOk x) then (if okF x l then 0 else 51) else 9

theorem first_best (lats : List Tri) (l : List Int) : firstS lats ⟨(freeL lats.length l).toArray⟩ = bestS lats l := by
  unfold firstS bestS best; simp

theorem conv_any (w : World) (g c : Nat) (s : List UInt8) (hs : Sl w (some ⟨g, 0, none⟩) s.length c (bts s)) :
    (convert 53 9 (.slice (some ⟨g, 0, none⟩) s.length c)).run Tryd.prog w = .ok (.string ⟨s.toArray⟩) w :=
  run_convert_bytes_back (P := Tryd.prog) w 53 9 5 ⟨g, 0, none⟩ c s Tryd.underlying53 Tryd.underlying5 Tryd.underlying9 (fun j hj => by
    obtain ⟨b', o', e, _, hc⟩ := hs.cell j (.int .u8 (s[j].toNat : Int)) (by unfold bts; rw [List.getElem?_map, List.getElem?_eq_getElem hj]; rfl)
    simp only [Option.some.injEq, Addr.mk.injEq, and_true] at e
    obtain ⟨rfl, rfl⟩ := e
    rw [Addr.add_lit]
    exact hc)

set_option maxRecDepth 8000 in
set_option maxHeartbeats 4000000 in
theorem fill_any (w : World) (x : Circ) (p : At) (hin : InCirc w x p) (hw : WfC x) (a : Option Addr) (c : Nat) (l : List Int) (hs : Sl w a l.length c (ints l)) (hl : Clause.Wf l) :
    Calls Tryd.prog 6 #[.agg (cells x p), .slice a l.length c] w fun e w' => e = .returned (.tuple #[.string (fillS x l), .int .i64 (fillE x l)]) ∧ Below w.heap.size w w' := by
  obtain ⟨W1, hW1⟩ : ∃ U, w.alloc (.cells (cells x p) 27) = U := ⟨_, rfl⟩
  obtain ⟨hb1, hx1⟩ := cbox_new w x p W1 hW1
  have HC := check_any W1 x p (hin.next hb1) hw.ins hw.outs hw.bads hw.invs hw.lats hw.ands hw.mx
  have HMK := Lib.hid (fun W => SimReset.make_any W x p)
  have HAN := Lib.hid (fun (W : World) (N : Nat) (hB : CBox N x p W) (hb : Below w.heap.size w W) => Strange.anyStrange W x p N hB (hin.next hb).lats a l.length c l (hs.next hb) hl)
  have HFI := Lib.hid (fun (W : World) (hb : Below w.heap.size w W) hk s hs => first_any W x p (hin.next hb) hw hk s hs)
  have HIN := Lib.hid (fun (W : World) (hb : Below w.heap.size w W) (s : ByteArray) hsz => Cube.in_any W a l.length c l (hs.next hb) hl s hsz)
  have HS := Lib.hid (fun (W : World) (hb : Below w.heap.size w W) => hs.next hb)
  have HB1 := Lib.hid hb1
  have HX1 := Lib.hid hx1
  have c0 := hx1.k0
  have c1 := hx1.k1
  have c2 := hx1.k2
  have c3 := hx1.k3
  have c4 := hx1.k4
  have c5 := hx1.k5
  have c6 := hx1.k6
  have c7 := hx1.k7
  have hlc := hs.cap
  have hlb := hs.big
  clear hin hb1 hx1 hs
  by_cases hk : CheckOk x
  · rw [chk_pos hk] at HC
    have HC := Lib.hid HC
    have HV := Lib.hid hk.1.2.2.2.1
    have HK := Lib.hid hk
    have HE : Hid (fillE x l = (if okF x l then 0 else 51) ∧ fillS x l = if okF x l then bestS x.lats l else ⟨#[]⟩) := by
      unfold Hid fillE fillS
      rw [tt_pos hk, if_pos rfl, Bool.true_and]
      exact ⟨rfl, rfl⟩
    have HOK : Hid (okF x l = (!((l.map (Strange.strangeB x.lats)).any id) && CubeP.inC l (best x.lats l))) := rfl
    have HNS := Lib.hid (fun h => not_strange (lats := x.lats) (l := l) h)
    clear hk hw
    generalize fillE x l = FE at *
    generalize fillS x l = FS at *
    generalize okF x l = OK at *
    generalize hA : (l.map (Strange.strangeB x.lats)).any id = A at *
    clear hA
    unfold cells at *
    go_enter Tryd.func6, Tryd.ntmps6
    go_wp2_with fail
    with_reducible refine HC.out.mono ?_
    rintro e w2 ⟨rfl, hb2⟩
    have HX2 := Lib.hid (HX1.out.next hb2 (Nat.le_refl _))
    have HB2 := Lib.hid (HB1.out.trans (hb2.mono HB1.out.size))
    obtain ⟨_, q0, q1, q2, q3, q4, q5, q6, q7⟩ := HX2.out
    have HMK2 := Lib.hid (HMK.out w2)
    clear hb2 c0 c1 c2 c3 c4 c5 c6 c7 HMK
    go_wp2_with fail
    with_reducible refine HMK2.out.mono ?_
    rintro e w3 ⟨rfl, hx3, hb3⟩
    have HX3 := Lib.hid (HX2.out.next hb3 (Nat.le_refl _))
    have HB3 := Lib.hid (HB2.out.trans (hb3.mono HB2.out.size))
    have HAN3 := Lib.hid (HAN.out w3 _ hx3 HB3.out)
    clear hb3 hx3 q0 q1 q2 q3 q4 q5 q6 q7 HAN
    go_wp2_with fail
    with_reducible refine HAN3.out.mono ?_
    rintro e w4 ⟨rfl, hb4⟩
    have HX4 := Lib.hid (HX3.out.next hb4 (Nat.le_refl _))
    have HB4 := Lib.hid (HB3.out.trans (hb4.mono HB3.out.size))
    clear hb4
    cases A
    · obtain ⟨W5, hW5⟩ : ∃ U, w4.alloc (.cells #[.int .u8 48] 5) = U := ⟨_, rfl⟩
      have hb5 : Below w4.heap.size w4 W5 := by rw [← hW5]; exact (Below.refl _ _).alloc (Nat.le_refl _) _
      have hsl := sl_new w4 #[.int .u8 48] 5 1 rfl (by decide)
      rw [hW5] at hsl
      have HX5 := Lib.hid (HX4.out.next hb5 (Nat.le_refl _))
      have HB5 := Lib.hid (HB4.out.trans (hb5.mono HB4.out.size))
      have q2 := HX5.out.k2
      have HRP := Lib.hid (Repeat.repeat_any W5 w4.heap.size 0 1 hsl x.lats.length (by have := HV.out; omega))
      have HNS2 := Lib.hid (HNS.out rfl)
      have HVV := HV.out
      clear hb5 hsl HNS
      generalize hV : x.lats.length = V at *
      have HVN := Lib.hid hV
      clear hV
      go_wp2_with fail
      with_reducible refine HRP.out.mono ?_
      rintro e w6 ⟨g, rfl, hown, hb6⟩
      have HX6 := Lib.hid (HX5.out.next hb6 (Nat.le_refl _))
      have HB6 := Lib.hid (HB5.out.trans (hb6.mono HB5.out.size))
      have HB56 := Lib.hid hb6
      have hsl6 := own_sl hown
      obtain ⟨a6', c6', hv6, hs6⟩ := hsl6
      simp only [Value.slice.injEq] at hv6
      obtain ⟨rfl, _, rfl⟩ := hv6
      have hge : W5.heap.size ≤ g ∧ ∀ i, w6.frozen? ⟨g, i, none⟩ = false := by
        rcases hown.2 with ⟨h3, _⟩ | ⟨g', cap, cur, hv, hgB, hh, _⟩
        · cases h3
        · simp only [Value.slice.injEq, Option.some.injEq, Addr.mk.injEq] at hv
          obtain ⟨⟨rfl, _⟩, _, rfl⟩ := hv
          exact ⟨hgB, fun i => by simp [World.frozen?, hh]⟩
      have HGE := Lib.hid hge.1
      have HFZ := Lib.hid hge.2
      have hs6' : Hid (Sl w6 (some ⟨g, 0, none⟩) V V (bts (freeL V (l.take 0)))) := by
        have e : bts (freeL V (l.take 0)) = List.replicate V (Value.int .u8 48) := by
          rw [List.take_zero, freeL_nil]; unfold bts; simp
        show Sl _ _ _ _ _
        rw [e]; exact hs6
      clear hown hb6 hs6 hge q2
      generalize hln : l.length = n at *
      have HLN := Lib.hid hln
      clear hln
      go_wp2_with fail
      go_loopw [28] (fun i wr => ∃ j : Nat, j ≤ n ∧ i = .int .i64 j ∧ Hid (Sl wr (some ⟨g, 0, none⟩) V V (bts (freeL V (l.take j)))) ∧ Hid (∀ i, wr.frozen? ⟨g, i, none⟩ = false) ∧ Hid (Below W5.heap.size w6 wr)) (fun i _ => n - (intOf i).toNat)
      case atStart => exact ⟨0, Nat.zero_le _, rfl, hs6', HFZ, Below.refl _ _⟩
      case round =>
        obtain ⟨j, hj, rfl, hS, hF, hB⟩ := hrel
        have HBW : Hid (Below w.heap.size w wr) := HB6.out.trans (hB.out.mono HB5.out.size)
        by_cases hlt : j < n
        · obtain ⟨bl, ol, hy, rfl, hbs, hcy⟩ := (HS.out wr HBW.out).int (k := j) hlt
          have HTK := Lib.hid (take_snoc hy)
          have hst := HNS2.out l[j] (List.getElem_mem hy)
          obtain ⟨i, hi, b, hai, _⟩ := strange_no hst
          have HHK := Lib.hid (fun (h : l[j] ≤ 0) => freeL_keep (V := V) (l := l.take j) (a := l[j]) h)
          have HHS := Lib.hid (fun (h : l[j] = (i : Int) + 1) => freeL_set (V := V) (l := l.take j) (a := l[j]) (i := i) h)
          have hiV : i < V := by have := HVN.out; omega
          have hfz := hF.out i
          clear hst
          rw [← HTK.out] at HHK HHS
          generalize l[j] = y at *
          cases b
          · simp only [Bool.false_eq_true, if_false] at hai
            have hy0 : y ≤ 0 := by omega
            have HS2 : Hid (Sl wr (some ⟨g, 0, none⟩) V V (bts (freeL V (l.take (j + 1))))) := by
              show Sl _ _ _ _ _
              rw [HHK.out hy0]; exact hS.out
            clear hai HHK HHS hfz
            go_wp2_with fail
            go_roundw
            case rel => exact ⟨j + 1, by omega, by go_num, HS2, hF, hB⟩
            case measure => simp [intOf]; omega
          · simp only [if_true] at hai
            have HS2 : Hid (Sl (wr.setCell ⟨g, i, none⟩ (.int .u8 49)) (some ⟨g, 0, none⟩) V V (bts (freeL V (l.take (j + 1))))) := by
              have h := sl_set hS.out (i := i) hiV (.int .u8 49)
              show Sl _ _ _ _ _
              rw [HHS.out hai, bts_set]
              exact h
            subst hai
            have hfz2 : Hid (∀ m, (wr.setCell ⟨g, i, none⟩ (.int .u8 49)).frozen? ⟨g, m, none⟩ = false) := by
              intro m
              rw [World.frozen?_setCell]
              exact hF.out m
            have HB2 := Lib.hid (hB.out.setCell (p := ⟨g, i, none⟩) HGE.out (.int .u8 49))
            obtain ⟨_, _, v0, hv1, _, _, hc0⟩ := hS.out.at hiV
            simp only [Option.some.injEq, Addr.mk.injEq] at hv1
            obtain ⟨rfl, rfl, _⟩ := hv1
            rw [Nat.zero_add] at hc0
            clear HHK HHS
            go_wp2_with fail
            go_roundw
            case rel => exact ⟨j + 1, by omega, by go_num, HS2, hfz2, HB2⟩
            case measure => simp [intOf]; omega
        · have hjn : j = n := by omega
          have hS' : Hid (Sl wr (some ⟨g, 0, none⟩) V V (bts (freeL V l))) := by
            have h := hS.out
            rw [hjn, ← HLN.out, List.take_length] at h
            exact h
          have HCV := conv_any wr g V (freeL V l) (by rw [freeL_len]; exact hS'.out)
          rw [freeL_len] at HCV
          have HX7 := Lib.hid (HX5.out.next (HB56.out.trans hB.out) (Nat.le_refl _))
          obtain ⟨_, q0, q1, q2, q3, q4, q5, q6, q7⟩ := HX7.out
          rw [HVN.out] at q2
          have hbits : RefBits.bits (⟨(freeL V l).toArray⟩ : ByteArray).data.toList (V : Int) = true := by
            show RefBits.bits (freeL V l).toArray.toList (V : Int) = true
            rw [List.toList_toArray]
            unfold RefBits.bits
            rw [freeL_bits, freeL_len, decide_eq_true rfl]; rfl
          have HFI7 := HFI.out wr HBW.out HK.out ⟨(freeL V l).toArray⟩ hbits
          have hfb : firstS x.lats ⟨(freeL V l).toArray⟩ = bestS x.lats l := by
            have h := first_best x.lats l
            rw [HVN.out] at h
            exact h
          rw [hfb] at HFI7
          have HFI8 := Lib.hid HFI7
          have hbl : (bestS x.lats l).size ≤ 9223372036854775807 := by
            have h : (bestS x.lats l).size = V := by
              show (best x.lats l).toArray.size = V
              rw [List.size_toArray, best_len]; exact HVN.out
            omega
          have HIN7 := Lib.hid (fun W hb => HIN.out W hb (bestS x.lats l) hbl)
          have hbd : (bestS x.lats l).data.toList = best x.lats l := rfl
          rw [hbd] at HIN7
          clear hbits HFI7 hfb hbl hbd hjn hS hF
          generalize bestS x.lats l = BS at *
          generalize CubeP.inC l (best x.lats l) = IC at *
          go_wp2_with fail
          with_reducible refine HFI8.out.mono ?_
          rintro e w7 ⟨rfl, hb7⟩
          have HB7 := Lib.hid (HBW.out.trans (hb7.mono HBW.out.size))
          clear hb7
          go_wp2_with fail
          with_reducible refine (HIN7.out _ HB7.out).mono ?_
          rintro e w8 ⟨rfl, hb8⟩
          have HB8 := Lib.hid (HB7.out.trans (hb8.mono HB7.out.size))
          clear hb8
          cases IC
          · have HOKF : Hid (FE = 51 ∧ FS = ⟨#[]⟩) := by
              have h := HE.out
              rw [HOK.out] at h
              exact h
            go_wp2_with fail
            refine bodyPost_ret (v := .tuple #[.string FS, .int .i64 FE]) (by rw [HOKF.out.1, HOKF.out.2]; simp [results, Tryd.results6, go_sem]) rfl ⟨rfl, HB8.out⟩
          · have HOKF : Hid (FE = 0 ∧ FS = BS) := by
              have h := HE.out
              rw [HOK.out] at h
              exact h
            go_wp2_with fail
            refine bodyPost_ret (v := .tuple #[.string FS, .int .i64 FE]) (by rw [HOKF.out.1, HOKF.out.2]; simp [results, Tryd.results6, go_sem]) rfl ⟨rfl, HB8.out⟩
    · have HOKF : Hid (FE = 51 ∧ FS = ⟨#[]⟩) := by
        have h := HE.out
        rw [HOK.out] at h
        exact h
      go_wp2_with fail
      refine bodyPost_ret (v := .tuple #[.string FS, .int .i64 FE]) (by rw [HOKF.out.1, HOKF.out.2]; simp [results, Tryd.results6, go_sem]) rfl ⟨rfl, HB4.out⟩
  · rw [chk_neg hk] at HC
    have HC := Lib.hid HC
    have HE : Hid (fillE x l = 9 ∧ fillS x l = ⟨#[]⟩) := by
      unfold Hid fillE fillS
      rw [tt_neg hk]
      exact ⟨rfl, rfl⟩
    clear hk hw
    generalize fillE x l = FE at *
    generalize fillS x l = FS at *
    unfold cells at *
    go_enter Tryd.func6, Tryd.ntmps6
    go_wp2_with fail
    with_reducible refine HC.out.mono ?_
    rintro e w2 ⟨rfl, hb2⟩
    have HB2 := Lib.hid (HB1.out.trans (hb2.mono HB1.out.size))
    clear hb2
    go_wp2_with fail
    refine bodyPost_ret (v := .tuple #[.string FS, .int .i64 FE]) (by rw [HE.out.1, HE.out.2]; simp [results, Tryd.results6, go_sem]) rfl ⟨rfl, HB2.out⟩
end Fill
end Go.Proofs.YtllbncfcnjmbmaaDoor
