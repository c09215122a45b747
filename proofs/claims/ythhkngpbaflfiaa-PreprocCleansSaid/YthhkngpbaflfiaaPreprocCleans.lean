/-
  interlocklaw38.PreprocCleans: the walk: a formula, cleaned, without what others say, and its pure literals, are as the page says.
-/
import Derived.Test.YthhkngpbaflfiaaPreAlive
import Derived.Test.YthhkngpbaflfiaaLawCleaned
import Derived.Test.YthhkngpbaflfiaaPure
import Derived.Test.YthhkngpbaflfiaaRefSubs
import Derived.Test.YthhkngpbaflfiaaRowsV
import Derived.Test.YthhkngpbaflfiaaBoxF
import Derived.Deep.RegionHeld3
import Derived.Deep.DeepCutAuto
namespace Go.Proofs.Ythhkngpbaflfiaa.preprocCleans
open Go.RowKit Base
set_option linter.unusedVariables false
set_option linter.unusedSimpArgs false
open Pre BoxF
open Go.Proofs.Ythhkngpbaflfiaa.Pure (pures pl pures_more pures_len)

/-- What is said of the first k. -/
def sdk (L : List (List Int)) (i k : Nat) : Bool := (List.range k).any fun j => j != i && Clause.subs (L.getD j []) (L.getD i [])

theorem sdk_more (L : List (List Int)) (i k : Nat) : sdk L i (k + 1) = (sdk L i k || (k != i && Clause.subs (L.getD k []) (L.getD i []))) := by
  unfold sdk
  rw [List.range_succ, List.any_append]
  simp

theorem getD_at {L : List (List Int)} {k : Nat} (hk : k < L.length) : L.getD k [] = L[k] := by
  rw [List.getD_eq_getElem?_getD, List.getElem?_eq_getElem hk]; rfl

theorem sdk_all {L : List (List Int)} {i : Nat} (hi : i < L.length) : sdk L i L.length = said L i := by
  rw [Bool.eq_iff_iff, said_iff hi]
  unfold sdk
  rw [List.any_eq_true]
  constructor
  · rintro ⟨j, hj, h⟩
    rw [List.mem_range] at hj
    simp only [Bool.and_eq_true, bne_iff_ne, ne_eq] at h
    refine ⟨j, hj, h.1, ?_⟩
    have := h.2
    rwa [getD_at hj, getD_at hi] at this
  · rintro ⟨j, hj, hne, h⟩
    refine ⟨j, List.mem_range.2 hj, ?_⟩
    simp only [Bool.and_eq_true, bne_iff_ne, ne_eq]
    exact ⟨hne, by rw [getD_at hj, getD_at hi]; exact h⟩

def wants (L : List (List Int)) (i : Nat) : List (List Int) := (kept L i).map fun j => L.getD j []

theorem wants_more {L : List (List Int)} {i : Nat} (hi : i < L.length) : wants L (i + 1) = wants L i ++ (if said L i = true then [] else [L[i]]) := by
  unfold wants
  rw [kept_more, List.map_append]
  congr 1
  split
  · rfl
  · simp [List.getElem?_eq_getElem hi]

theorem wants_len (L : List (List Int)) (i : Nat) : (wants L i).length ≤ i := by
  unfold wants
  rw [List.length_map]
  exact kept_len L i

theorem wants_all (cls : List (List Int)) : wants (cleaned cls) (cleaned cls).length = subsumed cls := rfl

/-- Is it in one of the first k? -/
def inK (cls : List (List Int)) (v : Int) (k : Nat) : Bool := (cls.take k).any fun l => decide (v ∈ l)

theorem inK_more {cls : List (List Int)} {v : Int} {k : Nat} (hk : k < cls.length) : inK cls v (k + 1) = (inK cls v k || decide (v ∈ cls[k])) := by
  unfold inK
  rw [List.take_succ_eq_append_getElem hk, List.any_append]
  simp

theorem inK_all (cls : List (List Int)) (v : Int) : inK cls v cls.length = decide (v ∈ cls.flatten) := by
  unfold inK
  rw [List.take_length, Bool.eq_iff_iff]
  simp

/-- The boxes of the formulas. -/
structure Bx (N1 N3 N5 : Nat) (u0 : Int) (a0 : Option Addr) (n0 c0 : Nat) (u2 : Int) (a2 : Option Addr) (n2 c2 : Nat) (u3 : Int) (a3 : Option Addr) (n3 c3 : Nat) (w : World) : Prop where
  c10 : w.cell? ⟨N1, 0, none⟩ = some (.int .i64 u0)
  c11 : w.cell? ⟨N1, 1, none⟩ = some (.slice a0 n0 c0)
  c30 : w.cell? ⟨N3, 0, none⟩ = some (.int .i64 u2)
  c31 : w.cell? ⟨N3, 1, none⟩ = some (.slice a2 n2 c2)
  c50 : w.cell? ⟨N5, 0, none⟩ = some (.int .i64 u3)
  c51 : w.cell? ⟨N5, 1, none⟩ = some (.slice a3 n3 c3)
  l1 : N1 < w.heap.size
  l3 : N3 < w.heap.size
  l5 : N5 < w.heap.size

theorem Bx.next {N1 N3 N5 : Nat} {u0 : Int} {a0 : Option Addr} {n0 c0 : Nat} {u2 : Int} {a2 : Option Addr} {n2 c2 : Nat} {u3 : Int} {a3 : Option Addr} {n3 c3 : Nat} {w w' : World}
    (h : Bx N1 N3 N5 u0 a0 n0 c0 u2 a2 n2 c2 u3 a3 n3 c3 w) (hb : Below w.heap.size w w') : Bx N1 N3 N5 u0 a0 n0 c0 u2 a2 n2 c2 u3 a3 n3 c3 w' :=
  ⟨(hb.cell (p := ⟨N1, 0, none⟩) h.l1).trans h.c10, (hb.cell (p := ⟨N1, 1, none⟩) h.l1).trans h.c11, (hb.cell (p := ⟨N3, 0, none⟩) h.l3).trans h.c30, (hb.cell (p := ⟨N3, 1, none⟩) h.l3).trans h.c31,
   (hb.cell (p := ⟨N5, 0, none⟩) h.l5).trans h.c50, (hb.cell (p := ⟨N5, 1, none⟩) h.l5).trans h.c51, Nat.lt_of_lt_of_le h.l1 hb.size, Nat.lt_of_lt_of_le h.l3 hb.size, Nat.lt_of_lt_of_le h.l5 hb.size⟩

/-- What stands while a condition's calls run. -/
structure Hd (N1 N3 N5 : Nat) (u0 : Int) (a0 : Option Addr) (n0 c0 : Nat) (wq w' : World) : Prop where
  below : Below wq.heap.size wq w'
  bx : Bx N1 N3 N5 u0 a0 n0 c0 0 none 0 0 0 none 0 0 w'

abbrev HdAll (N1 N3 N5 : Nat) (u0 : Int) (a0 : Option Addr) (n0 c0 : Nat) (wq w' : World) : Prop :=
  Hd N1 N3 N5 u0 a0 n0 c0 wq w' ∧ w'.cell? ⟨N1, 0, none⟩ = some (.int .i64 u0) ∧ w'.cell? ⟨N1, 1, none⟩ = some (.slice a0 n0 c0) ∧ w'.cell? ⟨N3, 1, none⟩ = some (.slice none 0 0) ∧ w'.cell? ⟨N5, 1, none⟩ = some (.slice none 0 0)

theorem hd_in {N1 N3 N5 : Nat} {u0 : Int} {a0 : Option Addr} {n0 c0 : Nat} {wq w' : World} (h : Hd N1 N3 N5 u0 a0 n0 c0 wq w' ∧ w'.cell? ⟨N1, 0, none⟩ = some (.int .i64 u0) ∧ w'.cell? ⟨N1, 1, none⟩ = some (.slice a0 n0 c0) ∧ w'.cell? ⟨N3, 1, none⟩ = some (.slice none 0 0) ∧ w'.cell? ⟨N5, 1, none⟩ = some (.slice none 0 0)) : Hd N1 N3 N5 u0 a0 n0 c0 wq w' := h.1
theorem hd_all {N1 N3 N5 : Nat} {u0 : Int} {a0 : Option Addr} {n0 c0 : Nat} {wq w' : World} (h : Hd N1 N3 N5 u0 a0 n0 c0 wq w') : HdAll N1 N3 N5 u0 a0 n0 c0 wq w' := ⟨h, h.bx.c10, h.bx.c11, h.bx.c31, h.bx.c51⟩
theorem hd_first {N1 N3 N5 : Nat} {u0 : Int} {a0 : Option Addr} {n0 c0 : Nat} {wq : World} (h : Hid (Bx N1 N3 N5 u0 a0 n0 c0 0 none 0 0 0 none 0 0 wq)) : HdAll N1 N3 N5 u0 a0 n0 c0 wq wq.drew := hd_all ⟨(Below.refl _ _).drew, h.out.next ((Below.refl _ _).drew)⟩

set_option maxRecDepth 10000 in
set_option maxHeartbeats 16000000 in
theorem walk (u0 : Int) (l0 : -9223372036854775808 ≤ u0) (g0 : u0 ≤ 9223372036854775807) (a0 : Option Addr) (c0 : Nat) (x0 : List (List Int)) (y0 : List Value) {w : World} (s0 : Sl2 w a0 x0.length c0 y0 x0) (w0 : Formula.Wf2 x0) (W : World) (hW : W = w) :
    Calls Try.prog 3 #[.agg #[.int .i64 u0, .slice a0 x0.length c0]] W fun e w' => e = .returned (.bool true) ∧ Below W.heap.size W w' := by
  subst hW
  obtain ⟨V, hV⟩ : ∃ V, W.alloc (.cells #[.int .i64 u0, .slice a0 x0.length c0] 24) = V := ⟨_, rfl⟩
  obtain ⟨hWV, k0, k1, hzV⟩ := box_new W u0 a0 _ c0 V hV
  have CL := clean_any V u0 a0 _ c0 y0 x0 (s0.next hWV) w0
  have SU := fun U (hU : Below V.heap.size V U) => subsume_any U u0 a0 _ c0 y0 x0 ((s0.next hWV).next hU) w0
  have RF := fun U (hU : Below V.heap.size V U) => Formula.ref_any U u0 a0 _ c0 y0 x0 ((s0.next hWV).next hU) w0
  have PU := fun U (hU : Below V.heap.size V U) => Pure.pure_any U u0 a0 _ c0 y0 x0 ((s0.next hWV).next hU) w0
  have HS := Lib.hid (s0.next hWV)
  have HWV := Lib.hid hWV
  have HOK := Lib.hid (@Formula.check_ok u0 x0)
  have hcap0 := s0.sl.cap
  have hbig0 := s0.sl.big
  unfold FormOut at CL SU
  unfold Pure.PureOut at PU
  have H9 := Lib.hid (Formula.check_or u0 x0)
  have HW0 := Lib.hid w0
  clear s0 w0 hWV
  rcases H9.out with h0 | h9
  · rw [h0] at RF
    simp only [if_pos h0] at CL SU PU
    have HK := Lib.hid (HOK.out h0)
    have HCL := Lib.hid CL
    have HSU := Lib.hid SU
    have HRF := Lib.hid RF
    have HPU := Lib.hid PU
    clear CL SU RF PU h0 HOK H9
    go_enter Try.func3, Try.ntmps3
    go_wp2_with fail
    refine HCL.out.mono ?_
    rintro e w2 ⟨⟨a2, c2, v2, rfl, ho2⟩, hb2⟩
    obtain ⟨U2, hU2⟩ : ∃ U2, w2.alloc (.cells #[.int .i64 u0, .slice a2 (cleaned x0).length c2] 24) = U2 := ⟨_, rfl⟩
    obtain ⟨hn2, p20, p21, hz2⟩ := box_new w2 u0 a2 _ c2 U2 hU2
    have hbV2 : Below V.heap.size V U2 := hb2.trans (hn2.mono hb2.size)
    have d0 := (hbV2.cell (p := ⟨W.heap.size, 0, none⟩) hzV).trans k0
    have d1 := (hbV2.cell (p := ⟨W.heap.size, 1, none⟩) hzV).trans k1
    have hzU2 : W.heap.size < U2.heap.size := Nat.lt_of_lt_of_le hzV hbV2.size
    have HB2 := Lib.hid hbV2
    have HS2 := Lib.hid (ho2.sl2'.next hn2)
    clear hb2 ho2 hn2 hbV2 k0 k1 hV
    go_wp2_with fail
    refine (HSU.out U2 HB2.out).mono ?_
    rintro e w3 ⟨⟨a3, c3, v3, rfl, ho3⟩, hb3⟩
    obtain ⟨U3, hU3⟩ : ∃ U3, w3.alloc (.cells #[.int .i64 u0, .slice a3 (subsumed x0).length c3] 24) = U3 := ⟨_, rfl⟩
    obtain ⟨hn3, p30, p31, hz3⟩ := box_new w3 u0 a3 _ c3 U3 hU3
    have hb23 : Below U2.heap.size U2 U3 := hb3.trans (hn3.mono hb3.size)
    have hbx : Bx W.heap.size w2.heap.size w3.heap.size u0 a0 x0.length c0 u0 a2 (cleaned x0).length c2 u0 a3 (subsumed x0).length c3 U3 :=
      ⟨(hb23.cell (p := ⟨W.heap.size, 0, none⟩) hzU2).trans d0, (hb23.cell (p := ⟨W.heap.size, 1, none⟩) hzU2).trans d1, (hb23.cell (p := ⟨w2.heap.size, 0, none⟩) hz2).trans p20, (hb23.cell (p := ⟨w2.heap.size, 1, none⟩) hz2).trans p21, p30, p31, Nat.lt_of_lt_of_le hzU2 hb23.size, Nat.lt_of_lt_of_le hz2 hb23.size, hz3⟩
    have HB3 := Lib.hid (HB2.out.trans (hb23.mono HB2.out.size))
    have HS2' := Lib.hid (HS2.out.next hb23)
    have HS3 := Lib.hid (ho3.sl2'.next hn3)
    have HBX := Lib.hid hbx
    have x10 := hbx.c10
    have x11 := hbx.c11
    clear hb3 ho3 hn3 hb23 d0 d1 hzU2 p20 p21 hz2 p30 p31 hz3 hbx hU2
    go_wp2_with fail
    refine (HRF.out U3 HB3.out).mono ?_
    rintro e w4 ⟨rfl, hb4⟩
    have HB4 := Lib.hid (HB3.out.trans (hb4.mono HB3.out.size))
    have HBX4 := Lib.hid (HBX.out.next hb4)
    have HS24 := Lib.hid (HS2'.out.next hb4)
    have HS34 := Lib.hid (HS3.out.next hb4)
    have y11 := HBX4.out.c11
    have LC := Lib.hid (lawCleaned_any w4 a0 _ c0 y0 x0 (HS.out.next HB4.out) HW0.out (by have := HK.out.2.2.1; omega) (fun l hl => by have := (HK.out.2.2.2 l hl).1; omega))
    clear hb4 x10 x11 hU3
    go_wp2_with fail
    refine LC.out.mono ?_
    rintro e w5 ⟨a5, c5, v5, rfl, ho5, hb5⟩
    have HB5 := Lib.hid (HB4.out.trans (hb5.mono HB4.out.size))
    have HBX5 := Lib.hid (HBX4.out.next hb5)
    have HS25 := Lib.hid (HS24.out.next hb5)
    have HS35 := Lib.hid (HS34.out.next hb5)
    have HL5 := Lib.hid ho5.sl2'
    have hcapL := ho5.sl2'.sl.cap
    have hbigL := ho5.sl2'.sl.big
    have HLL : Hid ((cleaned x0).length ≤ 1048576) := by show _ ≤ _; have := len_cleaned x0; have := HK.out.2.2.1; omega
    have HWA := Lib.hid (wants_all x0)
    clear hb5 ho5 y11 LC
    generalize cleaned x0 = L at *
    generalize subsumed x0 = SS at *
    go_wp2_with fail
    go_loopw [8, 9] (fun v s wr => ∃ i : Nat, i ≤ L.length ∧ s = .int .i64 i ∧ ∃ m a c us, v = .slice a m c ∧ Hid (wr.ownsRow w5.heap.size 29 1 (.slice a m c) m us) ∧ Hid (RowsV w5 us (wants L i)) ∧ Hid (Below w5.heap.size w5 wr)) (fun _ s _ => L.length - (intOf s).toNat)
    case atStart => exact ⟨0, Nat.zero_le _, rfl, 0, none, 0, [], rfl, World.ownsRow_nil _ _ _ _, RowsV.nil _, Below.refl _ _⟩
    case round =>
      obtain ⟨i, hi, rfl, m, a6, c6, us, rfl, hown, hrv, hbr⟩ := hrel
      have HML : Hid (m = (wants L i).length) := by have h1 := hown.out.1; have h2 := hrv.out.1; show _ = _; omega
      by_cases hlt : i < L.length
      · obtain ⟨b, o, a7, c7, hx, rfl, hbs, hc, hs7, _⟩ := HL5.out.at hlt
        have hcr := (hbr.out.cell (p := ⟨b, o + i, none⟩) hbs).trans hc
        have HIV : Hid (IntsV w5 (.slice a7 L[i].length c7) L[i]) := ⟨a7, c7, rfl, hs7⟩
        have HI7 := Lib.hid hs7
        have HWM := Lib.hid (wants_more hx)
        have HSA := Lib.hid (sdk_all hx)
        have HGI := Lib.hid (getD_at hx)
        have HM3 : Hid ((m + 1) * 24 ≤ 140737488355328) := by have h1 := wants_len L i; have h2 := HML.out; have h3 := HLL.out; show _ ≤ _; omega
        clear hc hs7
        generalize wr = wq at *
        go_wp2_with fail
        go_loopw [10, 11] (fun t s wr => ∃ k : Nat, k ≤ L.length ∧ s = .int .i64 k ∧ t = .bool (sdk L i k) ∧ Hid (Below wq.heap.size wq wr)) (fun _ s _ => L.length - (intOf s).toNat)
        case atStart => exact ⟨0, Nat.zero_le _, rfl, rfl, Below.refl _ _⟩
        case round =>
          obtain ⟨k, hk, rfl, rfl, hbk⟩ := hrel
          have hb5k : Below w5.heap.size w5 wr := hbr.out.trans (hbk.out.mono hbr.out.size)
          by_cases hkm : k < L.length
          · obtain ⟨b8, o8, a8, c8, hxk, e8, hbs8, hc8, hs8, _⟩ := HL5.out.at hkm
            simp only [Option.some.injEq, Addr.mk.injEq] at e8
            obtain ⟨rfl, rfl, _⟩ := e8
            have hck := (hb5k.cell (p := ⟨b, o + k, none⟩) hbs8).trans hc8
            have hci := (hbk.out.cell (p := ⟨b, o + i, none⟩) (Nat.lt_of_lt_of_le hbs hbr.out.size)).trans hcr
            have HSM := Lib.hid (sdk_more L i k)
            rw [getD_at hxk, HGI.out] at HSM
            have SB := Lib.hid (fun (q : Nat) => RefC.subs_any (wr.drewN q) a8 _ c8 L[k] ((hs8.next hb5k).next (below_drewN (Below.refl _ _) q)) a7 _ c7 L[i] ((HI7.out.next hb5k).next (below_drewN (Below.refl _ _) q)))
            clear hc8 hs8
            generalize hd : sdk L i k = d at *
            generalize hf : Clause.subs L[k] L[i] = f at *
            clear hd hf
            cases d
            · by_cases hki : k = i
              · subst hki
                have hne : ((k : Int) != (k : Int)) = false := by simp
                simp only [bne_self_eq_false, Bool.false_and, Bool.or_false] at HSM
                go_wp2_with fail
                go_quiet (fail)
                go_wp2
                go_roundw
                case rel => exact ⟨k + 1, by omega, by go_num, by rw [HSM.out], below_drewN hbk.out _⟩
                case measure => simp [intOf]; omega
              · have hne : ((k : Int) != (i : Int)) = true := by simp; omega
                have hne2 : (k != i) = true := by simp [hki]
                rw [hne2] at HSM
                simp only [Bool.true_and, Bool.false_or] at HSM
                clear hki hne2
                go_wp2_with fail
                go_quiet ((go_at_call 14; exact Calls.quiet_of_same ((SB.out _).mono fun e w' h => ⟨h.1, h.2.symm⟩)))
                go_wp2
                go_roundw
                case rel => exact ⟨k + 1, by omega, by go_num, by rw [HSM.out], below_drewN hbk.out _⟩
                case measure => simp [intOf]; omega
            · simp only [Bool.true_or] at HSM
              go_wp2_with fail
              go_quiet (fail)
              go_wp2
              go_roundw
              case rel => exact ⟨k + 1, by omega, by go_num, by rw [HSM.out], below_drewN hbk.out _⟩
              case measure => simp [intOf]; omega
          · have hke : k = L.length := by omega
            subst hke
            have hci := (hbk.out.cell (p := ⟨b, o + i, none⟩) (Nat.lt_of_lt_of_le hbs hbr.out.size)).trans hcr
            have HOr := Lib.hid (own_next hown.out hbk.out)
            rw [HSA.out]
            have hsz : w5.heap.size ≤ wr.heap.size := hb5k.size
            have HB5K := Lib.hid hb5k
            clear hbk hb5k hk hkm
            cases hsd : said L i
            · rw [hsd] at HWM
              simp only [Bool.false_eq_true, if_false] at HWM
              clear hsd
              go_wp2_with ((with_reducible refine wpL_push (B := w5.heap.size) (W := w5) wr (.slice a7 L[i].length c7) _ m us infoC Try.underlying22 ?_ ?_ ?_ ?_ ?_ HOr.out ?_ ?_ ?_ HB5K.out ?_); rfl; rfl; rfl; rfl; rfl; (exact hsz); (exact HM3.out); (have := HM3.out; omega); (intro a9 c9 w9 hown9 hb9 hsz9))
              go_roundw
              case rel => exact ⟨i + 1, by omega, by go_num, m + 1, a9, c9, _, rfl, hown9, by show RowsV _ _ _; rw [HWM.out]; exact hrv.out.snoc HIV.out, hb9⟩
              case measure => simp [intOf]; omega
            · rw [hsd] at HWM
              simp only [if_true, List.append_nil] at HWM
              clear hsd
              go_wp2_with fail
              go_roundw
              case rel => exact ⟨i + 1, by omega, by go_num, m, a6, c6, us, rfl, HOr.out, by show RowsV _ _ _; rw [HWM.out]; exact hrv.out, HB5K.out⟩
              case measure => simp [intOf]; omega
      · have hie : i = L.length := by omega
        subst hie
        obtain ⟨a6', c6', hv6, hs6⟩ := own_sl hown.out
        simp only [Value.slice.injEq] at hv6
        obtain ⟨rfl, _, rfl⟩ := hv6
        have hws := hrv.out.sl2 hbr.out hs6
        rw [HWA.out] at hws
        have HWS := Lib.hid hws
        have HMS : Hid (m = SS.length) := by have := HML.out; rw [HWA.out] at this; exact this
        have HBW := Lib.hid (HB5.out.trans (hbr.out.mono HB5.out.size))
        have HBX6 := Lib.hid (HBX5.out.next hbr.out)
        have HS26 := Lib.hid (HS25.out.next hbr.out)
        have HS36 := Lib.hid (HS35.out.next hbr.out)
        have HL6 := Lib.hid (HL5.out.next hbr.out)
        have HUV0 : 0 ≤ u0 := HK.out.1
        obtain ⟨nv, rfl⟩ := Int.eq_ofNat_of_zero_le HUV0
        have HNV : Hid (nv ≤ 262144) := by have := HK.out.2.1; show _ ≤ _; omega
        have z10 := HBX6.out.c10
        have z11 := HBX6.out.c11
        have hzq := HBX6.out.l1
        have HX : Hid (∃ X, X = x0.flatten) := ⟨_, rfl⟩
        clear hws hown hrv hbr HML HUV0 hs6
        go_wp2_with fail
        generalize wr = wq at *
        generalize hX : x0.flatten = X at *
        have HXX := Lib.hid hX
        clear hX
        go_loopw [12, 13] (fun v s wr => ∃ j : Nat, j ≤ nv ∧ s = .int .i64 ((j : Int) + 1) ∧ ∃ ap cp, v = .slice ap (pures X j).length cp ∧ Hid (wr.ownsRow wq.heap.size 3 1 (.slice ap (pures X j).length cp) (pures X j).length (ints (pures X j))) ∧ Hid (Below wq.heap.size wq wr)) (fun _ s _ => nv + 1 - (intOf s).toNat)
        case atStart => exact ⟨0, Nat.zero_le _, rfl, none, 0, rfl, World.ownsRow_nil _ _ _ _, Below.refl _ _⟩
        case round =>
          obtain ⟨j, hj, rfl, ap, cp, rfl, hownp, hbp⟩ := hrel
          have q10 := (hbp.out.cell (p := ⟨W.heap.size, 0, none⟩) hzq).trans z10
          have q11 := (hbp.out.cell (p := ⟨W.heap.size, 1, none⟩) hzq).trans z11
          by_cases hlj : j < nv
          · have hI : (j : Int) + 1 ≤ (nv : Int) := by omega
            have hj26 : (j : Int) + 1 ≤ 262144 := by have := HNV.out; omega
            have HPM := Lib.hid (pures_more X j)
            have hpl : (pures X j).length ≤ 262144 := Nat.le_trans (pures_len X j) (by have := HNV.out; omega)
            have HPLN := Lib.hid hpl
            have HPLX : Hid (pl X ((j : Int) + 1) = if (j : Int) + 1 ∈ X ∧ -((j : Int) + 1) ∉ X then [(j : Int) + 1] else if -((j : Int) + 1) ∈ X ∧ (j : Int) + 1 ∉ X then [-((j : Int) + 1)] else []) := rfl
            have HK1 := Lib.hid (inK_all x0 ((j : Int) + 1))
            have HK2 := Lib.hid (inK_all x0 (-((j : Int) + 1)))
            rw [HXX.out] at HK1 HK2
            clear hpl
            go_wp2_with fail
            generalize wr = wo at *
            go_loopw [14, 15, 16] (fun y z s wr => ∃ k : Nat, k ≤ x0.length ∧ s = .int .i64 k ∧ y = .bool (inK x0 ((j : Int) + 1) k) ∧ z = .bool (inK x0 (-((j : Int) + 1)) k) ∧ wr = wo) (fun _ _ s _ => x0.length - (intOf s).toNat)
            case atStart => exact ⟨0, Nat.zero_le _, rfl, rfl, rfl, rfl⟩
            case round =>
              obtain ⟨k, hk, rfl, rfl, rfl, rfl⟩ := hrel
              by_cases hkm : k < x0.length
              · have hbT : Below V.heap.size V wr := HBW.out.trans (hbp.out.mono HBW.out.size)
                obtain ⟨b8, o8, a8, c8, hxk, rfl, hbs8, hc8, hs8, _⟩ := HS.out.at hkm
                have hck := (hbT.cell (p := ⟨b8, o8 + k, none⟩) hbs8).trans hc8
                have HA1 := Lib.hid (RefC.has_any wr a8 _ c8 x0[k] (hs8.next hbT) ((j : Int) + 1))
                have HA2 := Lib.hid (RefC.has_any wr a8 _ c8 x0[k] (hs8.next hbT) (-((j : Int) + 1)))
                have HM1 := Lib.hid (inK_more (v := (j : Int) + 1) hxk)
                have HM2 := Lib.hid (inK_more (v := -((j : Int) + 1)) hxk)
                clear hc8 hs8 hbT
                generalize hd1 : inK x0 ((j : Int) + 1) k = d1 at *
                generalize hd2 : inK x0 (-((j : Int) + 1)) k = d2 at *
                generalize hf1 : decide ((j : Int) + 1 ∈ x0[k]) = f1 at *
                generalize hf2 : decide (-((j : Int) + 1) ∈ x0[k]) = f2 at *
                clear hd1 hd2 hf1 hf2
                cases d1
                · cases d2
                  · go_wp2_with fail
                    refine HA1.out.mono ?_
                    rintro e w9 ⟨rfl, rfl⟩
                    go_wp2_with fail
                    refine HA2.out.mono ?_
                    rintro e w9 ⟨rfl, rfl⟩
                    go_wp2_with fail
                    go_roundw
                    case rel => exact ⟨k + 1, by omega, by go_num, by rw [HM1.out]; rfl, by rw [HM2.out]; rfl, trivial⟩
                    case measure => simp [intOf]; omega
                  · go_wp2_with fail
                    refine HA1.out.mono ?_
                    rintro e w9 ⟨rfl, rfl⟩
                    go_wp2_with fail
                    go_roundw
                    case rel => exact ⟨k + 1, by omega, by go_num, by rw [HM1.out]; rfl, by rw [HM2.out]; rfl, trivial⟩
                    case measure => simp [intOf]; omega
                · cases d2
                  · go_wp2_with fail
                    refine HA2.out.mono ?_
                    rintro e w9 ⟨rfl, rfl⟩
                    go_wp2_with fail
                    go_roundw
                    case rel => exact ⟨k + 1, by omega, by go_num, by rw [HM1.out]; rfl, by rw [HM2.out]; rfl, trivial⟩
                    case measure => simp [intOf]; omega
                  · go_wp2_with fail
                    go_roundw
                    case rel => exact ⟨k + 1, by omega, by go_num, by rw [HM1.out]; rfl, by rw [HM2.out]; rfl, trivial⟩
                    case measure => simp [intOf]; omega
              · have hke : k = x0.length := by omega
                subst hke
                rw [HK1.out, HK2.out]
                clear HK1 HK2 hk hkm
                generalize wr = wo at *
                by_cases hy : (j : Int) + 1 ∈ X
                · by_cases hn : -((j : Int) + 1) ∈ X
                  · rw [decide_eq_true hy, decide_eq_true hn]
                    simp only [hy, hn, not_true, not_false, not_true_eq_false, not_false_eq_true, and_true, and_false, true_and, false_and, if_true, if_false] at HPLX
                    rw [HPLX.out, List.append_nil] at HPM
                    clear hy hn
                    go_wp2_with fail
                    go_roundw
                    case rel => exact ⟨j + 1, by omega, congrArg _ (by omega), ap, cp, by rw [HPM.out], by show World.ownsRow _ _ _ _ _ _ _; rw [HPM.out]; exact hownp.out, hbp.out⟩
                    case measure => simp [intOf]; omega
                  · rw [decide_eq_true hy, decide_eq_false hn]
                    simp only [hy, hn, not_true, not_false, not_true_eq_false, not_false_eq_true, and_true, and_false, true_and, false_and, if_true, if_false] at HPLX
                    rw [HPLX.out] at HPM
                    clear hy hn
                    go_wp2_with ((with_reducible refine wpL_push (B := wq.heap.size) (W := wq) wo (.int .i64 ((j : Int) + 1)) _ (pures X j).length (ints (pures X j)) Pure.info_int Try.underlying29 ?_ ?_ ?_ ?_ ?_ hownp.out ?_ ?_ ?_ hbp.out ?_); rfl; rfl; rfl; rfl; rfl; (exact hbp.out.size); (have := HPLN.out; omega); (have := HPLN.out; omega); (intro a7 c7 w7 hown7 hb7 hsz7))
                    have HLn : Hid ((pures X (j + 1)).length = (pures X j).length + 1) := by show _ = _; rw [HPM.out, List.length_append]; rfl
                    have HE : Hid (ints (pures X (j + 1)) = ints (pures X j) ++ [.int .i64 ((j : Int) + 1)]) := by show _ = _; rw [HPM.out]; simp [ints]
                    go_roundw
                    case rel => exact ⟨j + 1, by omega, congrArg _ (by omega), a7, c7, by rw [HLn.out], by show World.ownsRow _ _ _ _ _ _ _; rw [HLn.out, HE.out]; exact hown7, hb7⟩
                    case measure => simp [intOf]; omega
                · by_cases hn : -((j : Int) + 1) ∈ X
                  · rw [decide_eq_false hy, decide_eq_true hn]
                    simp only [hy, hn, not_true, not_false, not_true_eq_false, not_false_eq_true, and_true, and_false, true_and, false_and, if_true, if_false] at HPLX
                    rw [HPLX.out] at HPM
                    clear hy hn
                    go_wp2_with ((with_reducible refine wpL_push (B := wq.heap.size) (W := wq) wo (.int .i64 (-((j : Int) + 1))) _ (pures X j).length (ints (pures X j)) Pure.info_int Try.underlying29 ?_ ?_ ?_ ?_ ?_ hownp.out ?_ ?_ ?_ hbp.out ?_); rfl; rfl; rfl; rfl; rfl; (exact hbp.out.size); (have := HPLN.out; omega); (have := HPLN.out; omega); (intro a7 c7 w7 hown7 hb7 hsz7))
                    have HLn : Hid ((pures X (j + 1)).length = (pures X j).length + 1) := by show _ = _; rw [HPM.out, List.length_append]; rfl
                    have HE : Hid (ints (pures X (j + 1)) = ints (pures X j) ++ [.int .i64 (-((j : Int) + 1))]) := by show _ = _; rw [HPM.out]; simp [ints]
                    go_roundw
                    case rel => exact ⟨j + 1, by omega, congrArg _ (by omega), a7, c7, by rw [HLn.out], by show World.ownsRow _ _ _ _ _ _ _; rw [HLn.out, HE.out]; exact hown7, hb7⟩
                    case measure => simp [intOf]; omega
                  · rw [decide_eq_false hy, decide_eq_false hn]
                    simp only [hy, hn, not_true, not_false, not_true_eq_false, not_false_eq_true, and_true, and_false, true_and, false_and, if_true, if_false] at HPLX
                    rw [HPLX.out, List.append_nil] at HPM
                    clear hy hn
                    go_wp2_with fail
                    go_roundw
                    case rel => exact ⟨j + 1, by omega, congrArg _ (by omega), ap, cp, by rw [HPM.out], by show World.ownsRow _ _ _ _ _ _ _; rw [HPM.out]; exact hownp.out, hbp.out⟩
                    case measure => simp [intOf]; omega
          · have hje : j = nv := by omega
            subst hje
            have hbx := HBX6.out.next hbp.out
            have r11 := hbx.c11
            have r30 := hbx.c30
            have r31 := hbx.c31
            have r50 := hbx.c50
            have r51 := hbx.c51
            have HB9 := Lib.hid (HBW.out.trans (hbp.out.mono HBW.out.size))
            have HP9 := Lib.hid (Base.own_ints hownp.out)
            have hms := HMS.out
            subst hms
            have L1 := Plain.lists_any wr a2 a5 _ _ c2 c5 v2 v5 L L (HS26.out.next hbp.out) (HL6.out.next hbp.out)
            have L2 := fun q => Plain.lists_any (wr.drewN q) a3 a6 _ _ c3 c6 v3 us SS SS ((HS36.out.next hbp.out).next (below_drewN (Below.refl _ _) q)) ((HWS.out.next hbp.out).next (below_drewN (Below.refl _ _) q))
            simp only [decide_true] at L1 L2
            have HL1 := Lib.hid L1
            have HL2 := Lib.hid L2
            have HPU9 := Lib.hid (fun (q : Nat) => HPU.out (wr.drewN q) (below_drewN HB9.out q))
            clear L1 L2 hbx z10 z11 hownp hbp HWS HS26 HS36 HL6 HMS
            go_wp2_with fail
            refine HL1.out.mono ?_
            rintro e w8 ⟨rfl, n8, rfl⟩
            go_wp2_with fail
            refine (HL2.out n8).mono ?_
            rintro e w9 ⟨rfl, n9, rfl⟩
            rw [World.drewN_drewN]
            have PU9 := HPU9.out (n8 + n9)
            rw [Int.toNat_natCast] at PU9
            have HPP := Lib.hid PU9
            clear PU9
            go_wp2_with fail
            refine HPP.out.mono ?_
            rintro e w10 ⟨⟨a10, c10, rfl, ho10⟩, hb10⟩
            have hz10 : Below wr.heap.size wr w10 := (below_drewN (Below.refl _ _) (n8 + n9)).trans (hb10.mono (Nat.le_refl _))
            have PI := Plain.ints_any w10 a10 ap _ _ c10 cp (pures X j) (pures X j) (Base.own_ints ho10) (HP9.out.next hz10)
            simp only [decide_true] at PI
            have HPI := Lib.hid PI
            have HB10 := Lib.hid (HB9.out.trans (hz10.mono HB9.out.size))
            clear PI ho10 hb10 hz10
            go_wp2_with fail
            refine HPI.out.mono ?_
            rintro e w11 ⟨rfl, hb11⟩
            have HB11 := Lib.hid (HB10.out.trans (hb11.mono HB10.out.size))
            have HAL := Lib.hid (alive_any w11)
            clear hb11
            go_wp2_with fail
            refine HAL.out.mono ?_
            rintro e w12 ⟨rfl, hb12⟩
            have HB12 := Lib.hid (HB11.out.trans (hb12.mono HB11.out.size))
            clear hb12
            go_wp2_with fail
            go_ret
            exact ⟨ret_bool (by simp), HWV.out.trans (HB12.out.mono HWV.out.size)⟩
  · rw [h9] at RF
    have hne : ¬ Formula.check u0 x0 = 0 := by rw [h9]; decide
    simp only [if_neg hne] at CL SU PU
    have HCL := Lib.hid CL
    have HSU := Lib.hid SU
    have HRF := Lib.hid RF
    have HPU := Lib.hid PU
    clear CL SU RF PU h9 hne HOK H9
    go_enter Try.func3, Try.ntmps3
    go_wp2_with fail
    refine HCL.out.mono ?_
    rintro e w2 ⟨rfl, hb2⟩
    obtain ⟨U2, hU2⟩ : ∃ U2, w2.alloc (.cells #[.int .i64 0, .slice none 0 0] 24) = U2 := ⟨_, rfl⟩
    obtain ⟨hn2, p20, p21, hz2⟩ := box_new w2 0 none 0 0 U2 hU2
    obtain ⟨y20, y21, y22, y23⟩ := box_zero w2 U2 hU2
    have hbV2 : Below V.heap.size V U2 := hb2.trans (hn2.mono hb2.size)
    have d0 := (hbV2.cell (p := ⟨W.heap.size, 0, none⟩) hzV).trans k0
    have d1 := (hbV2.cell (p := ⟨W.heap.size, 1, none⟩) hzV).trans k1
    have hzU2 : W.heap.size < U2.heap.size := Nat.lt_of_lt_of_le hzV hbV2.size
    have HB2 := Lib.hid hbV2
    clear hb2 hn2 hbV2 k0 k1 hV
    go_wp2_with fail
    refine (HSU.out U2 HB2.out).mono ?_
    rintro e w3 ⟨rfl, hb3⟩
    obtain ⟨U3, hU3⟩ : ∃ U3, w3.alloc (.cells #[.int .i64 0, .slice none 0 0] 24) = U3 := ⟨_, rfl⟩
    obtain ⟨hn3, p30, p31, hz3⟩ := box_new w3 0 none 0 0 U3 hU3
    obtain ⟨y30, y31, y32, y33⟩ := box_zero w3 U3 hU3
    have hb23 : Below U2.heap.size U2 U3 := hb3.trans (hn3.mono hb3.size)
    have hbx : Bx W.heap.size w2.heap.size w3.heap.size u0 a0 x0.length c0 0 none 0 0 0 none 0 0 U3 :=
      ⟨(hb23.cell (p := ⟨W.heap.size, 0, none⟩) hzU2).trans d0, (hb23.cell (p := ⟨W.heap.size, 1, none⟩) hzU2).trans d1, (hb23.cell (p := ⟨w2.heap.size, 0, none⟩) hz2).trans p20, (hb23.cell (p := ⟨w2.heap.size, 1, none⟩) hz2).trans p21, p30, p31, Nat.lt_of_lt_of_le hzU2 hb23.size, Nat.lt_of_lt_of_le hz2 hb23.size, hz3⟩
    have HB3 := Lib.hid (HB2.out.trans (hb23.mono HB2.out.size))
    have HBX := Lib.hid hbx
    have x10 := hbx.c10
    have x11 := hbx.c11
    clear hb3 hn3 hb23 d0 d1 hzU2 p20 p21 hz2 hz3 hbx hU2 y20 y21 y22 y23
    go_wp2_with fail
    refine (HRF.out U3 HB3.out).mono ?_
    rintro e w4 ⟨rfl, hb4⟩
    have HB4 := Lib.hid (HB3.out.trans (hb4.mono HB3.out.size))
    have HBX4 := Lib.hid (HBX.out.next hb4)
    clear hb4 x10 x11 hU3 y30 y31 y32 y33 p30 p31
    have k10 := HBX4.out.c10
    have k11 := HBX4.out.c11
    have k31 := HBX4.out.c31
    have k51 := HBX4.out.c51
    have HPH := Lib.hid (fun (U : World) (hU : Hd W.heap.size w2.heap.size w3.heap.size u0 a0 x0.length c0 w4 U) => (HPU.out U (HB4.out.trans (hU.below.mono HB4.out.size))).mono (fun e w' h => (⟨h.1, ⟨hU.below.trans (h.2.mono hU.below.size), hU.bx.next h.2⟩⟩ : e = .returned (.slice none 0 0) ∧ Hd W.heap.size w2.heap.size w3.heap.size u0 a0 x0.length c0 w4 w')))
    have HAH := Lib.hid (fun (U : World) (hU : Hd W.heap.size w2.heap.size w3.heap.size u0 a0 x0.length c0 w4 U) => (alive_any U).mono (fun e w' h => (⟨h.1, ⟨hU.below.trans (h.2.mono hU.below.size), hU.bx.next h.2⟩⟩ : e = .returned (.bool true) ∧ Hd W.heap.size w2.heap.size w3.heap.size u0 a0 x0.length c0 w4 w')))
    clear HCL HSU HRF HPU
    go_upto_region 4 with fail
    go_cut [2] (fun s wx => s = .bool true ∧ Below w4.heap.size w4 wx)
    case first =>
      go_region_held3 (fun w' => Hd W.heap.size w2.heap.size w3.heap.size u0 a0 x0.length c0 w4 w' ∧ w'.cell? ⟨W.heap.size, 0, none⟩ = some (.int .i64 u0) ∧ w'.cell? ⟨W.heap.size, 1, none⟩ = some (.slice a0 x0.length c0) ∧ w'.cell? ⟨w2.heap.size, 1, none⟩ = some (.slice none 0 0) ∧ w'.cell? ⟨w3.heap.size, 1, none⟩ = some (.slice none 0 0)) (first | exact hd_all (by assumption) | exact hd_first HBX4)
        (first | (go_at_call 11; refine (HPH.out _ (hd_in (by assumption))).mono ?_; rintro e w' ⟨rfl, hS'⟩) | (go_at_call 12; refine (HAH.out _ (hd_in (by assumption))).mono ?_; rintro e w' ⟨rfl, hS'⟩))
      all_goals (go_wp2_with fail; go_meet; exact ⟨rfl, (hd_in (by assumption)).below⟩)
    case rest =>
      obtain ⟨rfl, hbc⟩ := hcut
      go_wp2_with fail
      go_ret
      exact ⟨rfl, HWV.out.trans ((HB4.out.trans (hbc.mono HB4.out.size)).mono HWV.out.size)⟩
end Go.Proofs.Ythhkngpbaflfiaa.preprocCleans
