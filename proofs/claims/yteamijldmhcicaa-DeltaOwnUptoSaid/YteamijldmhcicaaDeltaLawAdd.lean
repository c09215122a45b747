/-
  interlocklaw22.add: a clause more, by the law.
-/
import Derived.Test.YteamijldmhcicaaOwnF
import Derived.Test.YteamijldmhcicaaDeltaH
import Derived.Test.YteamijldmhcicaaDeltaAgain
import Derived.Test.YteamijldmhcicaaNorm
import Derived.Test.YteamijldmhcicaaRefSubs
namespace Go.Proofs.Yteamijldmhcicaa
open Go.RowKit Base Own3N Set1
set_option linter.unusedVariables false
set_option linter.unusedSimpArgs false
namespace Delta

/-- w2 is as w, but for one block. -/
structure Off (b : Nat) (w w2 : World) : Prop where
  size : w.heap.size ≤ w2.heap.size
  block : ∀ k, k < w.heap.size → k ≠ b → w2.heap[k]? = w.heap[k]?

theorem Off.of {b : Nat} {w w2 : World} (h : Below w.heap.size w w2) : Off b w w2 := ⟨h.size, fun k hk _ => h.block k hk⟩

theorem Off.set {b : Nat} {w w2 : World} (h : Off b w w2) (j : Nat) (u : Value) : Off b w (w2.setCell ⟨b, j, none⟩ u) := by
  refine ⟨by simpa [World.setCell] using h.size, fun k hk hne => ?_⟩
  simp only [World.setCell, Array.getElem?_modify]
  rw [if_neg (fun e => hne e.symm)]
  exact h.block k hk hne

def IntsO (b : Nat) (w : World) (v : Value) (l : List Int) : Prop := ∀ w2, Off b w w2 → IntsV w2 v l

theorem intsO_low {b : Nat} {w wb : World} {v : Value} {l : List Int} (h : IntsV w v l) (hb : Below w.heap.size w wb) (hn : w.heap.size ≤ b) : IntsO b wb v l := by
  intro w2 ho
  obtain ⟨a, c, rfl, hs⟩ := h
  refine ⟨a, c, rfl, sl_keeps (N := 0) hs ⟨Nat.le_trans hb.size ho.size, fun k _ hk => ?_⟩ (fun _ _ _ _ => Nat.zero_le _)⟩
  exact (ho.block k (Nat.lt_of_lt_of_le hk hb.size) (by omega)).trans (hb.block k hk)

theorem intsO_own {b B : Nat} {wb : World} {e : TypeId} {a : Option Addr} {c : Nat} {l : List Int} (h : wb.ownsRow B e 1 (.slice a l.length c) l.length (ints l)) (hB : b < B) : IntsO b wb (.slice a l.length c) l := by
  intro w2 ho
  refine ⟨a, c, rfl, Base.own_ints (B := B) (e := e) (c := c) ?_⟩
  refine ⟨h.1, ?_⟩
  rcases h.2 with hn | ⟨g, cap, cur, hv, hg, hh, r⟩
  · exact .inl hn
  · exact .inr ⟨g, cap, cur, hv, hg, by rw [ho.block g (Array.getElem?_eq_some_iff.1 hh).1 (by omega)]; exact hh, r⟩

/-- Cells that hold such rows, whatever is written in one block. -/
def RowsO (b : Nat) (w : World) (us : List Value) (L : List (List Int)) : Prop := us.length = L.length ∧ ∀ (k : Nat) (v : Value) (l : List Int), us[k]? = some v → L[k]? = some l → IntsO b w v l

theorem RowsO.snoc {b : Nat} {w : World} {us : List Value} {L : List (List Int)} (h : RowsO b w us L) {v : Value} {l : List Int} (hv : IntsO b w v l) : RowsO b w (us ++ [v]) (L ++ [l]) := by
  refine ⟨by simp [h.1], fun k v' l' hk hl => ?_⟩
  by_cases hkk : k < us.length
  · rw [List.getElem?_append_left hkk] at hk
    rw [List.getElem?_append_left (by rw [← h.1]; exact hkk)] at hl
    exact h.2 k v' l' hk hl
  · rw [List.getElem?_append_right (by omega)] at hk
    rw [List.getElem?_append_right (by rw [← h.1]; omega), ← h.1] at hl
    have e : k - us.length = 0 := by
      have := (List.getElem?_eq_some_iff.1 hk).1
      simpa using this
    rw [e] at hk hl
    simp at hk hl
    subst hk; subst hl
    exact hv

/-- A level of the call's own, its rows lying in an elder world. -/
def LowLev (b : Nat) (Wb : World) (B : Nat) (e1 : TypeId) (w : World) (x : Value) (xss : List (List Int)) : Prop := ∃ a c us, x = .slice a xss.length c ∧ w.ownsRow B e1 1 (.slice a xss.length c) xss.length us ∧ RowsO b Wb us xss

theorem low_stays {b : Nat} {Wb : World} {B : Nat} {e1 e2 : TypeId} (h12 : e1 ≠ e2) : Stays (LowLev b Wb B e1) e2 B :=
  ⟨fun ⟨a, c, us, e, h, hr⟩ hb => ⟨a, c, us, e, own_next h hb, hr⟩,
   fun ⟨a, c, us, e, h, hr⟩ ho hg => ⟨a, c, us, e, h.kept hg (own_apart h ho h12), hr⟩,
   fun ⟨a, c, us, e, h, hr⟩ hl => ⟨a, c, us, e, ownsRow_setCell_below h hl _, hr⟩,
   fun ⟨a, c, us, e, _⟩ => by rw [e]; rfl⟩

theorem low_sl3 {b : Nat} {Wb w : World} {B : Nat} {e1 e2 : TypeId} {a : Option Addr} {n c : Nat} {vals : List Value} {F : List (List (List Int))} (h : Full (LowLev b Wb B e1) w B e2 (.slice a n c) n vals F) (hb : Off b Wb w) : Sl3 w a n c vals F := by
  obtain ⟨a', c', hv, hs⟩ := own_sl h.outer
  simp only [Value.slice.injEq] at hv
  obtain ⟨rfl, _, rfl⟩ := hv
  exact ⟨hs, h.len, fun k v xss hv hx => by
    obtain ⟨a1, c1, us, rfl, ho, hr⟩ := h.lev k v xss hv hx
    obtain ⟨a2, c2, hv2, hs2⟩ := own_sl ho
    simp only [Value.slice.injEq] at hv2
    obtain ⟨rfl, _, rfl⟩ := hv2
    exact ⟨a1, c1, us, rfl, hs2, rfl, fun j y ys hy hys => hr.2 j y ys hy hys w hb⟩⟩

/-- What is taken of a level's first j clauses. -/
def prt (r : List (List Int)) (X : List Int) (up : Bool) (j : Nat) : List (List Int) := (r.take j).filter fun y => up || !Clause.subs X y

theorem prt_more {r : List (List Int)} {X : List Int} {up : Bool} {j : Nat} (hj : j < r.length) : prt r X up (j + 1) = prt r X up j ++ (if (up || !Clause.subs X r[j]) = true then [r[j]] else []) := by
  unfold prt
  rw [List.take_succ_eq_append_getElem hj, List.filter_append]
  congr 1
  simp only [List.filter_cons, List.filter_nil]

theorem prt_len (r : List (List Int)) (X : List Int) (up : Bool) (j : Nat) : (prt r X up j).length ≤ j := by
  unfold prt
  exact Nat.le_trans (List.length_filter_le _ _) (by simp; omega)

theorem prt_up (r : List (List Int)) (X : List Int) : prt r X true r.length = r := by
  unfold prt; simp

theorem prt_down (r : List (List Int)) (X : List Int) : prt r X false r.length = r.filter fun y => !Clause.subs X y := by
  unfold prt; simp

theorem take_addL {F : List (List (List Int))} {lev : Nat} {X : List Int} (hl : lev < F.length) {i : Nat} (hi : i < F.length) :
    (addL F lev X).take (i + 1) = (addL F lev X).take i ++ [prt F[i] X (decide (lev < i)) F[i].length ++ (if i = lev then [X] else [])] := by
  have hi' : i < (addL F lev X).length := by rw [addL_len]; exact hi
  rw [List.take_succ_eq_append_getElem hi']
  congr 2
  have he : (addL F lev X)[i] = _ := Option.some.inj ((List.getElem?_eq_getElem hi').symm.trans (addL_get hl hi))
  rw [he]
  by_cases h1 : i < lev
  · rw [if_pos h1, if_neg (by omega), decide_eq_false (by omega), prt_down, List.append_nil]
  · by_cases h2 : i = lev
    · rw [if_neg h1, if_pos h2, if_pos h2, decide_eq_false (by omega), prt_down]
    · rw [if_neg h1, if_neg h2, if_neg h2, decide_eq_true (by omega), prt_up, List.append_nil]

theorem any_take {α : Type} {xs : List α} {p : α → Bool} {k : Nat} (hk : k < xs.length) (h : (xs.take k).any p = false) (hp : p xs[k] = false) : (xs.take (k + 1)).any p = false := by
  rw [List.take_succ_eq_append_getElem hk, List.any_append, h]; simp [hp]

def LawOut (w : World) (L : List (List (List Int))) (r : Int) (e : Ending) (w' : World) : Prop :=
  ∃ a' c' vs, e = .returned (.tuple #[.agg #[.slice a' L.length c'], .int .i64 r]) ∧ Sl3 w' a' L.length c' vs L ∧ Below w.heap.size w w'

theorem law_out {w : World} {L : List (List (List Int))} {r : Int} {m : Nat} (hm : L.length = m) {a' : Option Addr} {c' : Nat} {vs : List Value} {w' : World} (hs : Sl3 w' a' m c' vs L) (hb : Below w.heap.size w w') :
    LawOut w L r (.returned (.tuple #[.agg #[.slice a' m c'], .int .i64 r])) w' := by
  subst hm
  exact ⟨a', c', vs, rfl, hs, hb⟩

theorem info3 : (Try.prog.info? 31).map (fun i => (i.zero, i.size, i.bytes)) = some (some (.slice none 0 0), 1, 24) := by kernel_rfl

set_option maxRecDepth 8000 in
set_option maxHeartbeats 16000000 in
theorem lawAdd_any (w : World) (a : Option Addr) (n c : Nat) (vs : List Value) (F : List (List (List Int))) (hsl : Sl3 w a n c vs F) (hfit : Fits F)
    (level : Int) (hv0 : -9223372036854775808 ≤ level) (hv1 : level ≤ 9223372036854775807) (al : Option Addr) (nl cl : Nat) (l : List Int) (hl : Sl w al nl cl (ints l)) (hlw : Clause.Wf l) (hln : nl ≤ 1048576) :
    Calls Try.prog 14 #[.agg #[.slice a n c], .int .i64 level, .slice al nl cl] w (LawOut w (add F level l).1 (add F level l).2) := by
  obtain rfl : F.length = n := hsl.len
  obtain ⟨W2, hW2⟩ : ∃ W2, (w.alloc (.cells #[.slice a F.length c] 24)).alloc (.cells #[.slice none 0 0] 24) = W2 := ⟨_, rfl⟩
  have h2 : Below w.heap.size w W2 := by rw [← hW2]; exact ((Below.refl _ _).alloc (Nat.le_refl _) _).alloc (by simp) _
  have k0 : W2.cell? ⟨w.heap.size, 0, none⟩ = some (.slice a F.length c) := by rw [← hW2]; simp [go_sem]
  have k1 : W2.cell? ⟨w.heap.size + 1, 0, none⟩ = some (.slice none 0 0) := by rw [← hW2]; simp [go_sem]
  have f1 : W2.frozen? ⟨w.heap.size + 1, 0, none⟩ = false := by rw [← hW2]; simp [go_sem]
  have z2 : W2.heap.size = w.heap.size + 2 := by rw [← hW2]; simp
  have HNM := Lib.hid (RefC.norm_any W2 al nl cl l (hl.next h2) hlw (by omega))
  have hcap := hsl.sl.cap
  have hbig := hsl.sl.big
  have HSW := Lib.hid hsl
  have HS := Lib.hid (hsl.next h2)
  have HFIT := Lib.hid hfit
  have H2 := Lib.hid h2
  have HADD : Hid (add F level l = if level < 0 ∨ (F.length : Int) ≤ level then ([], 4) else if RefC.always (RefC.norm l) = true then ([], 23) else if covered F level.toNat (RefC.norm l) = true then (F, 0) else (addL F level.toNat (RefC.norm l), 0)) := rfl
  generalize hR : add F level l = R at *
  clear hR hsl hfit hl hlw hln h2
  generalize RefC.norm l = x at *
  generalize hal : RefC.always x = alw at *
  have HAL := Lib.hid hal
  clear hal
  go_enter Try.func14, Try.ntmps14
  go_wp2_with fail
  refine HNM.out.mono ?_
  rintro e w3 ⟨ax, cx, rfl, hox, hb3⟩
  rw [HAL.out]
  have p0 := (hb3.cell (p := ⟨w.heap.size, 0, none⟩) (by show w.heap.size < W2.heap.size; omega)).trans k0
  have p1 := (hb3.cell (p := ⟨w.heap.size + 1, 0, none⟩) (by show w.heap.size + 1 < W2.heap.size; omega)).trans k1
  have q1 := (hb3.frozen (p := ⟨w.heap.size + 1, 0, none⟩) (by show w.heap.size + 1 < W2.heap.size; omega)).trans f1
  have z3 : w.heap.size + 2 ≤ w3.heap.size := by have := hb3.size; omega
  have HX3 := Lib.hid (Base.own_ints hox)
  have HXO3 : Hid (w3.ownsRow (w.heap.size + 2) 3 1 (.slice ax x.length cx) x.length (ints x)) := by show World.ownsRow _ _ _ _ _ _ _; rw [← z2]; exact hox
  have HB3 := Lib.hid (H2.out.trans (hb3.mono H2.out.size))
  have HS3 := Lib.hid (HS.out.next hb3)
  clear hb3 hox k0 k1 f1 z2 hW2 HNM
  by_cases hlv : level < 0 ∨ (F.length : Int) ≤ level
  · have hRR : R = ([], 4) := by rw [HADD.out, if_pos hlv]
    subst hRR
    clear HADD
    rcases hlv with h0 | h0
    all_goals
      go_wp2_with fail
      refine bodyPost_ret (v := .tuple #[.agg #[.slice none 0 0], .int .i64 4]) (by simp [results, Try.results14, go_sem, p1]) rfl ?_
      exact law_out rfl (sl3_nil _) (HB3.out.setCell (by show w.heap.size ≤ w.heap.size + 1; omega) _)
  · have h0 : ¬ level < 0 := fun h => hlv (.inl h)
    have h1 : ¬ (F.length : Int) ≤ level := fun h => hlv (.inr h)
    rw [if_neg hlv] at HADD
    clear hlv
    cases alw
    · obtain ⟨lev, rfl⟩ := Int.eq_ofNat_of_zero_le (Int.not_lt.1 h0)
      have hlev : lev < F.length := by omega
      simp only [Int.toNat_natCast, Bool.false_eq_true, if_false] at HADD
      have LA := lawAt_any w3 a _ c vs F HS3.out HFIT.out.tot (lev : Int) hv0 hv1
      rw [Int.toNat_natCast] at LA
      have HLA := Lib.hid LA
      clear LA
      go_wp2_with fail
      refine HLA.out.mono ?_
      rintro e w4 ⟨a4, c4, v4, rfl, hs4, hb4⟩
      have s0 := (hb4.cell (p := ⟨w.heap.size, 0, none⟩) (by show w.heap.size < w3.heap.size; omega)).trans p0
      have s1 := (hb4.cell (p := ⟨w.heap.size + 1, 0, none⟩) (by show w.heap.size + 1 < w3.heap.size; omega)).trans p1
      have t1 := (hb4.frozen (p := ⟨w.heap.size + 1, 0, none⟩) (by show w.heap.size + 1 < w3.heap.size; omega)).trans q1
      have z4 : w.heap.size + 2 ≤ w4.heap.size := by have := hb4.size; omega
      have HX4 := Lib.hid (HX3.out.next hb4)
      have HIX := Lib.hid (intsO_own (b := w.heap.size + 1) (own_next HXO3.out hb4) (by omega))
      have HB4 := Lib.hid (HB3.out.trans (hb4.mono HB3.out.size))
      have HS4 := Lib.hid (HS3.out.next hb4)
      have HH4 := Lib.hid hs4
      have hcap4 := hs4.sl.cap
      have hbig4 := hs4.sl.big
      have HCOV : Hid (covered F lev x = (atL F lev).any fun y => Clause.subs y x) := rfl
      clear hs4 hb4 p0 p1 q1 h0 h1 HLA
      generalize covered F lev x = cv at *
      generalize atL F lev = H at *
      go_wp2_with fail
      go_loopw [11] (fun s wr => ∃ i : Nat, i ≤ H.length ∧ s = .int .i64 i ∧ Hid ((H.take i).any (fun y => Clause.subs y x) = false) ∧ wr = w4) (fun s _ => H.length - (intOf s).toNat)
      case atStart => exact ⟨0, Nat.zero_le _, rfl, rfl, rfl⟩
      case round =>
        obtain ⟨i, hi, rfl, hI, rfl⟩ := hrel
        by_cases hlt : i < H.length
        · obtain ⟨b5, o5, a5, c5, hx5, rfl, hgs5, hc5, hs5, _⟩ := HH4.out.at hlt
          have SB := Lib.hid (RefC.subs_any wr a5 _ c5 H[i] hs5 ax _ cx x HX4.out)
          clear hs5
          cases hq : Clause.subs H[i] x
          · rw [hq] at SB
            have HQ := Lib.hid hq
            clear hq
            go_wp2_with fail
            refine SB.out.mono ?_
            rintro e w5 ⟨rfl, rfl⟩
            go_wp2_with fail
            go_roundw
            case rel => exact ⟨i + 1, by omega, by go_num, any_take hx5 hI.out HQ.out, trivial⟩
            case measure => simp [intOf]; omega
          · rw [hq] at SB
            have HC : Hid (cv = true) := HCOV.out.trans (List.any_eq_true.2 ⟨_, List.getElem_mem hx5, hq⟩)
            rw [if_pos HC.out] at HADD
            have hRR : R = (F, 0) := HADD.out
            subst hRR
            clear hq HADD
            go_wp2_with fail
            refine SB.out.mono ?_
            rintro e w5 ⟨rfl, rfl⟩
            go_wp2_with fail
            have k9 : (wr.setCell ⟨w.heap.size + 1, 0, none⟩ (.slice a F.length c)).cell? ⟨w.heap.size + 1, 0, none⟩ = some (.slice a F.length c) := World.cell?_setCell_same _ _ _ s1
            refine bodyPost_ret (v := .tuple #[.agg #[.slice a F.length c], .int .i64 0]) (by simp [results, Try.results14, go_sem, k9]) rfl ?_
            have hbz : Below w.heap.size w (wr.setCell ⟨w.heap.size + 1, 0, none⟩ (.slice a F.length c)) := HB4.out.setCell (by show w.heap.size ≤ w.heap.size + 1; omega) _
            exact law_out rfl (HSW.out.next hbz) hbz
        · have HC : Hid (cv = false) := by
            have h := hI.out
            rw [List.take_of_length_le (by omega)] at h
            exact HCOV.out.trans h
          have HADD' : Hid (R = (addL F lev x, 0)) := by have h := HADD.out; rw [HC.out] at h; exact h
          have hRR := HADD'.out
          subst hRR
          clear HADD HADD' HC HCOV
          obtain ⟨W5, hW5⟩ : ∃ W5, wr.alloc (.cells #[.slice none 0 0] 24) = W5 := ⟨_, rfl⟩
          obtain ⟨hb5, k5, f5, z5⟩ := box_frames wr none 0 0 W5 hW5
          have n5 := box_none wr W5 hW5
          have s05 := (hb5.cell (p := ⟨w.heap.size, 0, none⟩) (by show w.heap.size < wr.heap.size; omega)).trans s0
          have s15 := (hb5.cell (p := ⟨w.heap.size + 1, 0, none⟩) (by show w.heap.size + 1 < wr.heap.size; omega)).trans s1
          have t15 := (hb5.frozen (p := ⟨w.heap.size + 1, 0, none⟩) (by show w.heap.size + 1 < wr.heap.size; omega)).trans t1
          have HB5 := Lib.hid hb5
          have HLEV := Lib.hid hlev
          clear hb5
          go_wp2_with fail
          generalize wr = wb at *
          clear hW5 hlt hi n5
          go_loopw [13] (fun s wr => ∃ i : Nat, i ≤ F.length ∧ s = .int .i64 i ∧ ∃ a6 c6 vals, wr.cell? ⟨wb.heap.size, 0, none⟩ = some (.slice a6 i c6) ∧ wr.frozen? ⟨wb.heap.size, 0, none⟩ = false ∧ Hid (Full (LowLev (w.heap.size + 1) wb (wb.heap.size + 1) 25) wr (wb.heap.size + 1) 31 (.slice a6 i c6) i vals ((addL F lev x).take i)) ∧ Hid (Below wb.heap.size wb wr)) (fun s _ => F.length - (intOf s).toNat)
          case atStart => exact ⟨0, Nat.zero_le _, rfl, none, 0, [], k5, f5, by show Full _ _ _ _ _ _ _ _; simpa using Full.nil _ _ _, HB5.out⟩
          case round =>
            obtain ⟨i, hi, rfl, a6, c6, vals, kM, fM, hfull, hbr⟩ := hrel
            have gf := (hbr.out.cell (p := ⟨w.heap.size, 0, none⟩) (by show w.heap.size < wb.heap.size; omega)).trans s0
            have hbw : Below w.heap.size w wr := HB4.out.trans (hbr.out.mono HB4.out.size)
            have hMr : wb.heap.size < wr.heap.size := (Open.cell_block kM).2
            by_cases hlt : i < F.length
            · obtain ⟨b7, o7, a7, c7, vs7, hx7, rfl, hgs7, hc7, hs7, _⟩ := HSW.out.at hlt
              have kr7 := (hbw.cell (p := ⟨b7, o7 + i, none⟩) hgs7).trans hc7
              have HS7 := Lib.hid hs7
              have hcap7 := hs7.sl.cap
              have hbig7 := hs7.sl.big
              have HTA := Lib.hid (take_addL (X := x) HLEV.out hx7)
              have HRL : Hid ((F[i].length + 1) * 24 ≤ 140737488355328) := HFIT.out.lev _ (List.getElem_mem hx7)
              have HFN : Hid (F.length * 24 ≤ 140737488355328) := HFIT.out.n
              clear hs7 hc7
              generalize hr : F[i] = r at *
              go_wp2_with fail
              generalize wr = wq at *
              obtain ⟨Nq, hNq⟩ : ∃ Nq, Nq = wq.heap.size := ⟨_, rfl⟩
              have HNQ := Lib.hid hNq
              clear hNq hr
              generalize hup : decide (lev < i) = up at *
              have HUP := Lib.hid hup
              clear hup
              go_loopw [14, 15] (fun v s wr => ∃ j m : Nat, j ≤ r.length ∧ m ≤ j ∧ s = .int .i64 j ∧ ∃ a8 c8 us, v = .slice a8 m c8 ∧ Hid (wr.ownsRow Nq 25 1 (.slice a8 m c8) m us) ∧ Hid (RowsO (w.heap.size + 1) wb us (prt r x up j)) ∧ Hid (Below Nq wq wr)) (fun _ s _ => r.length - (intOf s).toNat)
              case atStart => exact ⟨0, 0, Nat.zero_le _, Nat.le_refl _, rfl, none, 0, [], rfl, World.ownsRow_nil _ _ _ _, ⟨rfl, fun k v l h => by simp at h⟩, Below.refl _ _⟩
              case round =>
                obtain ⟨j, m, hj, hmj, rfl, a8, c8, us, rfl, hown, hrv, hbq⟩ := hrel
                have hNW : wb.heap.size < Nq := by rw [HNQ.out]; exact hMr
                have hNr : Nq ≤ wr.heap.size := by rw [HNQ.out]; have := hbq.out.size; exact this
                have hbb : Below w.heap.size w wr := hbw.trans (hbq.out.mono (by omega))
                have hbx : Below wb.heap.size wb wr := hbr.out.trans (hbq.out.mono (Nat.le_of_lt hNW))
                have gr := (hbq.out.cell (p := ⟨w.heap.size, 0, none⟩) (by show w.heap.size < Nq; omega)).trans gf
                have krr := (hbq.out.cell (p := ⟨b7, o7 + i, none⟩) (by show b7 < Nq; omega)).trans kr7
                have HML : Hid (m = (prt r x up j).length) := by have h1 := hown.out.1; have h2 := hrv.out.1; show _ = _; omega
                by_cases hjl : j < r.length
                · obtain ⟨b9, o9, a9, c9, hxj, e9, hgs9, hc9, hs9, _⟩ := HS7.out.at hjl
                  subst e9
                  have kj := (hbb.cell (p := ⟨b9, o9 + j, none⟩) hgs9).trans hc9
                  have HPM := Lib.hid (prt_more (X := x) (up := up) hxj)
                  have HIV : Hid (IntsO (w.heap.size + 1) wb (.slice a9 r[j].length c9) r[j]) := intsO_low ⟨a9, c9, rfl, hs9⟩ HB4.out (by omega)
                  have SB := Lib.hid (RefC.subs_any wr ax _ cx x (HX4.out.next hbx) a9 _ c9 r[j] (hs9.next hbb))
                  have hml1 : (m + 1) * 24 ≤ 140737488355328 := by have := HRL.out; omega
                  have HSZ := Lib.hid hml1
                  clear hc9 hs9 hml1
                  cases up
                  · have hni : ¬ (lev : Int) < (i : Int) := by have := HUP.out; simp at this; omega
                    simp only [Bool.false_or] at HPM
                    cases hq : Clause.subs x r[j]
                    · rw [hq] at SB HPM
                      simp only [Bool.not_false, if_true] at HPM
                      clear hq
                      go_wp2_with fail
                      refine SB.out.mono ?_
                      rintro e w5 ⟨rfl, rfl⟩
                      go_wp2_with ((with_reducible refine wpL_push (B := Nq) (W := wq) wr (.slice a9 r[j].length c9) _ m us infoR Try.underlying31 ?_ ?_ ?_ ?_ ?_ hown.out ?_ ?_ ?_ hbq.out ?_); rfl; rfl; rfl; rfl; rfl; (exact hNr); (exact HSZ.out); (have := HSZ.out; omega); (intro a6 c6 w6 hown6 hb6 hsz6))
                      go_roundw
                      case rel => exact ⟨j + 1, m + 1, by omega, by omega, by go_num, a6, c6, _, rfl, hown6, by show RowsO _ _ _ _; rw [HPM.out]; exact hrv.out.snoc HIV.out, hb6⟩
                      case measure => simp [intOf]; omega
                    · rw [hq] at SB HPM
                      simp only [Bool.not_true, Bool.false_eq_true, if_false, List.append_nil] at HPM
                      clear hq
                      go_wp2_with fail
                      refine SB.out.mono ?_
                      rintro e w5 ⟨rfl, rfl⟩
                      go_wp2_with fail
                      go_roundw
                      case rel => exact ⟨j + 1, m, by omega, by omega, by go_num, a8, c8, us, rfl, hown.out, by show RowsO _ _ _ _; rw [HPM.out]; exact hrv.out, hbq.out⟩
                      case measure => simp [intOf]; omega
                  · have hni : (lev : Int) < (i : Int) := by have := HUP.out; simp at this; omega
                    simp only [Bool.true_or, if_true] at HPM
                    go_wp2_with ((with_reducible refine wpL_push (B := Nq) (W := wq) wr (.slice a9 r[j].length c9) _ m us infoR Try.underlying31 ?_ ?_ ?_ ?_ ?_ hown.out ?_ ?_ ?_ hbq.out ?_); rfl; rfl; rfl; rfl; rfl; (exact hNr); (exact HSZ.out); (have := HSZ.out; omega); (intro a6 c6 w6 hown6 hb6 hsz6))
                    go_roundw
                    case rel => exact ⟨j + 1, m + 1, by omega, by omega, by go_num, a6, c6, _, rfl, hown6, by show RowsO _ _ _ _; rw [HPM.out]; exact hrv.out.snoc HIV.out, hb6⟩
                    case measure => simp [intOf]; omega
                · have hje : j = r.length := by omega
                  subst hje
                  have kMr := (hbq.out.cell (p := ⟨wb.heap.size, 0, none⟩) (by show wb.heap.size < Nq; omega)).trans kM
                  have fMr := (hbq.out.frozen (p := ⟨wb.heap.size, 0, none⟩) (by show wb.heap.size < Nq; omega)).trans fM
                  have hFr := hfull.out.next (low_stays (by decide)) (by rw [← HNQ.out]; exact hbq.out)
                  have hn3 : (i + 1) * 24 ≤ 140737488355328 := by have := HFN.out; omega
                  have hm3 : (m + 1) * 24 ≤ 140737488355328 := by have := HRL.out; omega
                  have HN3 := Lib.hid hn3
                  have HM3 := Lib.hid hm3
                  have HFR := Lib.hid hFr
                  clear hn3 hm3 hFr
                  by_cases hil : i = lev
                  · have hilI : ((i : Int) == (lev : Int)) = true := by simp [hil]
                    rw [if_pos hil] at HTA
                    clear hil
                    have HPS : Hid (∀ (w5 : World) (a5 : Option Addr) (c5 : Nat), w5.ownsRow Nq 25 1 (.slice a5 (m + 1) c5) (m + 1) (us ++ [.slice ax x.length cx]) → LowLev (w.heap.size + 1) wb (wb.heap.size + 1) 25 w5 (.slice a5 (m + 1) c5) (prt r x up r.length ++ [x])) := by
                      intro w5 a5 c5 hown5
                      have h : m + 1 = (prt r x up r.length ++ [x]).length := by rw [List.length_append, ← HML.out]; rfl
                      have h5 := own_mono hown5 (show wb.heap.size + 1 ≤ Nq by omega)
                      rw [h] at h5 ⊢
                      exact ⟨a5, c5, _, rfl, h5, hrv.out.snoc HIX.out⟩
                    have HFS : Hid (∀ (w5 : World), Below Nq wq w5 → Full (LowLev (w.heap.size + 1) wb (wb.heap.size + 1) 25) w5 (wb.heap.size + 1) 31 (.slice a6 i c6) i vals ((addL F lev x).take i)) := by
                      intro w5 hb5
                      exact hfull.out.next (low_stays (by decide)) (by rw [← HNQ.out]; exact hb5)
                    go_wp2_with (first | ((with_reducible refine wpL_push (B := Nq) (W := wq) wr (.slice ax x.length cx) _ m us infoR Try.underlying31 ?_ ?_ ?_ ?_ ?_ hown.out ?_ ?_ ?_ hbq.out ?_); rfl; rfl; rfl; rfl; rfl; (exact hNr); (exact HM3.out); (have := HM3.out; omega); (intro a5 c5 w5 hown5 hb5 hsz5; (have kM5 := (hb5.cell (p := ⟨wb.heap.size, 0, none⟩) (by show wb.heap.size < Nq; omega)).trans kM); (have HQ := Lib.hid (HPS.out w5 a5 c5 hown5)); (have HFR5 := Lib.hid (HFS.out w5 hb5)); (have HBM : Hid (Below (wb.heap.size + 1) wq w5) := hb5.mono (by omega)); (have hz5 : wb.heap.size + 1 ≤ w5.heap.size := by omega))) | ((with_reducible refine wpL_pushQ (low_stays (by decide)) w5 _ _ _ i vals ((addL F lev x).take i) info3 Try.underlying22 ?_ ?_ ?_ HFR5.out HQ.out ?_ ?_ ?_ HBM.out ?_); rfl; rfl; rfl; exact hz5; exact HN3.out; (have := HN3.out; omega); (intro a6 c6 w6 hfull6 hb6 hsz6; (have kM6 := (hb6.cell (p := ⟨wb.heap.size, 0, none⟩) (by show wb.heap.size < wb.heap.size + 1; omega)).trans kM); (have fM6 := (hb6.frozen (p := ⟨wb.heap.size, 0, none⟩) (by show wb.heap.size < wb.heap.size + 1; omega)).trans fM))))
                    have hfl : w6.heap.size = (w6.setCell ⟨wb.heap.size, 0, none⟩ (.slice a6 (i + 1) c6)).heap.size := by simp [World.setCell]
                    have hbE : Below wb.heap.size wb (w6.setCell ⟨wb.heap.size, 0, none⟩ (.slice a6 (i + 1) c6)) := (hbr.out.trans (hb6.mono (Nat.le_succ _))).setCell (Nat.le_refl _) _
                    have HBE := Lib.hid hbE
                    have hFE := hfull6.low (low_stays (by decide)) (a := ⟨wb.heap.size, 0, none⟩) (by show wb.heap.size < wb.heap.size + 1; omega) (.slice a6 (i + 1) c6)
                    rw [← HTA.out] at hFE
                    have HFE := Lib.hid hFE
                    have kE : (w6.setCell ⟨wb.heap.size, 0, none⟩ (.slice a6 (i + 1) c6)).cell? ⟨wb.heap.size, 0, none⟩ = some (.slice a6 (i + 1) c6) := World.cell?_setCell_same _ _ _ kM6
                    have fE : (w6.setCell ⟨wb.heap.size, 0, none⟩ (.slice a6 (i + 1) c6)).frozen? ⟨wb.heap.size, 0, none⟩ = false := by rw [World.frozen?_setCell]; exact fM6
                    go_roundw
                    case rel => exact ⟨i + 1, by omega, by go_num, a6, c6, _, kE, fE, HFE.out, HBE.out⟩
                    case measure => simp [intOf]; omega
                  · have hilI : ((i : Int) == (lev : Int)) = false := by simp; omega
                    rw [if_neg hil, List.append_nil] at HTA
                    have HQ : Hid (LowLev (w.heap.size + 1) wb (wb.heap.size + 1) 25 wr (.slice a8 m c8) (prt r x up r.length)) := by
                      have h := HML.out
                      subst h
                      exact ⟨a8, c8, us, rfl, own_mono hown.out (by omega), hrv.out⟩
                    have HBM : Hid (Below (wb.heap.size + 1) wq wr) := hbq.out.mono (by omega)
                    go_wp2_with ((with_reducible refine wpL_pushQ (low_stays (by decide)) wr _ _ _ i vals ((addL F lev x).take i) info3 Try.underlying22 ?_ ?_ ?_ HFR.out HQ.out ?_ ?_ ?_ HBM.out ?_); rfl; rfl; rfl; omega; exact HN3.out; (have := HN3.out; omega); (intro a6 c6 w6 hfull6 hb6 hsz6; (have kM6 := (hb6.cell (p := ⟨wb.heap.size, 0, none⟩) (by show wb.heap.size < wb.heap.size + 1; omega)).trans kM); (have fM6 := (hb6.frozen (p := ⟨wb.heap.size, 0, none⟩) (by show wb.heap.size < wb.heap.size + 1; omega)).trans fM)))
                    have hfl : w6.heap.size = (w6.setCell ⟨wb.heap.size, 0, none⟩ (.slice a6 (i + 1) c6)).heap.size := by simp [World.setCell]
                    have hbE : Below wb.heap.size wb (w6.setCell ⟨wb.heap.size, 0, none⟩ (.slice a6 (i + 1) c6)) := (hbr.out.trans (hb6.mono (Nat.le_succ _))).setCell (Nat.le_refl _) _
                    have HBE := Lib.hid hbE
                    have hFE := hfull6.low (low_stays (by decide)) (a := ⟨wb.heap.size, 0, none⟩) (by show wb.heap.size < wb.heap.size + 1; omega) (.slice a6 (i + 1) c6)
                    rw [← HTA.out] at hFE
                    have HFE := Lib.hid hFE
                    have kE : (w6.setCell ⟨wb.heap.size, 0, none⟩ (.slice a6 (i + 1) c6)).cell? ⟨wb.heap.size, 0, none⟩ = some (.slice a6 (i + 1) c6) := World.cell?_setCell_same _ _ _ kM6
                    have fE : (w6.setCell ⟨wb.heap.size, 0, none⟩ (.slice a6 (i + 1) c6)).frozen? ⟨wb.heap.size, 0, none⟩ = false := by rw [World.frozen?_setCell]; exact fM6
                    go_roundw
                    case rel => exact ⟨i + 1, by omega, by go_num, a6, c6, _, kE, fE, HFE.out, HBE.out⟩
                    case measure => simp [intOf]; omega
            · have hie : i = F.length := by omega
              subst hie
              have s1r := (hbr.out.cell (p := ⟨w.heap.size + 1, 0, none⟩) (by show w.heap.size + 1 < wb.heap.size; omega)).trans s1
              have t1r := (hbr.out.frozen (p := ⟨w.heap.size + 1, 0, none⟩) (by show w.heap.size + 1 < wb.heap.size; omega)).trans t1
              have HTK : Hid ((addL F lev x).take F.length = addL F lev x) := List.take_of_length_le (by rw [addL_len]; exact Nat.le_refl _)
              have HLN : Hid ((addL F lev x).length = F.length) := addL_len _ _ _
              go_wp2_with fail
              have k9 : (wr.setCell ⟨w.heap.size + 1, 0, none⟩ (.slice a6 F.length c6)).cell? ⟨w.heap.size + 1, 0, none⟩ = some (.slice a6 F.length c6) := World.cell?_setCell_same _ _ _ s1r
              refine bodyPost_ret (v := .tuple #[.agg #[.slice a6 F.length c6], .int .i64 0]) (by simp [results, Try.results14, go_sem, k9]) rfl ?_
              have hF9 := hfull.out.low (low_stays (by decide)) (a := ⟨w.heap.size + 1, 0, none⟩) (by show w.heap.size + 1 < wb.heap.size + 1; omega) (.slice a6 F.length c6)
              rw [HTK.out] at hF9
              exact law_out HLN.out (low_sl3 hF9 ((Off.of hbr.out).set 0 _)) (hbw.setCell (by show w.heap.size ≤ w.heap.size + 1; omega) _)
    · simp only [if_true] at HADD
      have hRR : R = ([], 23) := HADD.out
      subst hRR
      go_wp2_with fail
      refine bodyPost_ret (v := .tuple #[.agg #[.slice none 0 0], .int .i64 23]) (by simp [results, Try.results14, go_sem, p1]) rfl ?_
      exact law_out rfl (sl3_nil _) (HB3.out.setCell (by show w.heap.size ≤ w.heap.size + 1; omega) _)

end Delta
end Go.Proofs.Yteamijldmhcicaa
