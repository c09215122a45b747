/-
  delta.Add: a clause more.
-/
import Derived.Test.YteamijldmhcicaaDeltaNew
import Derived.Test.YteamijldmhcicaaKeeps
import Derived.Test.YteamijldmhcicaaDeltaAt
import Derived.Test.YteamijldmhcicaaDelR
import Derived.Test.YteamijldmhcicaaCNorm
namespace Go.Proofs.Yteamijldmhcicaa
open Go.RowKit Base Own3N
set_option linter.unusedVariables false
set_option linter.unusedSimpArgs false
namespace Delta
open RefC (norm always)

def AddOut (w : World) (L : List (List (List Int))) (r : Int) (e : Ending) (w' : World) : Prop :=
  ∃ a' c' vs, e = .returned (.tuple #[.agg #[.slice a' L.length c'], .int .i64 r]) ∧ (∀ w2, Keeps w.heap.size w' w2 → Sl3 w2 a' L.length c' vs L) ∧ Below w.heap.size w w'

theorem eg_add : SlfR.Enters 21 := enters_of Try.func21 (by kernel_rfl) rfl

set_option maxHeartbeats 400000 in
theorem add1_any (w : World) (a : Option Addr) (n c : Nat) (x : List Int) (hsl : Sl w a n c (ints x)) (a2 : Option Addr) (n2 c2 : Nat) (ys : List Int) (hsl2 : Sl w a2 n2 c2 (ints ys)) (B : Nat) (hc : w.cell? ⟨B, 0, none⟩ = some (.slice a n c)) :
    Calls Try.prog 21 #[.slice a2 n2 c2, .pointer (some ⟨B, 0, none⟩)] w fun e w' => e = .returned (.bool (Clause.subs x ys)) ∧ Below w.heap.size w w' := by
  have H := Lib.hid (Clause.subsumes_any w a n c x hsl a2 n2 c2 ys hsl2)
  clear hsl hsl2
  go_enter Try.func21, Try.ntmps21
  go_wp2_with fail
  refine H.out.mono ?_
  rintro e w1 ⟨rfl, hb⟩
  go_wp2_with fail
  go_ret
  exact ⟨ret_bool rfl, hb⟩

theorem grown_undrew {w w1 : World} {ob : Option Nat} (h : w.drew.grownBy w1 ob) : w.grownBy w1 ob := ⟨h.os, h.tape, h.output, h.size, h.block⟩

/-- A level without what x says: the call. -/
theorem del_level {w4 wr U : World} (hU : U = wr ∨ U = wr.drew) (h4 : Below w4.heap.size w4 wr) {B G n : Nat} {vals : List Value} {F : List (List (List Int))} (hO : Own3 wr B G n 25 3 vals F) (hG : w4.heap.size ≤ G)
    {ax : Option Addr} {xl cx X : Nat} {x : List Int} (hx : Sl w4 ax xl cx (ints x)) (hX : X < w4.heap.size) (hc : w4.cell? ⟨X, 0, none⟩ = some (.slice ax xl cx))
    {i : Nat} {a7 : Option Addr} {c7 : Nat} {r : List (List Int)} (hv : vals[i]? = some (.slice a7 r.length c7)) (hr : F[i]? = some r) :
    Calls Try.prog 20 #[.slice a7 r.length c7, .func (.func 21) #[] #[.pointer (some ⟨X, 0, none⟩)]] U fun e w' => ∃ n' vs', e = .returned (.slice a7 n' c7) ∧
      Own2 w' B 25 3 (.slice a7 n' c7) n' vs' (r.filter fun y => !Clause.subs x y) ∧ wr.grownBy w' (Value.slice a7 r.length c7).ownBlock := by
  have hUb : Below wr.heap.size wr U := by
    rcases hU with rfl | rfl
    · exact Below.refl _ _
    · exact (Below.refl _ _).drew
  obtain ⟨a8, c8, vs8, e8, ho8⟩ := (hO.next hUb).lev i _ r hv hr
  simp only [Value.slice.injEq] at e8
  obtain ⟨rfl, _, rfl⟩ := e8
  have hBU : B ≤ U.heap.size := Nat.le_trans hO.bs hUb.size
  have h4U : Below w4.heap.size w4 U := h4.trans (hUb.mono h4.size)
  refine (DelR.delR_own U B a7 r.length c7 vs8 r ho8 hBU 21 #[.pointer (some ⟨X, 0, none⟩)] (Clause.subs x) eg_add ?_).mono ?_
  · intro W hW k v xs hvk hxk
    have h4W : Below w4.heap.size w4 W := h4U.grown hW (by have := hO.gB; omega) (fun k hk => by have := (ownblock_lt ho8.outer hk).1; have := hO.gB; omega)
    obtain ⟨ay, cy, rfl, hoy⟩ := DelR.rows_kept ho8 (by decide) hW k v xs hvk hxk
    exact add1_any W ax xl cx x (hx.next h4W) ay _ cy xs (Base.own_ints hoy) X ((h4W.cell (p := ⟨X, 0, none⟩) hX).trans hc)
  · rintro e w' ⟨n', vs', rfl, ho', hg'⟩
    refine ⟨n', vs', rfl, ho', ?_⟩
    rcases hU with rfl | rfl
    · exact hg'
    · exact grown_undrew hg'

theorem add_out {w : World} {L : List (List (List Int))} {r : Int} {m : Nat} (hm : L.length = m) {a' : Option Addr} {c' : Nat} {vs : List Value} {w' : World} (hs : ∀ w2, Keeps w.heap.size w' w2 → Sl3 w2 a' m c' vs L) (hb : Below w.heap.size w w') :
    AddOut w L r (.returned (.tuple #[.agg #[.slice a' m c'], .int .i64 r])) w' := by
  subst hm
  exact ⟨a', c', vs, rfl, hs, hb⟩

theorem sl3_nil (w : World) : Sl3 w none 0 0 [] [] := ⟨Sl.nil w, rfl, fun k v xss h => by simp at h⟩

/-- A cell below is written: what is read stands, but for it. -/
theorem ints_64 {l : List Int} (hw : Clause.Wf l) : Clause.Wf (norm l) := fun y hy => hw y (RefC.mem_norm.1 hy).1

set_option maxRecDepth 4000 in
set_option maxHeartbeats 16000000 in
theorem add_any (w : World) (a : Option Addr) (n c : Nat) (vs : List Value) (F : List (List (List Int))) (hsl : Sl3 w a n c vs F) (hn : n * 24 ≤ 140737488355328) (htot : F.flatten.length * 24 ≤ 140737488355328) (hlev : ∀ r ∈ F, (r.length + 1) * 24 ≤ 140737488355328) (hrow : ∀ r ∈ F, ∀ l ∈ r, l.length * 8 ≤ 140737488355328)
    (level : Int) (hv0 : -9223372036854775808 ≤ level) (hv1 : level ≤ 9223372036854775807) (al : Option Addr) (nl cl : Nat) (l : List Int) (hl : Sl w al nl cl (ints l)) (hlw : Clause.Wf l) (hln : nl * 8 ≤ 140737488355328) :
    Calls Try.prog 7 #[.agg #[.slice a n c], .int .i64 level, .slice al nl cl] w (AddOut w (add F level l).1 (add F level l).2) := by
  obtain rfl : F.length = n := hsl.len
  obtain ⟨W2, hW2⟩ : ∃ W2, (w.alloc (.cells #[.slice a F.length c] 24)).alloc (.cells #[.slice none 0 0] 24) = W2 := ⟨_, rfl⟩
  have h2 : Below w.heap.size w W2 := by rw [← hW2]; exact ((Below.refl _ _).alloc (Nat.le_refl _) _).alloc (by simp) _
  have k0 : W2.cell? ⟨w.heap.size, 0, none⟩ = some (.slice a F.length c) := by rw [← hW2]; simp [go_sem]
  have k1 : W2.cell? ⟨w.heap.size + 1, 0, none⟩ = some (.slice none 0 0) := by rw [← hW2]; simp [go_sem]
  have f1 : W2.frozen? ⟨w.heap.size + 1, 0, none⟩ = false := by rw [← hW2]; simp [go_sem]
  have z2 : W2.heap.size = w.heap.size + 2 := by rw [← hW2]; simp
  have HNM := Lib.hid (Clause.norm_any W2 al nl cl l (hl.next h2) hlw hln)
  have hcap := hsl.sl.cap
  have hbig := hsl.sl.big
  have HS := Lib.hid hsl
  have HN := Lib.hid hn
  have HT := Lib.hid htot
  have HLV := Lib.hid hlev
  have HRW := Lib.hid hrow
  have H2 := Lib.hid h2
  have HW2S : Hid (w.heap.size + 2 = W2.heap.size) := z2.symm
  have HADD : Hid (add F level l = if level < 0 ∨ (F.length : Int) ≤ level then ([], 4) else if always (norm l) = true then ([], 23) else if covered F level.toNat (norm l) = true then (F, 0) else (addL F level.toNat (norm l), 0)) := rfl
  generalize hR : add F level l = R at *
  clear hR hsl hn htot hlev hrow hl hlw hln h2
  generalize norm l = x at *
  generalize hxl : x.length = xl at *
  have HXL := Lib.hid hxl
  generalize hal : always x = alw at *
  have HAL := Lib.hid hal
  clear hxl hal
  go_enter Try.func7, Try.ntmps7
  go_wp2_with fail
  refine HNM.out.mono ?_
  rintro e w3 ⟨ax, cx, rfl, hox, hb3⟩
  rw [HXL.out, HAL.out] at *
  have p0 := (hb3.cell (p := ⟨w.heap.size, 0, none⟩) (by show w.heap.size < W2.heap.size; omega)).trans k0
  have p1 := (hb3.cell (p := ⟨w.heap.size + 1, 0, none⟩) (by show w.heap.size + 1 < W2.heap.size; omega)).trans k1
  have q1 := (hb3.frozen (p := ⟨w.heap.size + 1, 0, none⟩) (by show w.heap.size + 1 < W2.heap.size; omega)).trans f1
  have z3 : w.heap.size + 2 ≤ w3.heap.size := by have := hb3.size; omega
  obtain ⟨W4, hW4⟩ : ∃ W4, w3.alloc (.cells #[.slice ax xl cx] 25) = W4 := ⟨_, rfl⟩
  have hb4 : Below w3.heap.size w3 W4 := by rw [← hW4]; exact (Below.refl _ _).alloc (Nat.le_refl _) _
  have kX : W4.cell? ⟨w3.heap.size, 0, none⟩ = some (.slice ax xl cx) := by rw [← hW4]; simp
  have z4 : W4.heap.size = w3.heap.size + 1 := by rw [← hW4]; simp
  have s0 := (hb4.cell (p := ⟨w.heap.size, 0, none⟩) (by show w.heap.size < w3.heap.size; omega)).trans p0
  have s1 := (hb4.cell (p := ⟨w.heap.size + 1, 0, none⟩) (by show w.heap.size + 1 < w3.heap.size; omega)).trans p1
  have t1 := (hb4.frozen (p := ⟨w.heap.size + 1, 0, none⟩) (by show w.heap.size + 1 < w3.heap.size; omega)).trans q1
  have HX := Lib.hid ((Base.own_ints hox).next hb4)
  have HXO := Lib.hid (own_next hox hb4)
  have HB4 := Lib.hid (H2.out.trans ((hb3.trans (hb4.mono hb3.size)).mono H2.out.size))
  have HKX := Lib.hid kX
  clear hb3 hb4 hox p0 p1 q1 k0 k1 f1 z2 hW2 HNM
  by_cases hlv : level < 0 ∨ (F.length : Int) ≤ level
  · have hRR : R = ([], 4) := by rw [HADD.out, if_pos hlv]
    subst hRR
    clear HADD
    rcases hlv with h0 | h0
    all_goals
      go_wp2_with fail
      refine bodyPost_ret (v := .tuple #[.agg #[.slice none 0 0], .int .i64 4]) (by simp [results, Try.results7, go_sem, s1]) rfl ?_
      exact add_out rfl (fun w2 _ => sl3_nil w2) (HB4.out.setCell (by show w.heap.size ≤ w.heap.size + 1; omega) _)
  · have h0 : ¬ level < 0 := fun h => hlv (.inl h)
    have h1 : ¬ (F.length : Int) ≤ level := fun h => hlv (.inr h)
    rw [if_neg hlv] at HADD
    clear hlv
    cases alw
    · simp only [Bool.false_eq_true, if_false] at HADD
      obtain ⟨lev, rfl⟩ : ∃ lev : Nat, level = (lev : Int) := ⟨level.toNat, by omega⟩
      have hlt : lev < F.length := by omega
      simp only [Int.toNat_natCast] at HADD
      have HS4 := Lib.hid (HS.out.next HB4.out)
      have HCP := Lib.hid (copied_any W4 a F.length c vs F HS4.out HN.out (fun r hr => by have := HLV.out r hr; omega) HRW.out)
      go_wp2_with fail
      refine HCP.out.mono ?_
      rintro e w5 ⟨B, G, vals, rfl, hO5, hG5, hb5⟩
      obtain ⟨W6, hW6⟩ : ∃ W6, w5.alloc (.cells #[.slice (some ⟨G, 0, none⟩) F.length F.length] 24) = W6 := ⟨_, rfl⟩
      have hb6 : Below w5.heap.size w5 W6 := by rw [← hW6]; exact (Below.refl _ _).alloc (Nat.le_refl _) _
      have kM : W6.cell? ⟨w5.heap.size, 0, none⟩ = some (.slice (some ⟨G, 0, none⟩) F.length F.length) := by rw [← hW6]; simp
      have z6 : W6.heap.size = w5.heap.size + 1 := by rw [← hW6]; simp
      have hb46 : Below W4.heap.size W4 W6 := hb5.trans (hb6.mono hb5.size)
      have u0 := (hb46.cell (p := ⟨w.heap.size, 0, none⟩) (by show w.heap.size < W4.heap.size; omega)).trans s0
      have u1 := (hb46.cell (p := ⟨w.heap.size + 1, 0, none⟩) (by show w.heap.size + 1 < W4.heap.size; omega)).trans s1
      have y1 := (hb46.frozen (p := ⟨w.heap.size + 1, 0, none⟩) (by show w.heap.size + 1 < W4.heap.size; omega)).trans t1
      have uX := (hb46.cell (p := ⟨w3.heap.size, 0, none⟩) (by show w3.heap.size < W4.heap.size; omega)).trans HKX.out
      have hnoM : ∀ (i : Nat) (v : Value), vals[i]? = some v → v.ownBlock ≠ some w5.heap.size := by
        intro i v hv e
        obtain ⟨hi, _⟩ := List.getElem?_eq_some_iff.1 hv
        obtain ⟨_, _, _, rfl, ho⟩ := hO5.lev i v _ hv (List.getElem?_eq_getElem (by rw [hO5.len, ← hO5.sl.len]; exact hi))
        have := (ownblock_lt ho.outer e).2
        omega
      have HNOM := Lib.hid hnoM
      have HO6 := Lib.hid (hO5.next hb6)
      have HB46 := Lib.hid hb46
      have HG4 := Lib.hid hG5
      have HM4 : Hid (W4.heap.size ≤ w5.heap.size) := hb5.size
      have HMB : Hid (B ≤ w5.heap.size) := hO5.bs
      have COV := Lib.hid (covered_any W6 a F.length c vs F (HS4.out.next hb46) HT.out HRW.out (lev : Int) ax xl cx x (HX.out.next hb46))
      clear hO5 hG5 hb5 hb6 hb46 hnoM hW4 HCP s0 s1 t1 kX
      simp only [Int.toNat_natCast] at COV
      generalize hcv : covered F lev x = cv at *
      have HCV := Lib.hid hcv
      clear hcv
      go_wp2_with fail
      refine COV.out.mono ?_
      clear hW6
      rintro e w7 ⟨rfl, hb7⟩
      have v1 := (hb7.cell (p := ⟨w.heap.size + 1, 0, none⟩) (by show w.heap.size + 1 < W6.heap.size; have := HM4.out; omega)).trans u1
      have x1 := (hb7.frozen (p := ⟨w.heap.size + 1, 0, none⟩) (by show w.heap.size + 1 < W6.heap.size; have := HM4.out; omega)).trans y1
      have vM := (hb7.cell (p := ⟨w5.heap.size, 0, none⟩) (by show w5.heap.size < W6.heap.size; omega)).trans kM
      have HO7 := Lib.hid (HO6.out.next hb7)
      have HB47 := Lib.hid (HB46.out.trans (hb7.mono HB46.out.size))
      have HMlt : Hid (w5.heap.size < w7.heap.size) := by have := hb7.size; show _ < _; omega
      clear hb7 u0 u1 y1 uX kM
      cases cv
      · simp only [Bool.false_eq_true, if_false] at HADD
        have hRR : R = (addL F lev x, 0) := HADD.out
        subst hRR
        clear HADD
        have hN := HN.out
        have HV1 := Lib.hid v1
        have HX1 := Lib.hid x1
        have HBIG : Hid (W4.heap.size = w3.heap.size + 1 ∧ w.heap.size + 2 ≤ w3.heap.size) := ⟨z4, z3⟩
        clear v1 x1
        go_wp2_with fail
        go_loopw [40] (fun s40 wr => ∃ (i : Nat) (vals2 : List Value), i ≤ lev + 1 ∧ s40 = .int .i64 i ∧ Hid (Own3 wr B G F.length 25 3 vals2 (cut F x i)) ∧ Hid (LowKept B G w7 wr) ∧ Hid (∀ (k : Nat) (v : Value), vals2[k]? = some v → v.ownBlock ≠ some w5.heap.size) ∧
          Hid (wr.cell? ⟨w5.heap.size, 0, none⟩ = some (.slice (some ⟨G, 0, none⟩) F.length F.length)) ∧ Hid (w5.heap.size < wr.heap.size)) (fun s40 _ => lev + 1 - (intOf s40).toNat)
        case atStart =>
          refine ⟨0, vals, by omega, by go_num, ?_, LowKept.refl HO7.out.bs, HNOM.out, vM, HMlt.out⟩
          rw [cut_zero]
          exact HO7.out
        case round =>
          obtain ⟨i, vals2, hi, rfl, hown, hlow, hnom, hkM, hsz⟩ := hrel
          by_cases hlt : i < lev + 1
          · have hin : i < F.length := by omega
            have hltI : (i : Int) < (lev : Int) + 1 := by omega
            obtain ⟨b, o, v, ha, hbl, hvk, hci⟩ := hown.out.sl.at hin
            simp only [Option.some.injEq, Addr.mk.injEq] at ha
            obtain ⟨rfl, rfl, _⟩ := ha
            rw [Nat.zero_add] at hci
            have hcutat := cut_at (F := F) (x := x) hin
            obtain ⟨a7, c7, vs7, rfl, ho7⟩ := hown.out.lev i v _ hvk hcutat
            have hkX : w7.cell? ⟨w3.heap.size, 0, none⟩ = some (.slice ax xl cx) := (HB47.out.cell (p := ⟨w3.heap.size, 0, none⟩) (by have := HBIG.out; show w3.heap.size < W4.heap.size; omega)).trans HKX.out
            have HDEL : Hid (∀ U, U = wr ∨ U = wr.drew → _) := fun U hU => del_level hU (hlow.out.below HB47.out (Nat.le_of_lt (Nat.lt_of_le_of_lt HG4.out hown.out.gB)) HG4.out) hown.out HG4.out HX.out (by have := HBIG.out; show w3.heap.size < W4.heap.size; omega) HKX.out hvk hcutat
            have hobM : Hid ((Value.slice a7 F[i].length c7).ownBlock ≠ some w5.heap.size) := hnom.out i _ hvk
            have HOB : Hid (∀ k, (Value.slice a7 F[i].length c7).ownBlock = some k → B ≤ k) := fun k hk => (ownblock_lt ho7.outer hk).1
            have HVK := Lib.hid hvk
            have HCM := Lib.hid (cut_more (F := F) (x := x) hin)
            have hkM' := hkM.out
            have fGi := hown.out.fz i
            have kXr : wr.cell? ⟨w3.heap.size, 0, none⟩ = some (.slice ax xl cx) := by
              have hgB := hown.out.gB
              have hg4 := HG4.out
              have h4 := HBIG.out
              exact (hlow.out.cell (b := w3.heap.size) (by omega) (by omega) 0).trans hkX
            clear hvk ho7 hcutat hkX hbl
            generalize F[i].length = ri at *
            go_wp2_with fail
            go_region_law (first | (go_simp; go_at_call 20; refine (HDEL.out _ (by first | exact .inl rfl | exact .inr rfl)).mono ?_; rintro e w8 ⟨n8, vs8, rfl, ho8, hg8⟩; (have kM8 : w8.cell? ⟨w5.heap.size, 0, none⟩ = some (.slice (some ⟨G, 0, none⟩) F.length F.length) := (World.cell?_of_block (w := wr) (a := ⟨w5.heap.size, 0, none⟩) (hg8.block _ hsz.out (fun e => hobM.out e.symm))).trans hkM.out); (have fG8 : w8.frozen? ⟨G, i, none⟩ = false := (World.frozen?_of_block (w := wr) (a := ⟨G, i, none⟩) (hg8.block G (Nat.lt_of_lt_of_le hown.out.gB hown.out.bs) (fun e => by have := HOB.out G e.symm; have := hown.out.gB; omega))).trans fGi); (have kG8 : w8.cell? ⟨G, i, none⟩ = some (.slice a7 ri c7) := (World.cell?_of_block (w := wr) (a := ⟨G, i, none⟩) (hg8.block G (Nat.lt_of_lt_of_le hown.out.gB hown.out.bs) (fun e => by have := HOB.out G e.symm; have := hown.out.gB; omega))).trans hci)) | fail)
            all_goals
              obtain rfl : n8 = (F[i].filter fun y => !Clause.subs x y).length := ho8.len.symm
              have HPUT := Lib.hid (hown.out.put (by decide) hin HVK.out hg8 ho8 (.inl (by cases a7 <;> rfl)))
              rw [← HCM.out] at HPUT
              have HLOW := Lib.hid ((hlow.out.grown hg8 HOB.out).set i (.slice a7 (F[i].filter fun y => !Clause.subs x y).length c7))
              have HNM : Hid (∀ (k : Nat) (v : Value), (vals2.set i (.slice a7 (F[i].filter fun y => !Clause.subs x y).length c7))[k]? = some v → v.ownBlock ≠ some w5.heap.size) := by
                intro k v hv
                by_cases hk : k = i
                · subst hk
                  rw [List.getElem?_set_self (by have := (List.getElem?_eq_some_iff.1 HVK.out).1; exact this)] at hv
                  simp only [Option.some.injEq] at hv
                  subst hv
                  have := hobM.out
                  cases a7 <;> exact this
                · rw [List.getElem?_set_ne (fun e => hk e.symm)] at hv
                  exact hnom.out k v hv
              have HKM : Hid ((w8.setCell ⟨G, i, none⟩ (.slice a7 (F[i].filter fun y => !Clause.subs x y).length c7)).cell? ⟨w5.heap.size, 0, none⟩ = some (.slice (some ⟨G, 0, none⟩) F.length F.length)) := by
                refine (World.cell?_setCell_other _ _ _ _ (fun e => ?_)).trans kM8
                simp only [Addr.mk.injEq] at e
                have h1 := hown.out.gB
                have h2 := HO6.out.bs
                have h3 := HO6.out.gB
                have h4 := HMB.out
                omega
              have HSZ : Hid (w5.heap.size < (w8.setCell ⟨G, i, none⟩ (.slice a7 (F[i].filter fun y => !Clause.subs x y).length c7)).heap.size) := by
                have h1 := hg8.size
                have h2 := hsz.out
                show w5.heap.size < (w8.setCell _ _).heap.size
                simp only [World.setCell, Array.size_modify]
                omega
              clear ho8 hg8 kM8 fG8 kG8 hown hlow hnom hkM hsz hkM' fGi kXr hci
              go_wp2_with fail
              go_roundw
              case rel => exact ⟨i + 1, _, by omega, by go_num, HPUT.out, HLOW.out, HNM.out, HKM.out, HSZ.out⟩
              case measure => simp [intOf]; omega
          · have hie : i = lev + 1 := by omega
            subst hie
            have hltI : ¬ ((lev + 1 : Nat) : Int) < (lev : Int) + 1 := by omega
            have hin : lev < F.length := by omega
            obtain ⟨b, o, v, ha, hbl, hvk, hci⟩ := hown.out.sl.at hin
            simp only [Option.some.injEq, Addr.mk.injEq] at ha
            obtain ⟨rfl, rfl, _⟩ := ha
            rw [Nat.zero_add] at hci
            have hcutat := cut_last (F := F) (x := x) hin
            obtain ⟨a7, c7, vs7, rfl, ho7⟩ := hown.out.lev lev v _ hvk hcutat
            have HADDL : Hid (addL F lev x = (cut F x (lev + 1)).set lev ((F[lev].filter fun y => !Clause.subs x y) ++ [x])) := by
              show _ = _
              unfold addL
              rw [List.getD_eq_getElem?_getD, hcutat]
              rfl
            have hfl : ((F[lev].filter fun y => !Clause.subs x y).length + 1) * 24 ≤ 140737488355328 := by
              have h1 := HLV.out F[lev] (List.getElem_mem hin)
              have h2 := List.length_filter_le (fun y => !Clause.subs x y) F[lev]
              omega
            have hown' := hown.out.next ((Below.refl _ _).drew)
            have ho7' := ho7.next ((Below.refl _ _).drew)
            generalize (F[lev].filter fun y => !Clause.subs x y) = r at *
            have HXL2 : Hid (x.length = xl) := by have := HX.out.len; unfold ints at this; rw [List.length_map] at this; exact this
            obtain ⟨a9, c9, w9, hpush, hO9, hg9⟩ := run_pushS (t := 31) info1 Try.underlying31 wr.drew B (.slice a7 r.length c7) r.length vs7 r ho7' ax cx xl (by show B ≤ wr.heap.size; exact hown.out.bs) hfl (by omega)
            have HG4B := hown.out.gB
            have HG44 := HG4.out
            have hbig4 := HBIG.out
            have hmb := HMB.out
            have hsz' := hsz.out
            have hGs : G < wr.heap.size := Nat.lt_of_lt_of_le HG4B hown.out.bs
            have kX7 : w7.cell? ⟨w3.heap.size, 0, none⟩ = some (.slice ax xl cx) := (HB47.out.cell (p := ⟨w3.heap.size, 0, none⟩) (by show w3.heap.size < W4.heap.size; omega)).trans HKX.out
            have kXr : wr.cell? ⟨w3.heap.size, 0, none⟩ = some (.slice ax xl cx) := (hlow.out.cell (b := w3.heap.size) (by omega) (by omega) 0).trans kX7
            have kMr := hkM.out
            have hob9 : ∀ k, (Value.slice a7 r.length c7).ownBlock = some k → B ≤ k := fun k hk => (ownblock_lt ho7.outer hk).1
            have hne9 : (Value.slice a7 r.length c7).ownBlock ≠ some w5.heap.size := hnom.out lev _ hvk
            have kM9 : w9.cell? ⟨w5.heap.size, 0, none⟩ = some (.slice (some ⟨G, 0, none⟩) F.length F.length) := (World.cell?_of_block (w := wr) (a := ⟨w5.heap.size, 0, none⟩) (hg9.block _ (by show w5.heap.size < wr.heap.size; omega) (fun e => hne9 e.symm))).trans kMr
            have fG9 : w9.frozen? ⟨G, lev, none⟩ = false := (World.frozen?_of_block (w := wr) (a := ⟨G, lev, none⟩) (hg9.block G (by show G < wr.heap.size; omega) (fun e => by have := hob9 G e.symm; omega))).trans (hown.out.fz lev)
            have kG9 : w9.cell? ⟨G, lev, none⟩ = some (.slice a7 r.length c7) := (World.cell?_of_block (w := wr) (a := ⟨G, lev, none⟩) (hg9.block G (by show G < wr.heap.size; omega) (fun e => by have := hob9 G e.symm; omega))).trans hci
            have HXX := HX
            obtain rfl : x.length = xl := HXL2.out
            obtain ⟨hS3, hB9⟩ := hown'.put_high (N := w.heap.size + 2) (by decide) hin hvk ho7' hg9 hO9 HX.out ((hlow.out.below HB47.out (by omega) HG44).drew) HG44 (by omega) (by omega) (fun b' o e hne => by
              obtain ⟨g, e2, hg, _⟩ := Set1.own_place HXO.out (List.length_pos_iff.2 hne)
              rw [e2] at e
              simp only [Option.some.injEq, Addr.mk.injEq] at e
              obtain ⟨rfl, _, _⟩ := e
              have := HW2S.out
              omega)
            rw [← HADDL.out] at hS3
            have v1r := (hlow.out.cell (b := w.heap.size + 1) (by omega) (by omega) 0).trans HV1.out
            have x1r := (hlow.out.frozen (b := w.heap.size + 1) (by omega) (by omega) 0).trans HX1.out
            have v19 : w9.cell? ⟨w.heap.size + 1, 0, none⟩ = some (.slice none 0 0) := (World.cell?_of_block (w := wr) (a := ⟨w.heap.size + 1, 0, none⟩) (hg9.block (w.heap.size + 1) (by show w.heap.size + 1 < wr.heap.size; omega) (fun e => by have := hob9 _ e.symm; omega))).trans v1r
            have x19 : w9.frozen? ⟨w.heap.size + 1, 0, none⟩ = false := (World.frozen?_of_block (w := wr) (a := ⟨w.heap.size + 1, 0, none⟩) (hg9.block (w.heap.size + 1) (by show w.heap.size + 1 < wr.heap.size; omega) (fun e => by have := hob9 _ e.symm; omega))).trans x1r
            have HS3 := Lib.hid hS3
            have HB9 := Lib.hid hB9
            have hne1 : ¬ w.heap.size + 1 = G := by omega
            have hne2 : ¬ w5.heap.size = G := by omega
            clear hS3 hB9 hO9 hg9 hown hown' ho7 ho7' hvk hcutat hob9 hne9 v1r x1r hlow hnom hkM hsz kX7 HADDL
            generalize addL F lev x = FF at *
            have v1S : (w9.setCell ⟨G, lev, none⟩ (.slice a9 (r.length + 1) c9)).cell? ⟨w.heap.size + 1, 0, none⟩ = some (.slice none 0 0) := (World.cell?_setCell_other _ _ _ _ (fun e => by simp only [Addr.mk.injEq] at e; omega)).trans v19
            have x1S : (w9.setCell ⟨G, lev, none⟩ (.slice a9 (r.length + 1) c9)).frozen? ⟨w.heap.size + 1, 0, none⟩ = false := by rw [World.frozen?_setCell]; exact x19
            have kMS : (w9.setCell ⟨G, lev, none⟩ (.slice a9 (r.length + 1) c9)).cell? ⟨w5.heap.size, 0, none⟩ = some (.slice (some ⟨G, 0, none⟩) F.length F.length) := (World.cell?_setCell_other _ _ _ _ (fun e => by simp only [Addr.mk.injEq] at e; omega)).trans kM9
            go_wp2_with fail
            go_region_law (first | (refine step_run rfl rfl rfl rfl hpush ?_) | fail)
            all_goals
              clear hpush kM9 fG9 kG9 v19 x19 kXr kMr hci vM
              generalize w9.setCell ⟨G, lev, none⟩ (.slice a9 (r.length + 1) c9) = W10 at *
              go_wp2_with fail
              refine bodyPost_ret (v := .tuple #[.agg #[.slice (some ⟨G, 0, none⟩) F.length F.length], .int .i64 0]) (by simp [results, Try.results7, go_sem, v1S]) rfl ?_
              exact add_out (HS3.out _ (Keeps.refl _ _)).len (fun w2 hk => HS3.out w2 ((Keeps.set (by omega) _ _).trans (hk.mono (by omega)))) ((HB4.out.trans (HB9.out.mono HB4.out.size)).setCell (by show w.heap.size ≤ w.heap.size + 1; omega) _)
      · simp only [if_true] at HADD
        have hRR : R = (F, 0) := HADD.out
        subst hRR
        go_wp2_with fail
        refine bodyPost_ret (v := .tuple #[.agg #[.slice (some ⟨G, 0, none⟩) F.length F.length], .int .i64 0]) (by simp [results, Try.results7, go_sem, v1]) rfl ?_
        have hgB := HO7.out.gB
        have hg4 := HG4.out
        have hx4 := HM4.out
        exact add_out rfl (fun w2 hk => (HO7.out.keeps (N := w.heap.size + 2) ((Keeps.set (by omega) _ _).trans (hk.mono (by omega))) (by omega) (by omega)).sl3) ((HB4.out.trans (HB47.out.mono HB4.out.size)).setCell (by show w.heap.size ≤ w.heap.size + 1; omega) _)
    · simp only [if_true] at HADD
      have hRR : R = ([], 23) := HADD.out
      subst hRR
      go_wp2_with fail
      refine bodyPost_ret (v := .tuple #[.agg #[.slice none 0 0], .int .i64 23]) (by simp [results, Try.results7, go_sem, s1]) rfl ?_
      exact add_out rfl (fun w2 _ => sl3_nil w2) (HB4.out.setCell (by show w.heap.size ≤ w.heap.size + 1; omega) _)

end Delta
end Go.Proofs.Yteamijldmhcicaa
