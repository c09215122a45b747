/-
  interlocklaw22.at, in, same: what holds at a level, by the law; is a model within clauses; are frames alike.
-/
import Derived.Test.YteamijldmhcicaaDeltaAt
import Derived.Test.YteamijldmhcicaaDeltaQ
import Derived.Test.YteamijldmhcicaaRefOne
import Derived.Test.YteamijldmhcicaaPlainLists
namespace Go.Proofs.Yteamijldmhcicaa
open Go.RowKit Base Own3N
set_option linter.unusedVariables false
set_option linter.unusedSimpArgs false
namespace Delta

theorem part_lev (F : List (List (List Int))) (lev : Nat) : part F lev lev = [] := by
  unfold part
  rw [List.drop_eq_nil_of_le (by simp; omega)]; rfl

theorem part_past {F : List (List (List Int))} {lev i : Nat} (h : F.length ≤ i) : part F lev i = atL F lev := by
  unfold part atL
  rw [List.take_of_length_le h]

/-- Cells that hold such rows. -/
def RowsV (w : World) (vs : List Value) (L : List (List Int)) : Prop := vs.length = L.length ∧ ∀ (k : Nat) (v : Value) (l : List Int), vs[k]? = some v → L[k]? = some l → IntsV w v l

theorem RowsV.app {w : World} {vs vs' : List Value} {L L' : List (List Int)} (h : RowsV w vs L) (h' : RowsV w vs' L') : RowsV w (vs ++ vs') (L ++ L') := by
  refine ⟨by simp [h.1, h'.1], fun k v l hv hl => ?_⟩
  by_cases hk : k < vs.length
  · rw [List.getElem?_append_left hk] at hv
    rw [List.getElem?_append_left (by rw [← h.1]; exact hk)] at hl
    exact h.2 k v l hv hl
  · rw [List.getElem?_append_right (by omega)] at hv
    rw [List.getElem?_append_right (by rw [← h.1]; omega), ← h.1] at hl
    exact h'.2 _ v l hv hl

theorem RowsV.one {w : World} {vs : List Value} {L : List (List Int)} (h : RowsV w vs L) : ∀ u ∈ vs, u.oneCell' = true := by
  intro u hu
  obtain ⟨k, hk, rfl⟩ := List.mem_iff_getElem.1 hu
  obtain ⟨a, c, e, _⟩ := h.2 k _ _ (List.getElem?_eq_getElem hk) (List.getElem?_eq_getElem (by rw [← h.1]; exact hk))
  rw [e]; rfl

theorem RowsV.of {w : World} {a : Option Addr} {n c : Nat} {vs : List Value} {L : List (List Int)} (h : Sl2 w a n c vs L) : RowsV w vs L := ⟨by rw [h.sl.len, h.len], h.row⟩

theorem RowsV.sl2 {w w' : World} {a : Option Addr} {n c : Nat} {vs : List Value} {L : List (List Int)} (h : RowsV w vs L) (hb : Below w.heap.size w w') (hs : Sl w' a n c vs) : Sl2 w' a n c vs L :=
  ⟨hs, by rw [← h.1]; exact hs.len, fun k v l hv hl => (h.2 k v l hv hl).below hb (Nat.le_refl _)⟩

set_option maxRecDepth 4000 in
set_option maxHeartbeats 8000000 in
theorem lawAt_any (w : World) (a : Option Addr) (n c : Nat) (vs : List Value) (F : List (List (List Int))) (hsl : Sl3 w a n c vs F) (htot : F.flatten.length * 24 ≤ 140737488355328) (level : Int) (hv0 : -9223372036854775808 ≤ level) (hv1 : level ≤ 9223372036854775807) :
    Calls Try.prog 10 #[.agg #[.slice a n c], .int .i64 level] w fun e w' => ∃ a' c' vals, e = .returned (.slice a' (atL F level.toNat).length c') ∧ Sl2 w' a' (atL F level.toNat).length c' vals (atL F level.toNat) ∧ Below w.heap.size w w' := by
  obtain rfl : F.length = n := hsl.len
  obtain ⟨W1, hW1⟩ : ∃ W1, w.alloc (.cells #[.slice a F.length c] 24) = W1 := ⟨_, rfl⟩
  have h1 : Below w.heap.size w W1 := by rw [← hW1]; exact (Below.refl _ _).alloc (Nat.le_refl _) _
  have k0 : W1.cell? ⟨w.heap.size, 0, none⟩ = some (.slice a F.length c) := by rw [← hW1]; simp [go_sem]
  have z1 : W1.heap.size = w.heap.size + 1 := by rw [← hW1]; simp
  have hcap := hsl.sl.cap
  have hbig := hsl.sl.big
  have hmax : max level 0 = ((level.toNat : Nat) : Int) := by omega
  have hmax2 : max 0 level = ((level.toNat : Nat) : Int) := by omega
  have HMX := Lib.hid hmax
  generalize level.toNat = lev at *
  have HLB : Hid (lev ≤ 9223372036854775807) := by show _ ≤ _; omega
  have HS := Lib.hid (hsl.next h1)
  have HT := Lib.hid htot
  have H1 := Lib.hid h1
  have HPL := Lib.hid (part_lev F lev)
  clear hsl htot h1 hmax2
  go_enter Try.func10, Try.ntmps10
  go_wp2_with fail
  all_goals
    clear hW1
    go_loopw [5, 6] (fun v s wr => ∃ i : Nat, lev ≤ i ∧ (i ≤ F.length ∨ i = lev) ∧ s = .int .i64 i ∧ ∃ m a' c' vals, v = .slice a' m c' ∧ Hid (wr.ownsRow W1.heap.size 25 1 (.slice a' m c') m vals) ∧ Hid (RowsV W1 vals (part F lev i)) ∧ Hid (Below W1.heap.size W1 wr)) (fun _ s _ => F.length - (intOf s).toNat)
    case atStart =>
      refine ⟨lev, Nat.le_refl _, .inr rfl, congrArg _ (by have := HMX.out; omega), 0, none, 0, [], rfl, World.ownsRow_nil _ _ _ _, ?_, Below.refl _ _⟩
      show RowsV _ _ _
      rw [HPL.out]
      exact ⟨rfl, fun k v l h => by simp at h⟩
    case round =>
      obtain ⟨i, hli, hi, rfl, m, a', c', vals, rfl, hown, hrv, hbr⟩ := hrel
      have HML : Hid (m = (part F lev i).length) := by have h1 := hown.out.1; have h2 := hrv.out.1; show _ = _; omega
      by_cases hlt : i < F.length
      · have kB := (hbr.out.cell (p := ⟨w.heap.size, 0, none⟩) (by show w.heap.size < W1.heap.size; omega)).trans k0
        obtain ⟨b5, o5, a5, c5, vs5, hx, rfl, hgs, hc, hs5, hv5⟩ := HS.out.at hlt
        have ki := (hbr.out.cell (p := ⟨b5, o5 + i, none⟩) hgs).trans hc
        have HS5 := Lib.hid (hs5.sl.next hbr.out)
        have HR5 := Lib.hid (RowsV.of hs5)
        have hcap5 := hs5.sl.cap
        have hbig5 := hs5.sl.big
        have HPN : Hid (part F lev (i + 1) = part F lev i ++ F[i]) := by have := part_next (lev := lev) hx; rw [if_pos hli] at this; exact this
        have HRM : Hid (m + F[i].length ≤ F.flatten.length) := by
          have h1 := part_len F lev (i + 1)
          rw [HPN.out, List.length_append, ← HML.out] at h1
          exact h1
        clear hc hs5 hv5
        generalize F[i] = r at *
        go_wp2_with ((with_reducible refine wpL_app (B := W1.heap.size) (W := W1) _ m vals a5 r.length c5 vs5 infoR Try.underlying31 ?_ ?_ ?_ HR5.out.one hown.out HS5.out hbr.out.size ?_ ?_ hbr.out ?_); rfl; rfl; rfl; (have h1 := HRM.out; have h2 := HT.out; omega); (have h1 := HRM.out; have h2 := HT.out; omega); (intro a3 c3 w3 hown3 hb3 hz3))
        go_roundw
        case rel => exact ⟨i + 1, by omega, .inl (by omega), by go_num, m + r.length, a3, c3, _, rfl, hown3, by show RowsV _ _ _; rw [HPN.out]; exact hrv.out.app HR5.out, hb3⟩
        case measure => simp [intOf]; omega
      · have kB := (hbr.out.cell (p := ⟨w.heap.size, 0, none⟩) (by show w.heap.size < W1.heap.size; omega)).trans k0
        have HPP := Lib.hid (part_past (lev := lev) (Nat.le_of_not_lt hlt))
        go_wp2_with fail
        go_ret
        obtain ⟨a6, c6, hv6, hs6⟩ := own_sl hown.out
        simp only [Value.slice.injEq] at hv6
        obtain ⟨rfl, _, rfl⟩ := hv6
        have hml := HML.out
        rw [HPP.out] at hml
        subst hml
        refine ⟨a', c', vals, rfl, ?_, H1.out.trans (hbr.out.mono H1.out.size)⟩
        have := hrv.out.sl2 hbr.out hs6
        rwa [HPP.out] at this

theorem inM_more {s : List UInt8} {L : List (List Int)} {k : Nat} (hk : k < L.length) (h : inM s (L.take k) = true) (hp : (L[k].any (CubeP.is s)) = true) : inM s (L.take (k + 1)) = true := by
  unfold inM at *
  rw [List.take_succ_eq_append_getElem hk, List.all_append, h]; simp [hp]

theorem inM_not {s : List UInt8} {L : List (List Int)} {k : Nat} (hk : k < L.length) (hp : (L[k].any (CubeP.is s)) = false) : inM s L = false := by
  unfold inM
  rw [List.all_eq_false]
  exact ⟨_, List.getElem_mem hk, by simp [hp]⟩

set_option maxHeartbeats 2000000 in
theorem in_any (w : World) (a : Option Addr) (n c : Nat) (vs : List Value) (L : List (List Int)) (hsl : Sl2 w a n c vs L) (hw : ∀ l ∈ L, Clause.Wf l) (s : ByteArray) (hs : s.size ≤ 9223372036854775807) :
    Calls Try.prog 8 #[.slice a n c, .string s] w fun e w' => e = .returned (.bool (inM s.data.toList L)) ∧ w = w' := by
  have HL := Lib.hid hsl.len
  have hcap := hsl.sl.cap
  have hbig := hsl.sl.big
  have HS := Lib.hid hsl
  have HR := Lib.hid (fun (x : List Int) (hm : x ∈ L) (a : Option Addr) (n c : Nat) (h : Sl w a n c (ints x)) => True.refOne_any w s hs a n c x h (hw x hm))
  clear hsl hw hs
  go_enter Try.func8, Try.ntmps8
  go_wp2_with fail
  go_loop [5] (fun i => ∃ k : Nat, k ≤ n ∧ i = .int .i64 k ∧ Hid (inM s.data.toList (L.take k) = true)) (fun i => n - (intOf i).toNat)
  case atStart => exact ⟨0, Nat.zero_le _, rfl, rfl⟩
  case round =>
    obtain ⟨k, hk, rfl, hI⟩ := hrel
    by_cases hlt : k < n
    · obtain ⟨b, o, a2, c2, hx, rfl, hbs, hc, hs2, _⟩ := HS.out.at hlt
      have H := Lib.hid (HR.out _ (List.getElem_mem hx) a2 _ c2 hs2)
      unfold True.one at H
      clear hs2
      cases hq : L[k].any (CubeP.is s.data.toList)
      · have HQ := Lib.hid hq
        rw [hq] at H
        clear hq
        go_wp2_with fail
        refine H.out.mono ?_; rintro e w1 ⟨rfl, rfl⟩
        go_wp2_with fail
        go_ret
        exact ⟨ret_bool (inM_not hx HQ.out).symm, rfl⟩
      · have HQ := Lib.hid hq
        rw [hq] at H
        clear hq
        go_wp2_with fail
        refine H.out.mono ?_; rintro e w1 ⟨rfl, rfl⟩
        go_wp2_with fail
        go_round
        case rel => exact ⟨k + 1, by omega, by go_num, inM_more hx hI.out HQ.out⟩
        case measure => simp [intOf]; omega
    · have HB : Hid (inM s.data.toList L = true) := by
        show _ = _
        have h := hI.out
        rw [List.take_of_length_le (by rw [HL.out]; omega)] at h
        exact h
      go_wp2_with fail
      go_ret
      exact ⟨ret_bool HB.out.symm, rfl⟩

end Delta
end Go.Proofs.Yteamijldmhcicaa
