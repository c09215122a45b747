/-
  interlocklaw30.KeepOwn: the walk: what is handed in stays; what is told shares nothing with it.
-/
import Derived.Test.YtdpmfcfelncbeaaKeepLaws
import Derived.Test.YtdpmfcfelncbeaaOpenRS
import Derived.Test.YtdpmfcfelncbeaaMix
import Derived.Test.YtdpmfcfelncbeaaPlainLists
import Derived.Deep.DeepCutAuto
import Derived.BigQuiet
namespace Go.Proofs.Ytdpmfcfelncbeaa.keepOwn
open Go.RowKit Base Keep
open Vals (srt)
set_option linter.unusedVariables false
set_option linter.unusedSimpArgs false

theorem put_nil (inv : List (List Int)) (tags : List Int) : put [] inv tags = if inv.length = 0 ∨ 256 < inv.length then none else some [(inv, srt tags)] := by
  unfold put
  by_cases h : inv.length = 0 ∨ 256 < inv.length
  · rw [if_pos h, if_pos (h.elim .inl (fun h => .inr (.inl h)))]
  · rw [if_neg h, if_neg (fun h' => h'.elim (fun h1 => h (.inl h1)) (fun h' => h'.elim (fun h1 => h (.inr h1)) (fun h1 => by simp [said] at h1)))]
    rw [List.nil_append, trim_eq (by simp [sz]; omega)]

/-- Rows that may be written over; what else is there stays. -/
structure SpoilR (w0 : World) (B N : Nat) (ao : Option Addr) (n c : Nat) (vals : List Value) (w : World) : Prop where
  low : Below B w0 w
  high : Holds N w0 w
  sl : Sl w ao n c vals
  row : ∀ (i : Nat) (v : Value), vals[i]? = some v → ∃ a m c', v = .slice a m c' ∧ m ≤ c' ∧ c' ≤ 9223372036854775807 ∧ Writes w B N a m ∧ ∀ g go, a = some ⟨g, 0, none⟩ → ao = some ⟨go, 0, none⟩ → 0 < m → g ≠ go
  head : ∀ b o, ao = some ⟨b, o, none⟩ → o = 0

theorem SpoilR.set {w0 : World} {B N : Nat} {ao : Option Addr} {n c : Nat} {vals : List Value} {w : World} (h : SpoilR w0 B N ao n c vals w) {g : Nat} (h1 : B ≤ g) (h2 : g < N) (hne : ∀ go, ao = some ⟨go, 0, none⟩ → g ≠ go) (j : Nat) (u : Value) : SpoilR w0 B N ao n c vals (w.setCell ⟨g, j, none⟩ u) := by
  refine ⟨h.low.setCell h1 u, h.high.set h2 u, ⟨h.sl.len, h.sl.cap, h.sl.big, h.sl.bare, fun k x hx => ?_⟩, fun i v hv => ?_, h.head⟩
  · obtain ⟨b, o, ha, hb, hc⟩ := h.sl.cell k x hx
    have ho := h.head b o ha
    subst ho
    refine ⟨b, 0, ha, by simpa [World.setCell] using hb, ?_⟩
    rw [World.cell?_setCell_other _ _ _ _ (by intro e; simp only [Addr.mk.injEq] at e; exact hne b ha e.1)]
    exact hc
  · obtain ⟨a, m, c', rfl, hm, hc, hW, hg⟩ := h.row i v hv
    exact ⟨a, m, c', rfl, hm, hc, hW.set _ u, hg⟩

theorem Writes.lower {w : World} {B B' N : Nat} {a : Option Addr} {m : Nat} (h : Writes w B N a m) (hB : B' ≤ B) : Writes w B' N a m := by
  rcases h with h | ⟨g, ha, h1, h2, hc⟩
  · exact .inl h
  · exact .inr ⟨g, ha, Nat.le_trans hB h1, h2, hc⟩
theorem writes_one {w : World} {B N : Nat} {a : Option Addr} {n k : Nat} (h : Writes w B N a (n * 1)) (hk : k < n) : ∃ g u, a = some ⟨g, 0, none⟩ ∧ B ≤ g ∧ g < N ∧ w.cell? ⟨g, k, none⟩ = some u ∧ w.frozen? ⟨g, k, none⟩ = false := by
  rcases h with h | ⟨g, ha, h1, h2, hc⟩
  · omega
  · obtain ⟨⟨u, hu⟩, hf⟩ := hc k (by omega)
    exact ⟨g, u, ha, h1, h2, hu, hf⟩

theorem head0 {w : World} {B : Nat} {e : TypeId} {size : Nat} {a : Option Addr} {n c : Nat} {vs : List Value} (h : w.ownsRow B e size (.slice a n c) n vs) : ∀ b o, a = some ⟨b, o, none⟩ → o = 0 := fun b o ha => by
  rcases h.2 with ⟨hv, _⟩ | ⟨g, cap, cur, hv, _⟩
  · simp only [Value.slice.injEq] at hv
    rw [hv.1] at ha
    cases ha
  · simp only [Value.slice.injEq] at hv
    rw [hv.1] at ha
    simp only [Option.some.injEq, Addr.mk.injEq] at ha
    exact ha.2.1.symm

theorem spoil_start {w : World} {B : Nat} {a : Option Addr} {n c : Nat} {vals : List Value} {xss : List (List Int)} (h : Own2 w B 24 3 (.slice a n c) n vals xss) {w1 : World} (hb : Below w.heap.size w w1) : SpoilR w1 B w.heap.size a n c vals w1 := by
  refine ⟨Below.refl _ _, Holds.refl _ _, (own_slI h.outer).next hb, fun i v hv => ?_, head0 h.outer⟩
  have hi : i < xss.length := by
    have h1 := (List.getElem?_eq_some_iff.1 hv).1
    have h2 := (own_slI h.outer).len
    rw [h.len]
    omega
  obtain ⟨a', c', rfl, ho⟩ := h.row i v _ hv (List.getElem?_eq_getElem hi)
  have hs := own_slI ho
  refine ⟨a', xss[i].length, c', rfl, hs.cap, hs.big, ?_, fun g go hg hgo hm => ?_⟩
  · have := (Writes.of ho).next (Nat.le_refl _) hb
    rwa [Nat.mul_one] at this
  · intro e
    subst hg hgo
    have := own_apart ho h.outer (by decide)
    rcases this with h' | h'
    · cases h'
    · simp [Value.ownBlock] at h'
      exact h' e

set_option maxRecDepth 8000 in
set_option maxHeartbeats 16000000 in
theorem walk {w : World} (a1 : Option Addr) (c1 : Nat) (inv : List (List Int)) (y1 : List Value) (s1 : Sl2 w a1 inv.length c1 y1 inv) (w1 : ∀ x ∈ inv, Clause.Wf x) (z1 : inv.length * 24 ≤ 140737488351232 ∧ ∀ x ∈ inv, x.length * 8 ≤ 140737488351232)
    (a2 : Option Addr) (c2 : Nat) (tags : List Int) (s2 : Sl w a2 tags.length c2 (ints tags)) (w2 : Clause.Wf tags) (z2 : tags.length * 8 ≤ 140737488351232) (W : World) (hW : W = w) :
    Calls Try.prog 4 #[.slice a1 inv.length c1, .slice a2 tags.length c2] W fun e W' => e = .returned (.bool true) ∧ Below W.heap.size W W' := by
  subst hW
  have hri : RowsOk inv := fun x hx => ⟨w1 x hx, by have := z1.2 x hx; omega⟩
  have hil : inv.length ≤ 9223372036854775807 := by omega
  have HAL := Lib.hid (alive_any W)
  have HT := Lib.hid (fun (U : World) (hU : Below W.heap.size W U) => s2.next hU)
  have HI := Lib.hid (fun (U : World) (hU : Below W.heap.size W U) => s1.next hU)
  have HRI := Lib.hid hri
  have HIL := Lib.hid hil
  have HZ1 := Lib.hid z1.1
  have HZX := Lib.hid z1.2
  have HZ2 := Lib.hid z2
  have hca := s1.sl.cap
  have hba := s1.sl.big
  clear s1 w1 z1 s2 w2 z2 hri hil
  go_enter Try.func4, Try.ntmps4
  go_wp2_with fail
  with_reducible refine HAL.out.mono ?_
  rintro e w3 ⟨rfl, hb2⟩
  have HB3 := Lib.hid hb2
  clear hb2
  go_wp2_with fail
  go_loopw [5, 6] (fun s i wr => ∃ (k : Nat) (a' : Option Addr) (c' : Nat) (vals : List Value), k ≤ inv.length ∧ i = .int .i64 k ∧ s = .slice a' k c' ∧ Hid (Own2 wr w3.heap.size 24 3 (.slice a' k c') k vals (inv.take k)) ∧ Hid (Below w3.heap.size w3 wr)) (fun _ i _ => inv.length - (intOf i).toNat)
  case atStart => exact ⟨0, none, 0, [], Nat.zero_le _, rfl, rfl, Own2.nil _ _ _ _, Below.refl _ _⟩
  case round =>
    obtain ⟨k, a', c', vals, hk, rfl, rfl, hO, hB⟩ := hrel
    have HBW := Lib.hid (HB3.out.trans (hB.out.mono HB3.out.size))
    by_cases hlt : k < inv.length
    · obtain ⟨U1, hU1⟩ : ∃ U, wr.alloc (.cells #[] 3) = U := ⟨_, rfl⟩
      have hbU : Below wr.heap.size wr U1 := by rw [← hU1]; exact (Below.refl _ _).alloc (Nat.le_refl _) _
      have hoU : U1.ownsRow wr.heap.size 3 1 (.slice (some ⟨wr.heap.size, 0, none⟩) 0 0) 0 [] := by rw [← hU1]; exact World.ownsRow_lit wr #[] 0 (Nat.le_refl _) (by unfold maxLen; omega) rfl
      obtain ⟨b, o, ax, cx, hx, hae, hbs, e0, hsx, _⟩ := (HI.out U1 (HBW.out.trans (hbU.mono HBW.out.size))).at hlt
      subst hae
      have HTK := Lib.hid (List.take_succ_eq_append_getElem hx)
      have HXL := Lib.hid (HZX.out _ (List.getElem_mem hx))
      generalize inv[k] = x at *
      have HOU := Lib.hid hoU
      have HSX := Lib.hid hsx
      have HBU := Lib.hid hbU
      have HKN : Hid ((k + 1) * 24 ≤ 140737488355328) := by show _ ≤ _; have := HZ1.out; omega
      clear hoU hsx hbU
      go_wp2_with (first
        | ((with_reducible refine wpL_app wr.heap.size (.slice (some ⟨wr.heap.size, 0, none⟩) 0 0) 0 [] ax x.length cx (ints x) Vals.info_int Try.underlying24 rfl ?_ ?_ (ints_one x) HOU.out HSX.out HBU.out.size ?_ ?_ (Below.refl _ _) ?_); rfl; rfl; (have := HXL.out; omega); (have := HXL.out; omega); (rw [Nat.zero_add, List.nil_append]; intro a5 c5 w5 hown5 hb5 hz5; have HO5 := Lib.hid (own_mono hown5 hB.out.size); have HBR := Lib.hid (HBU.out.trans (hb5.mono (Nat.le_refl _))); have HOO := Lib.hid (hO.out.next HBR.out); have HB5 := Lib.hid (hB.out.trans (HBR.out.mono hB.out.size))))
        | ((with_reducible refine wpL_pushO (B := w3.heap.size) (W := w3) w5 a5 c5 x x.length rfl _ k vals (inv.take k) info_ints Try.underlying23 ?_ ?_ ?_ ?_ HOO.out HO5.out HB5.out.size HKN.out ?_ HB5.out ?_); decide; rfl; rfl; rfl; (have := HKN.out; omega); (intro a9 c9 w6 hmix6 hb6 hs6)))
      have HM6 := Lib.hid hmix6
      have HB6 := Lib.hid hb6
      clear hmix6 hb6 hs6 e0 hU1
      go_roundw
      case rel => exact ⟨k + 1, a9, c9, vals ++ [.slice a5 x.length c5], by omega, by go_num, rfl, by rw [HTK.out]; exact HM6.out, HB6.out⟩
      case measure => simp [intOf]; omega
    · have hke : k = inv.length := by omega
      have HOO : Hid (Own2 wr w3.heap.size 24 3 (.slice a' inv.length c') inv.length vals inv) := by
        have h := hO.out
        rw [hke, List.take_length] at h
        exact h
      subst hke
      generalize wr = wo at *
      have hp := put_any wo none 0 0 [] [] (SlK.nil wo) (fun k hk => by cases hk) (fun k hk => by cases hk) (by omega) a' inv.length c' vals inv (own2_sl2 HOO.out) HRI.out a2 tags.length c2 tags (HT.out wo HBW.out) (by have := HZ2.out; omega) (by have := HIL.out; simp [sz]; omega)
      have HP : Hid (Calls Try.prog 10 #[.slice none 0 0, .slice a' inv.length c', .slice a2 tags.length c2] wo fun e w' => ∃ a7 m7 c7 q, e = .returned (.tuple #[.slice a7 m7 c7, .bool q]) ∧ Hid ((q = false ∧ m7 = 0) ∨ (q = true ∧ m7 = 1 ∧ ∃ vs, KOwn w' wo.heap.size a7 1 c7 vs [(inv, srt tags)])) ∧ Below wo.heap.size wo w') := by
        refine hp.mono ?_
        rintro e w' ⟨h1, h2⟩
        rw [put_nil] at h1
        by_cases hc : inv.length = 0 ∨ 256 < inv.length
        · rw [if_pos hc] at h1
          exact ⟨none, 0, 0, false, h1, .inl ⟨rfl, rfl⟩, h2⟩
        · rw [if_neg hc] at h1
          obtain ⟨a7, c7, vs7, he, hk⟩ := h1
          exact ⟨a7, 1, c7, true, he, .inr ⟨rfl, rfl, vs7, hk⟩, h2⟩
      have HCI := Lib.hid (own_slI HOO.out.outer).cap
      have HBI := Lib.hid (own_slI HOO.out.outer).big
      clear hp hO
      go_wp2_with fail
      with_reducible refine HP.out.mono ?_
      rintro e w9 ⟨a7, m7, c7, q, rfl, hout, hb9⟩
      have HSP := Lib.hid (spoil_start HOO.out hb9)
      have HB9 := Lib.hid (hB.out.trans (hb9.mono hB.out.size))
      have HLO := Lib.hid hb9
      have hci := HCI.out
      have hbi := HBI.out
      have HN0 : Hid (vals.length = inv.length) := (own_slI HOO.out.outer).len
      clear hb9
      go_wp2_with fail
      go_loopw [9] (fun s wr => ∃ i : Nat, i ≤ inv.length ∧ s = .int .i64 i ∧ Hid (SpoilR w9 w3.heap.size wo.heap.size a' inv.length c' vals wr)) (fun s _ => inv.length - (intOf s).toNat)
      case atStart =>
        refine ⟨0, Nat.zero_le _, rfl, ?_⟩
        have h := HSP.out
        exact ⟨Below.refl _ _, Holds.refl _ _, h.sl, fun i v hv => by
          obtain ⟨a, m, c, e, h1, h2, h3, h4⟩ := h.row i v hv
          refine ⟨a, m, c, e, h1, h2, ?_, h4⟩
          exact (Writes.lower h3 (Nat.le_refl _)), h.head⟩
      case round =>
        generalize wr = wp at *
        obtain ⟨i, hi, rfl, hS⟩ := hrel
        by_cases hil : i < inv.length
        · obtain ⟨b, o, x, hae, hbs, hvx, e0⟩ := hS.out.sl.at hil
          obtain ⟨ar, mr, cr, rfl, hmc, hcb, hW, hne⟩ := hS.out.row i x hvx
          have ho := hS.out.head b o hae
          subst ho
          subst hae
          have HVX := Lib.hid hvx
          rw [Nat.zero_add] at e0
          clear hvx hW hne
          go_wp2_with fail
          go_loopw [10] (fun s wr => ∃ k : Nat, k ≤ mr ∧ s = .int .i64 k ∧ Hid (SpoilR w9 w3.heap.size wo.heap.size (some ⟨b, 0, none⟩) inv.length c' vals wr)) (fun s _ => mr - (intOf s).toNat)
          case atStart => exact ⟨0, Nat.zero_le _, rfl, hS⟩
          case round =>
            generalize wr = wq at *
            obtain ⟨k, hk, rfl, hQ⟩ := hrel
            obtain ⟨b2, o2, x2, hae2, hbs2, hvx2, e2⟩ := hQ.out.sl.at hil
            simp only [Option.some.injEq, Addr.mk.injEq, and_true] at hae2
            obtain ⟨rfl, rfl⟩ := hae2
            rw [HVX.out] at hvx2
            simp only [Option.some.injEq] at hvx2
            subst hvx2
            rw [Nat.zero_add] at e2
            by_cases hkl : k < mr
            · obtain ⟨ar2, mr2, cr2, hre, _, _, hW, hne⟩ := hQ.out.row i _ HVX.out
              simp only [Value.slice.injEq] at hre
              obtain ⟨rfl, rfl, rfl⟩ := hre
              have hW1 : Writes wq w3.heap.size wo.heap.size ar (mr * 1) := by rw [Nat.mul_one]; exact hW
              obtain ⟨g, u, hga, hg1, hg2, hu, hf⟩ := writes_one hW1 hkl
              subst hga
              have hgn := hne g b rfl rfl (by omega)
              have HQ2 := Lib.hid (hQ.out.set hg1 hg2 (fun go hgo => by simp only [Option.some.injEq, Addr.mk.injEq, and_true] at hgo; rw [← hgo]; exact hgn) k (.int .i64 77))
              clear hW hW1 hne hg1 hg2 hgn hQ
              go_wp2_with fail
              go_roundw
              case rel => exact ⟨k + 1, by omega, by go_num, HQ2⟩
              case measure => simp [intOf]; omega
            · go_wp2_with fail
              go_roundw
              case rel => exact ⟨i + 1, by omega, by go_num, hQ⟩
              case measure => simp [intOf]; omega
        · have hB10 : Below W.heap.size W wp := (HB3.out.trans (HB9.out.mono HB3.out.size)).trans (hS.out.low.mono HB3.out.size)
          have HB10 := Lib.hid hB10
          have hN : wo.heap.size ≤ wo.heap.size := Nat.le_refl _
          rcases hout.out with ⟨rfl, rfl⟩ | ⟨rfl, rfl, vs7, hk7⟩
          · clear hB10 hout
            go_wp2_with fail
            go_ret
            exact ⟨rfl, HB10.out⟩
          · have hk10 := hk7.holds hS.out.high hN
            obtain ⟨b7, o7, ac, cc, valc, at7, ct7, hx7, hae7, hbs7, d0, d1, hsc, hst, _⟩ := hk10.slK.at (i := 0) (by omega)
            subst hae7
            simp only [List.getElem_cons_zero, Nat.zero_mul, Nat.add_zero] at d0 d1 hsc hst
            have HLS := Lib.hid (fun (U : World) (hU : Below wp.heap.size wp U) => Plain.lists_any U ac a1 inv.length inv.length cc c1 valc y1 inv inv (hsc.next hU) (HI.out U (HB10.out.trans (hU.mono HB10.out.size))))
            have HSL := Lib.hid (hk10.slK.sl.cap)
            have HSB := Lib.hid (hk10.slK.sl.big)
            have hcc := HSL.out
            have hcd := HSB.out
            clear hB10 hk10 hsc hst hout hk7
            go_wp2_with fail
            with_reducible refine (HLS.out wp (Below.refl _ _)).mono ?_
            rintro e w10 ⟨rfl, mm, rfl⟩
            go_wp2_with fail
            go_ret
            exact ⟨by simp, below_drewN HB10.out mm⟩
end Go.Proofs.Ytdpmfcfelncbeaa.keepOwn
