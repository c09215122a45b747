/-
  interlockref10.Norm.
-/
import Derived.Test.YtmiklgekcmeedaaNormP
import Derived.Test.YtmiklgekcmeedaaRefHas
import Derived.Test.YtmiklgekcmeedaaStep
import Derived.Deep.QuietTactic
import Derived.BigQuiet
namespace Go.Proofs.Ytmiklgekcmeedaa
open Go.RowKit Base
set_option linter.unusedVariables false
set_option linter.unusedSimpArgs false
namespace RefC

theorem info_int : (Try.prog.info? 3).map (fun i => (i.zero, i.size, i.bytes)) = some (some (.int .i64 0), 1, 8) := by kernel_rfl

theorem ints_app (xs ys : List Int) : ints xs ++ ints ys = ints (xs ++ ys) := by simp [ints]

theorem Sl.drop {w : World} {b o n c : Nat} {vs : List Value} (h : Sl w (some ⟨b, o, none⟩) n c vs) {k : Nat} (hk : k ≤ n) :
    Sl w (some ⟨b, o + k, none⟩) (n - k) (c - k) (vs.drop k) :=
  ⟨by rw [List.length_drop, h.len], by have := h.cap; omega, by have := h.big; omega, (by intro e; cases e), fun j x hx => by
    rw [List.getElem?_drop] at hx
    obtain ⟨b', o', ha, hs, hc⟩ := h.cell (k + j) x hx
    simp only [Option.some.injEq, Addr.mk.injEq] at ha
    obtain ⟨rfl, rfl, _⟩ := ha
    exact ⟨b, o + k, rfl, hs, by rw [Nat.add_assoc]; exact hc⟩⟩

theorem Sl.empty (w : World) (x : Addr) (c : Nat) {n : Nat} (hn : n = 0) (hc : c ≤ 9223372036854775807) : Sl w (some x) n c (ints []) := by
  subst hn
  exact ⟨rfl, Nat.zero_le _, hc, (by intro e; cases e), fun k x h => by simp [ints] at h⟩

/-- The head's address is of the call's own, or none. -/
theorem own_form {w : World} {B : Nat} {e : TypeId} {size : Nat} {a : Option Addr} {n c : Nat} {vs : List Value} (h : w.ownsRow B e size (.slice a n c) n vs) :
    (a = none ∧ n = 0 ∧ c = 0) ∨ ∃ g, a = some ⟨g, 0, none⟩ ∧ B ≤ g ∧ g < w.heap.size := by
  rcases h.2 with ⟨hv, h0⟩ | ⟨g, cap, cur, hv, hg, hh, _⟩
  · simp only [Value.slice.injEq] at hv
    exact .inl ⟨hv.1, h0, hv.2.2⟩
  · simp only [Value.slice.injEq] at hv
    exact .inr ⟨g, hv.1, hg, (Array.getElem?_eq_some_iff.1 hh).1⟩

def NormOut (w : World) (L : List Int) (e : Ending) (w' : World) : Prop :=
  ∃ a c, e = .returned (.tuple #[.slice a L.length c, .bool (always L)]) ∧ w'.ownsRow w.heap.size 3 1 (.slice a L.length c) L.length (ints L) ∧ Below w.heap.size w w'

set_option maxHeartbeats 4000000 in
theorem norm_any (w : World) (a : Option Addr) (n c : Nat) (l : List Int) (hsl : Sl w a n c (ints l)) (hw : Clause.Wf l) (hn : n ≤ 17592186044000) :
    Calls Try.prog 15 #[.slice a n c] w (NormOut w (norm l)) := by
  have HL : Hid (l.length = n) := by have := hsl.len; rwa [ints_len] at this
  have hcap := hsl.cap
  have hbig := hsl.big
  have HSL := Lib.hid hsl
  have HW := Lib.hid hw
  clear hsl hw
  go_enter Try.func15, Try.ntmps15
  go_wp2
  go_loopw [4, 5] (fun s i wr => ∃ (k m : Nat) (L : List Int), k ≤ n ∧ i = .int .i64 k ∧ Hid (norm (l.take k) = L) ∧ Hid (L.length = m) ∧ m ≤ k ∧ (∃ a' c', s = .slice a' m c' ∧ wr.ownsRow w.heap.size 3 1 (.slice a' m c') m (ints L)) ∧ Below w.heap.size w wr) (fun _ i _ => n - (intOf i).toNat)
  case atStart => exact ⟨0, 0, [], Nat.zero_le _, rfl, rfl, rfl, Nat.le_refl _, ⟨none, 0, rfl, World.ownsRow_nil _ _ _ _⟩, Below.refl _ _⟩
  case round =>
    obtain ⟨k, m, L, hk, rfl, hI, hM, hmk, ⟨a', c', rfl, hown⟩, hbr⟩ := hrel
    obtain ⟨a9, c9, e9, hs9⟩ := own_sl hown
    simp only [Value.slice.injEq] at e9
    obtain ⟨rfl, _, rfl⟩ := e9
    have hcap' := hs9.cap
    have hbig' := hs9.big
    have HS := Lib.hid hs9
    have HO := Lib.hid hown
    clear hs9 hown
    have hbase : w.heap.size ≤ wr.heap.size := hbr.size
    by_cases hlt : k < n
    · obtain ⟨b, o, hx, rfl, hbs, hc⟩ := HSL.out.int hlt
      have hc0 : wr.cell? ⟨b, o + k, none⟩ = some (.int .i64 l[k]) := (hbr.cell (p := ⟨b, o + k, none⟩) hbs).trans hc
      have HN := Lib.hid (norm_more l k hx)
      have HXR := Lib.hid (HW.out _ (List.getElem_mem hx))
      clear hc
      generalize hp : l[k] = p at *
      have HP := Lib.hid hp
      clear hp
      have HLR : Hid (∀ y ∈ L, I64 y) := by
        intro y hy
        rw [← hI.out] at hy
        exact HW.out y (norm_mem l k y hy)
      by_cases h0 : p = 0
      · have v0 : (p == 0) = true := by simp [h0]
        have HF : Hid (norm (l.take (k + 1)) = L) := by show _ = _; rw [HN.out, hI.out]; unfold put1; rw [if_pos (.inl h0)]
        clear h0
        go_wp2_with fail
        go_roundw
        case rel => exact ⟨k + 1, m, L, by omega, by go_num, HF, hM, by omega, ⟨a', c', rfl, HO.out⟩, hbr⟩
        case measure => simp [intOf]; omega
      · have v0 : (p == 0) = false := by simp [h0]
        have HH := Lib.hid (has_any wr a' m c' L HS.out p)
        by_cases hin : p ∈ L
        · have HF : Hid (norm (l.take (k + 1)) = L) := by show _ = _; rw [HN.out, hI.out]; unfold put1; rw [if_pos (.inr hin)]
          rw [decide_eq_true hin] at HH
          clear h0 hin
          go_wp2_with fail
          refine HH.out.mono ?_; rintro e w1 ⟨rfl, rfl⟩
          go_wp2_with fail
          go_roundw
          case rel => exact ⟨k + 1, m, L, by omega, by go_num, HF, hM, by omega, ⟨a', c', rfl, HO.out⟩, hbr⟩
          case measure => simp [intOf]; omega
        · have HF : Hid (norm (l.take (k + 1)) = ins p L) := by show _ = _; rw [HN.out, hI.out]; unfold put1; rw [if_neg (by rintro (h | h); exact h0 h; exact hin h)]
          rw [decide_eq_false hin] at HH
          clear h0 hin
          go_wp2_with fail
          refine HH.out.mono ?_; rintro e w1 ⟨rfl, rfl⟩
          clear hc0
          go_wp2_with fail
          generalize wr = wo at *
          go_loopw [7, 8] (fun s i wq => ∃ (j : Nat), j ≤ m ∧ i = .int .i64 j ∧ Hid (∀ y ∈ L.take j, lessB y p = true) ∧ (∃ a2 c2, s = .slice a2 j c2 ∧ wq.ownsRow wo.heap.size 3 1 (.slice a2 j c2) j (ints (L.take j))) ∧ Below wo.heap.size wo wq) (fun _ i _ => m - (intOf i).toNat)
          case atStart => exact ⟨0, Nat.zero_le _, rfl, by intro y hy; simp at hy, ⟨none, 0, rfl, World.ownsRow_nil _ _ _ _⟩, Below.refl _ _⟩
          case round =>
            obtain ⟨j, hj, rfl, hA, ⟨a2, c2, rfl, hown2⟩, hbq⟩ := hrel
            have HO2 := Lib.hid hown2
            clear hown2
            have hbase2 : wo.heap.size ≤ wr.heap.size := hbq.size
            have HSq := Lib.hid (HS.out.next hbq)
            by_cases hjm : j < m
            · obtain ⟨g, q, hy, rfl, hgs, hcy⟩ := HSq.out.int hjm
              have HLE := Lib.hid (less_any wr L[j] p (HLR.out _ (List.getElem_mem hy)) HXR.out)
              have HT := Lib.hid (List.take_succ_eq_append_getElem hy)
              have HY := Lib.hid (List.getElem?_eq_getElem hy)
              generalize hz : L[j] = z at *
              have HZ := Lib.hid hz
              clear hz
              cases hlz : lessB z p
              · rw [hlz] at HLE
                have hcj : ¬ c' = j := by omega
                have HI2 : Hid (ins p L = L.take j ++ p :: L.drop j) := by
                  have h := tw (p := fun y => lessB y p) (l := L) (j := j) (by omega) hA.out (.inr ⟨hy, by rw [HZ.out]; exact hlz⟩)
                  show _ = _
                  unfold ins
                  rw [h.1, h.2]
                have HDR : Hid (Sl wo (some ⟨g, q + j, none⟩) (m - j) (c' - j) (ints (L.drop j))) := by
                  have h := Sl.drop HS.out (k := j) (by omega)
                  unfold ints at h ⊢
                  rw [← List.map_drop] at h
                  exact h
                clear hlz
                go_wp2_with fail
                refine HLE.out.mono ?_; rintro e w1 ⟨rfl, rfl⟩
                clear hcy
                go_wp2_with fail
                go_region_law (first | (refine step_push (by rfl) (by rfl) wo.heap.size _ _ (.slice a2 j c2) j (ints (L.take j)) info_int Try.underlying29 (by rfl) (by rfl) (by rfl) (by rfl) (by rfl) HO2.out.drew (by show wo.heap.size ≤ wr.heap.size; exact hbase2) (by omega) (by omega) hbq.drew ?_; intro a3 c3 w3 hown3 hb3 hz3; have hs3 : Sl w3 (some ⟨g, q + j, none⟩) (m - j) (c' - j) (ints (L.drop j)) := (HDR.out.next hb3)) | (refine step_pushD (by rfl) (by rfl) wo.heap.size _ _ (.slice a2 j c2) j (ints (L.take j)) info_int Try.underlying29 (by rfl) (by rfl) (by rfl) (by rfl) (by rfl) HO2.out (by exact hbase2) (by omega) (by omega) hbq ?_; intro a3 c3 w3 hown3 hb3 hz3; have hs3 : Sl w3 (some ⟨g, q + j, none⟩) (m - j) (c' - j) (ints (L.drop j)) := (HDR.out.next hb3)) | (refine step_app (by rfl) (by rfl) wo.heap.size _ (j + 1) _ (some ⟨g, q + j, none⟩) (m - j) (c' - j) (ints (L.drop j)) info_int Try.underlying29 (by rfl) (by rfl) (by rfl) (ints_one _) hown3 hs3 hb3.size (by omega) (by omega) hb3 ?_; intro a4 c4 w4 hown4 hb4 hz4))
                all_goals
                  go_wp2_with fail
                  go_roundw
                  case rel =>
                    refine ⟨k + 1, j + 1 + ((m - j)), ins p L, by omega, by go_num, HF, ?_, by omega, ⟨a4, c4, rfl, ?_⟩, hbr.trans (hb4.mono hbase)⟩
                    · show _ = _
                      rw [ins_len, hM.out]
                      all_goals omega
                    · rw [HI2.out]
                      have e : ints (L.take j ++ p :: L.drop j) = ints (L.take j) ++ [.int .i64 p] ++ ints (L.drop j) := by simp [ints]
                      rw [e]
                      exact own_mono hown4 hbase
                  case measure => simp [intOf]; omega
              · rw [hlz] at HLE
                have HLZ := Lib.hid hlz
                clear hlz
                have hcy' := hcy
                go_wp2_with fail
                refine HLE.out.mono ?_; rintro e w1 ⟨rfl, rfl⟩
                go_wp2_with ((with_reducible refine wpL_push (B := wo.heap.size) (W := wo) wr (.int .i64 z) _ j (ints (L.take j)) info_int Try.underlying29 ?_ ?_ ?_ ?_ ?_ HO2.out ?_ ?_ ?_ hbq ?_); rfl; rfl; rfl; rfl; rfl; (exact hbase2); omega; omega; (intro a3 c3 w3 hown3 hb3 hsz3))
                go_roundw
                case rel =>
                  refine ⟨j + 1, by omega, by go_num, ?_, ⟨a3, c3, rfl, ?_⟩, hb3⟩
                  · intro y hy
                    rw [HT.out, List.mem_append, List.mem_singleton] at hy
                    rcases hy with h | h
                    · exact hA.out y h
                    · rw [h, HLZ.out]
                  · rw [HT.out, ← ints_app]; exact hown3
                case measure => simp [intOf]; omega
            · have hjm' : j = m := by omega
              have HI2 : Hid (ins p L = L.take j ++ p :: L.drop j) := by
                have h := tw (p := fun y => lessB y p) (l := L) (j := j) (by have := hM.out; omega) hA.out (.inl (by rw [hM.out]; exact hjm'))
                show _ = _
                unfold ins
                rw [h.1, h.2]
              have hdr : L.drop j = [] := List.drop_eq_nil_of_le (by have := hM.out; omega)
              have HD0 := Lib.hid hdr
              subst hjm'
              clear hdr
              rcases own_form HO.out with ⟨rfl, rfl, rfl⟩ | ⟨g, rfl, hg1, hg2⟩
              · go_wp2_with fail
                go_region_law (first | (refine step_push (by rfl) (by rfl) wo.heap.size _ _ (.slice a2 0 c2) 0 (ints (L.take 0)) info_int Try.underlying29 (by rfl) (by rfl) (by rfl) (by rfl) (by rfl) HO2.out.drew (by show wo.heap.size ≤ wr.heap.size; exact hbase2) (by omega) (by omega) hbq.drew ?_; intro a3 c3 w3 hown3 hb3 hz3; have hs3 : Sl w3 none 0 0 (ints (L.drop 0)) := (by rw [HD0.out]; exact Sl.nil _)) | (refine step_pushD (by rfl) (by rfl) wo.heap.size _ _ (.slice a2 0 c2) 0 (ints (L.take 0)) info_int Try.underlying29 (by rfl) (by rfl) (by rfl) (by rfl) (by rfl) HO2.out (by exact hbase2) (by omega) (by omega) hbq ?_; intro a3 c3 w3 hown3 hb3 hz3; have hs3 : Sl w3 none 0 0 (ints (L.drop 0)) := (by rw [HD0.out]; exact Sl.nil _)) | (refine step_app (by rfl) (by rfl) wo.heap.size _ (0 + 1) _ none 0 0 (ints (L.drop 0)) info_int Try.underlying29 (by rfl) (by rfl) (by rfl) (ints_one _) hown3 hs3 hb3.size (by omega) (by omega) hb3 ?_; intro a4 c4 w4 hown4 hb4 hz4))
                all_goals
                  go_wp2_with fail
                  go_roundw
                  case rel =>
                    refine ⟨k + 1, 0 + 1 + (0), ins p L, by omega, by go_num, HF, ?_, by omega, ⟨a4, c4, rfl, ?_⟩, hbr.trans (hb4.mono hbase)⟩
                    · show _ = _
                      rw [ins_len, hM.out]
                      all_goals omega
                    · rw [HI2.out]
                      have e : ints (L.take 0 ++ p :: L.drop 0) = ints (L.take 0) ++ [.int .i64 p] ++ ints (L.drop 0) := by simp [ints]
                      rw [e]
                      exact own_mono hown4 hbase
                  case measure => simp [intOf]; omega
              · by_cases hcj : c' = j
                · go_wp2_with fail
                  go_region_law (first | (refine step_push (by rfl) (by rfl) wo.heap.size _ _ (.slice a2 j c2) j (ints (L.take j)) info_int Try.underlying29 (by rfl) (by rfl) (by rfl) (by rfl) (by rfl) HO2.out.drew (by show wo.heap.size ≤ wr.heap.size; exact hbase2) (by omega) (by omega) hbq.drew ?_; intro a3 c3 w3 hown3 hb3 hz3; have hs3 : Sl w3 (some ⟨g, 0, none⟩) 0 0 (ints (L.drop j)) := (by rw [HD0.out]; exact Sl.empty _ _ _ (by omega) (by omega))) | (refine step_pushD (by rfl) (by rfl) wo.heap.size _ _ (.slice a2 j c2) j (ints (L.take j)) info_int Try.underlying29 (by rfl) (by rfl) (by rfl) (by rfl) (by rfl) HO2.out (by exact hbase2) (by omega) (by omega) hbq ?_; intro a3 c3 w3 hown3 hb3 hz3; have hs3 : Sl w3 (some ⟨g, 0, none⟩) 0 0 (ints (L.drop j)) := (by rw [HD0.out]; exact Sl.empty _ _ _ (by omega) (by omega))) | (refine step_app (by rfl) (by rfl) wo.heap.size _ (j + 1) _ (some ⟨g, 0, none⟩) 0 0 (ints (L.drop j)) info_int Try.underlying29 (by rfl) (by rfl) (by rfl) (ints_one _) hown3 hs3 hb3.size (by omega) (by omega) hb3 ?_; intro a4 c4 w4 hown4 hb4 hz4))
                  all_goals
                    go_wp2_with fail
                    go_roundw
                    case rel =>
                      refine ⟨k + 1, j + 1 + (0), ins p L, by omega, by go_num, HF, ?_, by omega, ⟨a4, c4, rfl, ?_⟩, hbr.trans (hb4.mono hbase)⟩
                      · show _ = _
                        rw [ins_len, hM.out]
                        all_goals omega
                      · rw [HI2.out]
                        have e : ints (L.take j ++ p :: L.drop j) = ints (L.take j) ++ [.int .i64 p] ++ ints (L.drop j) := by simp [ints]
                        rw [e]
                        exact own_mono hown4 hbase
                    case measure => simp [intOf]; omega
                · go_wp2_with fail
                  go_region_law (first | (refine step_push (by rfl) (by rfl) wo.heap.size _ _ (.slice a2 j c2) j (ints (L.take j)) info_int Try.underlying29 (by rfl) (by rfl) (by rfl) (by rfl) (by rfl) HO2.out.drew (by show wo.heap.size ≤ wr.heap.size; exact hbase2) (by omega) (by omega) hbq.drew ?_; intro a3 c3 w3 hown3 hb3 hz3; have hs3 : Sl w3 (some ⟨g, j, none⟩) 0 (c' - j) (ints (L.drop j)) := (by rw [HD0.out]; exact Sl.empty _ _ _ (by omega) (by omega))) | (refine step_pushD (by rfl) (by rfl) wo.heap.size _ _ (.slice a2 j c2) j (ints (L.take j)) info_int Try.underlying29 (by rfl) (by rfl) (by rfl) (by rfl) (by rfl) HO2.out (by exact hbase2) (by omega) (by omega) hbq ?_; intro a3 c3 w3 hown3 hb3 hz3; have hs3 : Sl w3 (some ⟨g, j, none⟩) 0 (c' - j) (ints (L.drop j)) := (by rw [HD0.out]; exact Sl.empty _ _ _ (by omega) (by omega))) | (refine step_app (by rfl) (by rfl) wo.heap.size _ (j + 1) _ (some ⟨g, j, none⟩) 0 (c' - j) (ints (L.drop j)) info_int Try.underlying29 (by rfl) (by rfl) (by rfl) (ints_one _) hown3 hs3 hb3.size (by omega) (by omega) hb3 ?_; intro a4 c4 w4 hown4 hb4 hz4))
                  all_goals
                    go_wp2_with fail
                    go_roundw
                    case rel =>
                      refine ⟨k + 1, j + 1 + (0), ins p L, by omega, by go_num, HF, ?_, by omega, ⟨a4, c4, rfl, ?_⟩, hbr.trans (hb4.mono hbase)⟩
                      · show _ = _
                        rw [ins_len, hM.out]
                        all_goals omega
                      · rw [HI2.out]
                        have e : ints (L.take j ++ p :: L.drop j) = ints (L.take j) ++ [.int .i64 p] ++ ints (L.drop j) := by simp [ints]
                        rw [e]
                        exact own_mono hown4 hbase
                    case measure => simp [intOf]; omega
    · have hI2 : norm l = L := by
        have h := hI.out
        rwa [List.take_of_length_le (by have := HL.out; omega)] at h
      have HI2 := Lib.hid hI2
      clear hI2
      have hkn : ¬ ((k : Int) < n) := by omega
      have hm30 : m ≤ 17592186044000 := by omega
      clear hk hlt
      go_wp2_with fail
      generalize wr = wo at *
      go_loopw [9, 10] (fun v i wr => ∃ (j : Nat), j ≤ m - 1 ∧ i = .int .i64 ((j : Int) + 1) ∧ (∃ b, v = .bool b ∧ Hid (b = alw L j)) ∧ Below wo.heap.size wo wr) (fun _ i _ => m - (intOf i).toNat)
      case atStart => exact ⟨0, Nat.zero_le _, rfl, ⟨false, rfl, rfl⟩, Below.refl _ _⟩
      case round =>
        obtain ⟨j, hj, rfl, ⟨b, rfl, hb⟩, hbq⟩ := hrel
        have hj30 : j ≤ 17592186044000 := by omega
        have HJ := Lib.hid hj
        clear hj
        by_cases hjm : j + 1 < m
        · cases b
          · obtain ⟨g, q, hy, rfl, hgs, hcy⟩ := HS.out.int (k := j) (by omega)
            obtain ⟨g', q', hy', e', hgs', hcy'⟩ := HS.out.int (k := j + 1) (by omega)
            simp only [Option.some.injEq, Addr.mk.injEq] at e'
            obtain ⟨rfl, rfl, _⟩ := e'
            have c0 := (hbq.cell (p := ⟨g, q + j, none⟩) hgs).trans hcy
            have c1 := (hbq.cell (p := ⟨g, q + (j + 1), none⟩) hgs).trans hcy'
            have HA : Hid (alw L (j + 1) = (L[j] == wrap64 (-L[j + 1]))) := by
              show _ = _
              rw [alw_more, ← hb.out, List.getD_eq_getElem?_getD, List.getD_eq_getElem?_getD, List.getElem?_eq_getElem hy, List.getElem?_eq_getElem hy']
              rfl
            clear hcy hcy'
            generalize L[j] = y at *
            generalize L[j + 1] = z at *
            go_wp2_with fail
            go_quiet (fail)
            go_wp2_with fail
            go_roundw
            case rel => exact ⟨j + 1, by have := HJ.out; omega, by go_num, ⟨_, rfl, HA.out.symm⟩, below_drewN hbq _⟩
            case measure => simp [intOf]; omega
          · have HA : Hid (true = alw L (j + 1)) := by show _ = _; rw [alw_more, ← hb.out]; rfl
            go_wp2_with fail
            go_quiet (fail)
            go_wp2_with fail
            go_roundw
            case rel => exact ⟨j + 1, by have := HJ.out; omega, by go_num, ⟨_, rfl, HA⟩, below_drewN hbq _⟩
            case measure => simp [intOf]; omega
        · have HA : Hid (b = always L) := by show _ = _; rw [hb.out]; unfold always; rw [hM.out]; congr 1; have := HJ.out; omega
          have HM := hM
          have HO3 := Lib.hid (own_next HO.out hbq)
          go_wp2_with fail
          refine bodyPost_ret (v := .tuple #[.slice a' m c', .bool b]) (by simp [results, Try.results15, go_sem]) rfl ?_
          refine ⟨a', c', ?_, ?_, hbr.trans (hbq.mono hbase)⟩
          · rw [HI2.out, ← HA.out, HM.out]
          · rw [HI2.out, HM.out]; exact HO3.out
end RefC
end Go.Proofs.Ytmiklgekcmeedaa
