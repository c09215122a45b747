/-
  The law's own parts: interlocklaw30.alive, has; interlockref10.Same.
-/
import Derived.Test.YtdpmfcfelncbeaaKeepPut
import Derived.Test.YtdpmfcfelncbeaaKeepKnown
import Derived.Test.YtdpmfcfelncbeaaNorm
import Derived.Test.YtdpmfcfelncbeaaRefSame
namespace Go.Proofs.Ytdpmfcfelncbeaa
open Go.RowKit Base
set_option linter.unusedVariables false
set_option linter.unusedSimpArgs false
namespace Keep
open RefC (norm)
open Vals (srt srt_spec srt_one)

theorem strict_ext {a b : List Int} (ha : a.Pairwise (· < ·)) (hb : b.Pairwise (· < ·)) (h : ∀ v, v ∈ a ↔ v ∈ b) : a = b := by
  have na : a.Nodup := ha.imp (fun h => by omega)
  have nb : b.Nodup := hb.imp (fun h => by omega)
  have hp : a.Perm b := (List.perm_ext_iff_of_nodup na nb).2 h
  exact List.Perm.eq_of_pairwise (le := fun a b => a < b) (fun a b _ _ h1 h2 => by omega) ha hb hp

theorem srt_single (x : Int) : srt [x] = [x] := strict_ext (srt_spec [x]).1 (by simp) (fun v => (srt_spec [x]).2 v)

theorem put_alive : put [] [[1]] [1] = some [([[1]], [1])] := by
  unfold put
  rw [if_neg (by simp [said]), srt_single]
  simp [trim, sz]
theorem known_alive : known [([[1]], [1])] [1] = [[1]] := by simp [known, knownK, one, beyond, hasC]
theorem known_dead : known [([[1]], [1])] [] = [] := by simp [known, knownK, one, beyond, hasC]

theorem sl_one (w : World) (x : Int) : Sl (w.alloc (.cells #[.int .i64 x] 3)) (some ⟨w.heap.size, 0, none⟩) 1 1 (ints [x]) := sl_new w #[.int .i64 x] 3 1 rfl (by omega)

set_option maxHeartbeats 2000000 in
theorem alive_any (w : World) : Calls Try.prog 7 #[] w fun e w' => e = .returned (.bool true) ∧ Below w.heap.size w w' := by
  obtain ⟨W1, hW1⟩ : ∃ U, w.alloc (.cells #[.int .i64 1] 3) = U := ⟨_, rfl⟩
  obtain ⟨W2, hW2⟩ : ∃ U, W1.alloc (.cells #[.slice (some ⟨w.heap.size, 0, none⟩) 1 1] 24) = U := ⟨_, rfl⟩
  obtain ⟨W3, hW3⟩ : ∃ U, W2.alloc (.cells #[.int .i64 1] 3) = U := ⟨_, rfl⟩
  have hb1 : Below w.heap.size w W1 := by rw [← hW1]; exact (Below.refl _ _).alloc (Nat.le_refl _) _
  have hb2 : Below W1.heap.size W1 W2 := by rw [← hW2]; exact (Below.refl _ _).alloc (Nat.le_refl _) _
  have hb3 : Below W2.heap.size W2 W3 := by rw [← hW3]; exact (Below.refl _ _).alloc (Nat.le_refl _) _
  have hs1 : Sl W1 (some ⟨w.heap.size, 0, none⟩) 1 1 (ints [1]) := by rw [← hW1]; exact sl_one w 1
  have hs2 : Sl W2 (some ⟨W1.heap.size, 0, none⟩) 1 1 [.slice (some ⟨w.heap.size, 0, none⟩) 1 1] := by rw [← hW2]; exact sl_new W1 _ _ 1 rfl (by omega)
  have hs3 : Sl W3 (some ⟨W2.heap.size, 0, none⟩) 1 1 (ints [1]) := by rw [← hW3]; exact sl_one W2 1
  have hr2 : Sl2 W2 (some ⟨W1.heap.size, 0, none⟩) 1 1 [.slice (some ⟨w.heap.size, 0, none⟩) 1 1] [[1]] := ⟨hs2, rfl, fun k v xs hv hx => by
    cases k with
    | zero =>
      simp only [List.getElem?_cons_zero, Option.some.injEq] at hv hx
      subst hv; subst hx
      exact ⟨_, 1, rfl, hs1.next hb2⟩
    | succ k => simp at hv⟩
  have hro : RowsOk [[1]] := fun x hx => by
    rw [List.mem_singleton] at hx
    subst hx
    exact ⟨fun y hy => by rw [List.mem_singleton] at hy; subst hy; omega, by simp⟩
  have hP := put_any W3 none 0 0 [] [] (SlK.nil W3) (fun k hk => by cases hk) (fun k hk => by cases hk) (by omega) (some ⟨W1.heap.size, 0, none⟩) 1 1 _ [[1]] (hr2.next hb3) hro (some ⟨W2.heap.size, 0, none⟩) 1 1 [1] hs3 (by omega) (by simp [sz])
  rw [put_alive] at hP
  have HP := Lib.hid hP
  have hb123 := (hb1.trans (hb2.mono hb1.size)).trans (hb3.mono (Nat.le_trans hb1.size hb2.size))
  have HB3 := Lib.hid hb123
  clear hP hb1 hb2 hb3 hs1 hs2 hs3 hr2 hb123
  have HRO := Lib.hid hro
  clear hro
  go_enter Try.func7, Try.ntmps7
  go_wp2_with fail
  with_reducible refine HP.out.mono ?_
  rintro e w4 ⟨⟨a4, c4, vs4, rfl, hk4⟩, hb4⟩
  have HB4 := Lib.hid (HB3.out.trans (hb4.mono HB3.out.size))
  have HK4 := Lib.hid hk4
  obtain ⟨W5, hW5⟩ : ∃ U, w4.alloc (.cells #[.int .i64 1] 3) = U := ⟨_, rfl⟩
  have hb5 : Below w4.heap.size w4 W5 := by rw [← hW5]; exact (Below.refl _ _).alloc (Nat.le_refl _) _
  have hs5 : Sl W5 (some ⟨w4.heap.size, 0, none⟩) 1 1 (ints [1]) := by rw [← hW5]; exact sl_one w4 1
  have hok4 : KeptOk [([[1]], [1])] := fun k hk => by rw [List.mem_singleton] at hk; subst hk; exact HRO.out
  have hK := known_any W5 a4 1 c4 vs4 _ (hk4.next hb5).slK hok4 (by simp [sz]) (some ⟨w4.heap.size, 0, none⟩) 1 1 [1] hs5
  rw [known_alive] at hK
  have HKN := Lib.hid hK
  have HOK4 := Lib.hid hok4
  have HB5 := Lib.hid hb5
  clear hb4 hk4 hb5 hs5 hok4 hK hW1 hW2 hW3
  go_wp2_with fail
  with_reducible refine HKN.out.mono ?_
  rintro e w6 ⟨a6, c6, vals6, rfl, ho6, hb6⟩
  have hb46 := HB5.out.trans (hb6.mono HB5.out.size)
  have hK2 := known_any w6 a4 1 c4 vs4 _ (HK4.out.next hb46).slK HOK4.out (by simp [sz]) none 0 0 [] (Sl.nil w6)
  rw [known_dead] at hK2
  have HK2 := Lib.hid hK2
  have HB6 := Lib.hid (HB4.out.trans (hb46.mono HB4.out.size))
  clear ho6 hb6 hb46 hK2 hW5
  go_wp2_with fail
  with_reducible refine HK2.out.mono ?_
  rintro e w7 ⟨a7, c7, vals7, rfl, ho7, hb7⟩
  have HB7 := Lib.hid (HB6.out.trans (hb7.mono HB6.out.size))
  clear ho7 hb7
  go_wp2_with fail
  go_ret
  exact ⟨rfl, HB7.out⟩

set_option maxHeartbeats 2000000 in
theorem refSame_any (w : World) (a : Option Addr) (n c : Nat) (xs : List Int) (hsl : Sl w a n c (ints xs)) (hw : Clause.Wf xs) (hn : n ≤ 1073741824) (a2 : Option Addr) (n2 c2 : Nat) (ys : List Int) (hsl2 : Sl w a2 n2 c2 (ints ys)) (hw2 : Clause.Wf ys) (hn2 : n2 ≤ 1073741824) :
    Calls Try.prog 22 #[.slice a n c, .slice a2 n2 c2] w fun e w' => e = .returned (.bool (decide (norm xs = norm ys))) ∧ Below w.heap.size w w' := by
  have N1 := Lib.hid (RefC.norm_any w a n c xs hsl hw hn)
  have HS2 := Lib.hid hsl2
  have HW2 := Lib.hid hw2
  have HN2 := Lib.hid hn2
  clear hsl hsl2 hw hw2 hn hn2
  go_enter Try.func22, Try.ntmps22
  go_wp2_with fail
  refine N1.out.mono ?_; rintro e w1 ⟨a1, c1, rfl, hown1, hb1⟩
  have N2 := Lib.hid (RefC.norm_any w1 a2 n2 c2 ys (HS2.out.next hb1) HW2.out HN2.out)
  have HSL1 := Lib.hid (own_slI hown1)
  have HB1 := Lib.hid hb1
  clear hown1 hb1
  generalize RefC.always (norm xs) = q1 at *
  generalize RefC.always (norm ys) = q2 at *
  generalize hL1 : norm xs = L1 at *
  generalize hL2 : norm ys = L2 at *
  have HLL := Lib.hid (And.intro hL1 hL2)
  clear hL1 hL2
  generalize hl1 : L1.length = m1 at *
  generalize hl2 : L2.length = m2 at *
  clear hl1
  go_wp2_with fail
  refine N2.out.mono ?_; rintro e w2 ⟨a3, c3, rfl, hown2, hb2⟩
  rw [hl2] at hown2 ⊢
  have E := Lib.hid (Plain.sameInts_q w2 a1 a3 m1 m2 c1 c3 L1 L2 (HSL1.out.next hb2) (own_slI hown2))
  have HB2 := Lib.hid (HB1.out.trans (hb2.mono HB1.out.size))
  clear hown2 hb2 hl2
  go_wp2_with fail
  refine E.out.mono ?_; rintro e w3 ⟨rfl, q, rfl⟩
  go_wp2_with fail
  go_ret
  exact ⟨ret_bool (by rw [HLL.out.1, HLL.out.2]), below_drewN HB2.out q⟩

/-- Clauses that are short. -/
def Short (l : List (List Int)) : Prop := ∀ x ∈ l, x.length ≤ 1073741824

set_option maxHeartbeats 2000000 in
theorem lawHas_any (w : World) (a : Option Addr) (n c : Nat) (vals : List Value) (l : List (List Int)) (hsl : Sl2 w a n c vals l) (hok : RowsOk l) (hsh : Short l) (a2 : Option Addr) (n2 c2 : Nat) (x : List Int) (hx : Sl w a2 n2 c2 (ints x)) (hwx : Clause.Wf x) (hnx : n2 ≤ 1073741824) :
    Calls Try.prog 9 #[.slice a n c, .slice a2 n2 c2] w fun e w' => e = .returned (.bool (hasC l x)) ∧ Below w.heap.size w w' := by
  have hcap := hsl.sl.cap
  have hbig := hsl.sl.big
  have hln : l.length = n := hsl.len
  have HS := Lib.hid hsl
  have HOK := Lib.hid hok
  have HSH := Lib.hid hsh
  have HX := Lib.hid hx
  have HWX := Lib.hid hwx
  have HNX := Lib.hid hnx
  have HLN := Lib.hid hln
  clear hsl hok hsh hx hwx hnx hln
  go_enter Try.func9, Try.ntmps9
  go_wp2_with fail
  go_loopw [5] (fun s wr => ∃ k : Nat, k ≤ n ∧ s = .int .i64 k ∧ Hid (hasC (l.take k) x = false) ∧ Hid (Below w.heap.size w wr)) (fun s _ => n - (intOf s).toNat)
  case atStart => exact ⟨0, Nat.zero_le _, rfl, rfl, Below.refl _ _⟩
  case round =>
    obtain ⟨k, hk, rfl, hI, hB⟩ := hrel
    by_cases hlt : k < n
    · obtain ⟨b, o, ax, cx, hx2, rfl, hbs, e0, hsx, _⟩ := (HS.out.next hB.out).at hlt
      have HR := Lib.hid (refSame_any wr ax _ cx l[k] hsx (HOK.out _ (List.getElem_mem hx2)).1 (HSH.out _ (List.getElem_mem hx2)) a2 n2 c2 x (HX.out.next hB.out) HWX.out HNX.out)
      have HT := Lib.hid (List.take_succ_eq_append_getElem hx2)
      have HMEM := Lib.hid (List.getElem_mem hx2)
      generalize l[k] = y at *
      clear hsx
      generalize hq : decide (norm y = norm x) = q at *
      have HQ := Lib.hid hq
      clear hq
      cases q
      · go_wp2_with fail
        with_reducible refine HR.out.mono ?_
        rintro e w1 ⟨rfl, hb1⟩
        have HB1 := Lib.hid (hB.out.trans (hb1.mono hB.out.size))
        clear hb1
        go_wp2_with fail
        go_roundw
        case rel =>
          refine ⟨k + 1, by omega, by go_num, ?_, HB1.out⟩
          show _ = _
          rw [HT.out]
          unfold hasC
          rw [List.any_append]
          have h := hI.out
          unfold hasC at h
          rw [h]
          have h2 := of_decide_eq_false HQ.out
          simp
          exact fun e => h2 e.symm
        case measure => simp [intOf]; omega
      · go_wp2_with fail
        with_reducible refine HR.out.mono ?_
        rintro e w1 ⟨rfl, hb1⟩
        have HB1 := Lib.hid (hB.out.trans (hb1.mono hB.out.size))
        clear hb1
        go_wp2_with fail
        go_ret
        exact ⟨ret_bool (has_iff.2 ⟨y, HMEM.out, (of_decide_eq_true HQ.out).symm⟩).symm, HB1.out⟩
    · have hke : k = n := by omega
      subst hke
      have HF : Hid (hasC l x = false) := by
        have h := hI.out
        rw [List.take_of_length_le (Nat.le_of_eq HLN.out)] at h
        exact h
      go_wp2_with fail
      go_ret
      exact ⟨ret_bool HF.out.symm, hB.out⟩

theorem trim_mem {l : List Kp} {k : Kp} (h : k ∈ trim l) : k ∈ l := by
  induction l with
  | nil => exact h
  | cons x r ih =>
    unfold trim at h
    split at h
    · exact List.mem_cons_of_mem _ (ih h)
    · exact h
theorem trim_len (l : List Kp) : (trim l).length ≤ l.length := by
  induction l with
  | nil => simp [trim]
  | cons x r ih =>
    unfold trim
    split
    · simp; omega
    · simp
theorem put_mem {l m : List Kp} {inv : List (List Int)} {tags : List Int} (h : put l inv tags = some m) {k : Kp} (hk : k ∈ m) : k ∈ l ∨ k = (inv, srt tags) := by
  unfold put at h
  split at h
  · cases h
  · simp only [Option.some.injEq] at h
    subst h
    have := trim_mem hk
    rcases List.mem_append.1 this with h | h
    · exact .inl h
    · exact .inr (List.mem_singleton.1 h)
theorem put_len {l m : List Kp} {inv : List (List Int)} {tags : List Int} (h : put l inv tags = some m) : m.length ≤ l.length + 1 := by
  unfold put at h
  split at h
  · cases h
  · simp only [Option.some.injEq] at h
    subst h
    refine Nat.le_trans (trim_len _) ?_
    simp
theorem put_inv {l m : List Kp} {inv : List (List Int)} {tags : List Int} (h : put l inv tags = some m) : inv.length ≤ 256 ∧ inv.length ≠ 0 := by
  unfold put at h
  split at h
  · cases h
  · rename_i hc
    omega
end Keep
end Go.Proofs.Ytdpmfcfelncbeaa
