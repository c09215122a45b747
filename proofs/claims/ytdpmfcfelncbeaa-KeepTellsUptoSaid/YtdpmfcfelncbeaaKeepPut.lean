/-
  keep.Put: clauses more.
-/
import Derived.Test.YtdpmfcfelncbeaaKeepSz
import Derived.Test.YtdpmfcfelncbeaaKeepA
import Derived.Test.YtdpmfcfelncbeaaLitsSorted
namespace Go.Proofs.Ytdpmfcfelncbeaa
open Go.RowKit Base
set_option linter.unusedVariables false
set_option linter.unusedSimpArgs false
namespace Keep
open Vals (srt srt_spec srt_one)

theorem srt_len (zs : List Int) : (srt zs).length ≤ zs.length := by
  unfold srt
  refine Nat.le_trans (CompI.compact_le _) ?_
  simp

/-- What Put tells. -/
def PutOut (B : Nat) (r : Option (List Kp)) (e : Ending) (w' : World) : Prop :=
  match r with
  | none => e = .returned (.tuple #[.slice none 0 0, .bool false])
  | some m => ∃ a' c' vs', e = .returned (.tuple #[.slice a' m.length c', .bool true]) ∧ KOwn w' B a' m.length c' vs' m

def lenOf : Value → Nat
  | .slice _ n _ => n
  | _ => 0

theorem drop_last {r : List Kp} {last : Kp} {k : Kp} (h : ∃ m, k :: r = m ++ [last]) (hr : r ≠ []) : ∃ m, r = m ++ [last] := by
  obtain ⟨m, hm⟩ := h
  cases m with
  | nil => simp at hm; exact absurd hm.2 hr
  | cons x m => simp at hm; exact ⟨m, hm.2⟩

set_option maxRecDepth 8000 in
set_option maxHeartbeats 16000000 in
theorem put_any (w : World) (a : Option Addr) (n c : Nat) (vs : List (List Value)) (l : List Kp) (hsl : SlK w a n c vs l) (hok : KeptOk l) (hfit : ∀ k ∈ l, Fit1 k) (hn : (n + 1) * 48 ≤ 140737488355328) (ai : Option Addr) (ni ci : Nat) (vi : List Value) (inv : List (List Int)) (hsi : Sl2 w ai ni ci vi inv) (hoi : RowsOk inv)
    (at' : Option Addr) (nt ct : Nat) (tags : List Int) (hst : Sl w at' nt ct (ints tags)) (hnt : nt * 8 ≤ 140737488355328) (hz : sz l + inv.length ≤ 9223372036854775807) :
    Calls Try.prog 10 #[.slice a n c, .slice ai ni ci, .slice at' nt ct] w fun e w' => PutOut w.heap.size (put l inv tags) e w' ∧ Below w.heap.size w w' := by
  have hni : inv.length = ni := hsi.len
  have hnl : l.length = n := hsl.len
  have hntl : tags.length = nt := by have := hst.len; rwa [ints_len] at this
  have HSD := Lib.hid (said_any w a n c vs l hsl hok ai ni ci vi inv hsi hoi at' nt ct tags hst)
  have hci1 := hsi.sl.cap
  have hci2 := hsi.sl.big
  have hc1 := hsl.sl.cap
  have hc2 := hsl.sl.big
  have HNI := Lib.hid hni
  have hput : put l inv tags = if inv.length = 0 ∨ 256 < inv.length ∨ said l inv tags = true then none else some (trim (l ++ [(inv, srt tags)])) := rfl
  rw [hni] at hput hz
  have HP := Lib.hid hput
  have HSL := Lib.hid hsl
  have HFIT := Lib.hid hfit
  have HN := Lib.hid hn
  have HSI := Lib.hid hsi
  have HOI := Lib.hid hoi
  have HST := Lib.hid hst
  have HNT := Lib.hid hnt
  have HZ := Lib.hid hz
  have HNL := Lib.hid hnl
  have HZ0 : Hid (sz (l ++ [(inv, srt tags)]) ≤ sz l + ni) := by
    show _ ≤ _
    unfold sz
    rw [List.map_append, List.sum_append]
    simp
    omega
  have HL0 : Hid ((l ++ [(inv, srt tags)]).length ≤ n + 1) := by show _ ≤ _; rw [List.length_append, hnl]; exact Nat.le_refl _
  have HTL := Lib.hid hntl
  generalize hq : put l inv tags = pr at *
  clear hq hput hsl hfit hn hsi hoi hst hnt hz hok hni hnl hntl
  by_cases h0 : ni = 0
  · subst h0
    have HR : Hid (pr = none) := by show _ = _; rw [HP.out]; simp
    clear HSD
    go_enter Try.func10, Try.ntmps10
    go_wp2_with fail
    refine bodyPost_ret (v := .tuple #[.slice none 0 0, .bool false]) (by simp [results, Try.results10, go_sem]) rfl ?_
    rw [HR.out]
    exact ⟨rfl, Below.refl _ _⟩
  · have hd0 : ((ni : Int) == 0) = false := by simp; omega
    by_cases h1 : 256 < ni
    · have hd1 : decide ((256 : Int) < (ni : Int)) = true := decide_eq_true (by omega)
      have HR : Hid (pr = none) := by show _ = _; rw [HP.out, if_pos (.inr (.inl h1))]
      clear HSD h0
      go_enter Try.func10, Try.ntmps10
      go_wp2_with fail
      refine bodyPost_ret (v := .tuple #[.slice none 0 0, .bool false]) (by simp [results, Try.results10, go_sem]) rfl ?_
      rw [HR.out]
      exact ⟨rfl, Below.refl _ _⟩
    · have hd1 : decide ((256 : Int) < (ni : Int)) = false := decide_eq_false (by omega)
      have H0 := Lib.hid h0
      have H1 := Lib.hid h1
      clear h0 h1
      generalize hsd : said l inv tags = q at *
      have HQ := Lib.hid hsd
      clear hsd
      cases q
      · have HR : Hid (pr = some (trim (l ++ [(inv, srt tags)]))) := by show _ = _; rw [HP.out, if_neg (fun h => h.elim H0.out (fun h => h.elim H1.out (fun h => by cases h)))]
        go_enter Try.func10, Try.ntmps10
        go_wp2_with fail
        with_reducible refine HSD.out.mono ?_
        rintro e w3 ⟨rfl, hb3⟩
        have HB3 := Lib.hid hb3
        have hz0 : (0 : Int) ≤ (n : Int) := by omega
        have hz1 : (n : Int) ≤ (c : Int) := by omega
        clear hb3
        go_upto_region 3 with fail
        have hD : Below w3.heap.size w3 w3.drew := (Below.refl _ _).drew
        have hBD := HB3.out.trans (hD.mono HB3.out.size)
        refine HeldTo.region (fun _ : World => True) 99 (by kernel_rfl) ?_
        (refine HeldTo.plain (i := 0) (oi := _) (d := some 23) (v := ?_) rfl rfl (by kernel_rfl) (by kernel_rfl) (by kernel_rfl) (by kernel_rfl) (fun _ _ _ h => h) (Or.inl ⟨by rfl, ?_⟩) (fun _ => trivial) ?_; rotate_left; (focus (intro w hSw; clear hSw; go_simp; (try with_reducible rfl); done)); (try simp only [Act.put, List.setIfInBounds_toArray, List.set_cons_zero, List.set_cons_succ]))
        (refine HeldTo.plain (i := 1) (oi := _) (d := some 24) (v := ?_) rfl rfl (by kernel_rfl) (by kernel_rfl) (by kernel_rfl) (by kernel_rfl) (fun _ _ _ h => h) (Or.inl ⟨by rfl, ?_⟩) (fun _ => trivial) ?_; rotate_left; (focus (intro w hSw; clear hSw; go_simp; (try with_reducible rfl); done)); (try simp only [Act.put, List.setIfInBounds_toArray, List.set_cons_zero, List.set_cons_succ]))
        (refine HeldTo.plain (i := 2) (oi := _) (d := some 25) (v := ?_) rfl rfl (by kernel_rfl) (by kernel_rfl) (by kernel_rfl) (by kernel_rfl) (fun _ _ _ h => h) (Or.inl ⟨by rfl, ?_⟩) (fun _ => trivial) ?_; rotate_left; (focus (intro w hSw; clear hSw; go_simp; (try with_reducible rfl); done)); (try simp only [Act.put, List.setIfInBounds_toArray, List.set_cons_zero, List.set_cons_succ]))
        (refine HeldTo.plain (i := 3) (oi := _) (d := some 26) (v := ?_) rfl rfl (by kernel_rfl) (by kernel_rfl) (by kernel_rfl) (by kernel_rfl) (fun _ _ _ h => h) (Or.inl ⟨by rfl, ?_⟩) (fun _ => trivial) ?_; rotate_left; (focus (intro w hSw; clear hSw; go_simp; (try with_reducible rfl); done)); (try simp only [Act.put, List.setIfInBounds_toArray, List.set_cons_zero, List.set_cons_succ]))
        (refine HeldTo.plain (i := 4) (oi := _) (d := some 27) (v := ?_) rfl rfl (by kernel_rfl) (by kernel_rfl) (by kernel_rfl) (by kernel_rfl) (fun _ _ _ h => h) (Or.inl ⟨by rfl, ?_⟩) (fun _ => trivial) ?_; rotate_left; (focus (intro w hSw; clear hSw; go_simp; (try with_reducible rfl); done)); (try simp only [Act.put, List.setIfInBounds_toArray, List.set_cons_zero, List.set_cons_succ]))
        (refine HeldTo.plain (i := 5) (oi := _) (d := some 28) (v := ?_) rfl rfl (by kernel_rfl) (by kernel_rfl) (by kernel_rfl) (by kernel_rfl) (fun _ _ _ h => h) (Or.inl ⟨by rfl, ?_⟩) (fun _ => trivial) ?_; rotate_left; (focus (intro w hSw; clear hSw; go_simp; (try with_reducible rfl); done)); (try simp only [Act.put, List.setIfInBounds_toArray, List.set_cons_zero, List.set_cons_succ]))
        (refine HeldTo.plain (i := 6) (oi := _) (d := some 29) (v := ?_) rfl rfl (by kernel_rfl) (by kernel_rfl) (by kernel_rfl) (by kernel_rfl) (fun _ _ _ h => h) (Or.inl ⟨by rfl, ?_⟩) (fun _ => trivial) ?_; rotate_left; (focus (intro w hSw; clear hSw; go_simp; (try with_reducible rfl); done)); (try simp only [Act.put, List.setIfInBounds_toArray, List.set_cons_zero, List.set_cons_succ]))
        (refine HeldTo.plain (i := 7) (oi := _) (d := some 30) (v := ?_) rfl rfl (by kernel_rfl) (by kernel_rfl) (by kernel_rfl) (by kernel_rfl) (fun _ _ _ h => h) (Or.inl ⟨by rfl, ?_⟩) (fun _ => trivial) ?_; rotate_left; (focus (intro w hSw; clear hSw; go_simp; (try with_reducible rfl); done)); (try simp only [Act.put, List.setIfInBounds_toArray, List.set_cons_zero, List.set_cons_succ]))
        refine HeldTo.call (i := 8) (oi := _) (d := some 31) (R := fun v w' => ∃ a' c', v = .slice a' (srt tags).length c' ∧ w'.ownsRow w3.drew.heap.size 3 1 (.slice a' (srt tags).length c') (srt tags).length (ints (srt tags)) ∧ Below w3.drew.heap.size w3.drew w') rfl rfl (by kernel_rfl) (by rfl) (by go_simp; done) ((Vals.lits_any w3.drew at' nt ct tags (HST.out.next hBD) HNT.out).mono (fun e w' ⟨a', c', he, ho, hb⟩ => ⟨_, he, a', c', rfl, ho, hb⟩)) ?_
        rintro v w4 ⟨b4, d4, rfl, ho4, hb4⟩
        refine ⟨trivial, ?_⟩
        (try simp only [Act.put, List.setIfInBounds_toArray, List.set_cons_zero, List.set_cons_succ])
        (refine HeldTo.plain (i := 9) (oi := _) (d := some 32) (v := ?_) rfl rfl (by kernel_rfl) (by kernel_rfl) (by kernel_rfl) (by kernel_rfl) (fun _ _ _ h => h) (Or.inl ⟨by rfl, ?_⟩) (fun _ => trivial) ?_; rotate_left; (focus (intro w hSw; clear hSw; go_simp; (try with_reducible rfl); done)); (try simp only [Act.put, List.setIfInBounds_toArray, List.set_cons_zero, List.set_cons_succ]))
        obtain ⟨w5, hw5⟩ : ∃ U, w4.alloc (.cells #[.slice ai ni ci, .slice b4 (srt tags).length d4] 34) = U := ⟨_, rfl⟩
        have hb5 : Below w4.heap.size w4 w5 := by rw [← hw5]; exact (Below.refl _ _).alloc (Nat.le_refl _) _
        (refine HeldTo.make (i := 10) (oi := _) (d := some 33) (v := .slice (some ⟨w4.heap.size, 0, none⟩) 1 1) (w2 := w5) rfl rfl (by kernel_rfl) (by rfl) (by go_simp; done) trivial ?_; (try simp only [Act.put, List.setIfInBounds_toArray, List.set_cons_zero, List.set_cons_succ]))
        have x5 := BoxN.new w4 #[.slice ai ni ci, .slice b4 (srt tags).length d4] 34
        rw [hw5] at x5
        have hb45 := (hBD.trans (hb4.mono hBD.size)).trans (hb5.mono (Nat.le_trans hBD.size hb4.size))
        have hsl5 := HSL.out.next hb45
        have hr5 : ∀ r ∈ vs, r.length = 2 := fun r hr => by
          obtain ⟨i, hi⟩ := List.getElem?_of_mem hr
          exact (hsl5.sl.cell i r hi).1
        (refine HeldTo.grows (i := 11) (oi := _) (d := some 34) rfl rfl (by kernel_rfl) (by rfl) _ _ 22 rfl a n n vs.flatten ⟨w4.heap.size, 0, none⟩ 1 1 [.slice ai ni ci, .slice b4 (srt tags).length d4] info_kept Try.underlying22 rfl (by decide) (by rfl) (by rfl) (fun h => by have := hsl5.sl.bare h; exact ⟨this.1, this.1⟩) (by rw [flat_len hr5, hsl5.sl.len]) (fun b hb j u hu => by subst hb; exact hsl5.sl.flat (by decide) j u hu) rfl (by intro j u hu; rw [Addr.add_lit, Nat.zero_add]; exact x5.at' j u hu) (by intro u hu; simp only [List.mem_cons, List.not_mem_nil, or_false] at hu; rcases hu with rfl | rfl <;> rfl) (by omega) (by have := HN.out; omega) HN.out ?_)
        intro v6 w6 hown6 hg6
        refine ⟨trivial, ?_⟩
        obtain ⟨b6, d6, rfl⟩ : ∃ g cap, v6 = .slice (some ⟨g, 0, none⟩) (n + 1) cap := by
          rcases hown6.2 with ⟨_, h0⟩ | ⟨g, cap, _, rfl, _⟩
          · omega
          · exact ⟨g, cap, rfl⟩
        (try simp only [Act.put, List.setIfInBounds_toArray, List.set_cons_zero, List.set_cons_succ])
        have hb6 : Below w5.heap.size w5 w6 := (Below.refl _ _).grown hg6 (Nat.le_refl _) (fun q hq => by cases hq)
        have hb36 := hb45.trans (hb6.mono hb45.size)
        have hfl : (vs ++ ([[.slice ai ni ci, .slice b4 (srt tags).length d4]] : List (List Value))).flatten = vs.flatten ++ ([.slice ai ni ci, .slice b4 (srt tags).length d4] : List Value) := by rw [List.flatten_append]; simp
        rw [← hfl] at hown6
        have htag6 := own_next (own_next ho4 hb5) hb6
        have hsk6 : SlK w6 (some ⟨b6, 0, none⟩) (n + 1) d6 (vs ++ [[.slice ai ni ci, .slice b4 (srt tags).length d4]]) (l ++ [(inv, srt tags)]) := by
          obtain ⟨a', c', hv, hs⟩ := own_slT (by decide) (by intro r hr; rcases List.mem_append.1 hr with hr | hr; exact hr5 r hr; rw [List.mem_singleton] at hr; rw [hr]; rfl) (by rw [List.length_append, hsl5.sl.len]; rfl) hown6
          simp only [Value.slice.injEq, true_and] at hv
          obtain ⟨rfl, rfl⟩ := hv
          refine ⟨hs, by rw [List.length_append, HNL.out]; rfl, fun i u y hu hy => ?_⟩
          by_cases hin : i < n
          · rw [List.getElem?_append_left (by rw [hsl5.sl.len]; exact hin)] at hu
            rw [List.getElem?_append_left (by rw [HNL.out]; exact hin)] at hy
            exact (hsl5.row i u y hu hy).next hb6
          · rw [List.getElem?_append_right (by rw [hsl5.sl.len]; omega)] at hu
            rw [List.getElem?_append_right (by rw [HNL.out]; omega)] at hy
            have e : i - vs.length = 0 := by
              have := (List.getElem?_eq_some_iff.1 hu).1
              simpa using this
            rw [e] at hu
            rw [HNL.out, ← hsl5.sl.len, e] at hy
            simp only [List.getElem?_cons_zero, Option.some.injEq] at hu hy
            subst hu; subst hy
            have hni := HNI.out
            subst hni
            exact ⟨ai, ci, vi, b4, d4, rfl, HSI.out.next hb36, own_slI htag6⟩
        have hf6 : ∀ k ∈ l ++ [(inv, srt tags)], Fit1 k := fun k hk => by
          rcases List.mem_append.1 hk with hk | hk
          · exact HFIT.out k hk
          · rw [List.mem_singleton] at hk
            subst hk
            refine ⟨?_, ?_, fun x hx => (HOI.out x hx).2⟩
            · have h1 := HNI.out; have h2 := H1.out; simp only; omega
            · have h1 := srt_len tags; have h2 := HTL.out; have h3 := HNT.out; simp only; omega
        (refine HeldTo.call (i := 12) (oi := _) (d := some 35) (R := fun v w' => ∃ a' c' vs', v = .slice a' (n + 1) c' ∧ KOwn w' w6.heap.size a' (n + 1) c' vs' (l ++ [(inv, srt tags)]) ∧ Below w6.heap.size w6 w') rfl rfl (by kernel_rfl) (by rfl) (by go_simp; done) ((copied_any w6 (some ⟨b6, 0, none⟩) (n + 1) d6 _ _ hsk6 HN.out hf6).mono (fun e w' ⟨a', c', vs', he, ho, hb⟩ => ⟨_, he, a', c', vs', rfl, ho, hb⟩)) ?_)
        rintro v w7 ⟨b7, d7, v7, rfl, hk7, hb7⟩
        refine ⟨trivial, ?_⟩
        (try simp only [Act.put, List.setIfInBounds_toArray, List.set_cons_zero, List.set_cons_succ])
        (refine HeldTo.plain (i := 13) (oi := _) (d := some 8) (v := ?_) rfl rfl (by kernel_rfl) (by kernel_rfl) (by kernel_rfl) (by kernel_rfl) (fun _ _ _ h => h) (Or.inl ⟨by rfl, ?_⟩) (fun _ => trivial) ?_; rotate_left; (focus (intro w hSw; clear hSw; go_simp; (try with_reducible rfl); done)); (try simp only [Act.put, List.setIfInBounds_toArray, List.set_cons_zero, List.set_cons_succ]))
        refine HeldTo.done (by kernel_rfl) ?_ _
        have hb37 := hb36.trans (hb7.mono hb36.size)
        have HB7 := Lib.hid hb37
        have HK7 := Lib.hid (hk7.mono hb36.size)
        clear hk7 hb7 hb37 hf6 hsk6 htag6 hfl hb36 hb6 hown6 hg6 hr5 hsl5 hb45 x5 hb5 hw5 ho4 hb4 hBD hD hz0 hz1
        go_wp2_with fail
        go_loopw [8] (fun s wr => ∃ (l' : List Kp) (a' : Option Addr) (c' : Nat) (vs' : List (List Value)), s = .slice a' l'.length c' ∧ Hid (KMid wr w.heap.size a' l'.length c' vs' l') ∧ Hid (trim (l ++ [(inv, srt tags)]) = trim l') ∧ Hid (∃ m, l' = m ++ [(inv, srt tags)]) ∧ Hid (sz l' ≤ sz l + ni) ∧ Hid (l'.length ≤ n + 1) ∧ Hid (Below w.heap.size w wr)) (fun s _ => lenOf s)
        case atStart =>
          refine ⟨l ++ [(inv, srt tags)], b7, d7, v7, by rw [List.length_append, HNL.out]; rfl, by show KMid _ _ _ _ _ _ _; rw [List.length_append, HNL.out]; exact HK7.out.mid, rfl, ⟨l, rfl⟩, ?_, ?_, HB7.out⟩
          · exact HZ0.out
          · exact HL0.out
        case round =>
          obtain ⟨l', a', c', vs', rfl, hM, hT, hL, hZ, hLN, hB⟩ := hrel
          have HSZ := Lib.hid (size_any wr a' l'.length c' vs' l' hM.out.slK (Nat.le_trans hZ.out HZ.out))
          have hcx := hM.out.sl.cap
          have hcy := hM.out.sl.big
          by_cases hbig : 256 < sz l'
          · have hd2 : decide ((256 : Int) < ((sz l' : Nat) : Int)) = true := decide_eq_true (by omega)
            have HBG := Lib.hid hbig
            clear hbig
            cases l' with
            | nil => exact absurd hL.out (by rintro ⟨m, hm⟩; simp at hm)
            | cons k r =>
              have HTT := Lib.hid (trim_tail HBG.out)
              have hrn : r ≠ [] := fun h => by
                subst h
                obtain ⟨m, hm⟩ := hL.out
                have hk : k = (inv, srt tags) := by
                  cases m with
                  | nil => simpa using hm
                  | cons x m => simp at hm
                have h1 := HBG.out
                rw [hk] at h1
                have h2 := H1.out
                have h3 := HNI.out
                simp [sz] at h1
                exact h2 (by rw [← h3]; exact h1)
              obtain ⟨b, o, hae⟩ : ∃ b o, a' = some ⟨b, o, none⟩ := by
                obtain ⟨b, o, _, _, _, _, _, _, ha, _⟩ := hM.out.slK.at (i := 0) (by simp)
                exact ⟨b, o, ha⟩
              subst hae
              obtain ⟨m, hm⟩ : ∃ m, r.length = m + 1 := ⟨r.length - 1, by have := List.length_pos_iff.2 hrn; omega⟩
              have HM := Lib.hid hm
              have HRN := Lib.hid hrn
              generalize hsz : sz (k :: r) = q at *
              have HQZ := Lib.hid hsz
              rw [List.length_cons] at hM hcx hLN HSZ ⊢
              rw [hm] at hM hcx hLN HSZ ⊢
              clear hsz hm hrn
              go_wp2_with fail
              with_reducible refine HSZ.out.mono ?_
              rintro e w8 ⟨rfl, hb8⟩
              have HB8 := Lib.hid hb8
              clear hb8
              go_wp2_with fail
              go_roundw
              case rel =>
                obtain ⟨v0, vt, hv⟩ : ∃ v0 vt, vs' = v0 :: vt := by
                  have := hM.out.sl.len
                  cases vs' with
                  | nil => simp at this
                  | cons x y => exact ⟨x, y, rfl⟩
                subst hv
                refine ⟨r, some ⟨b, o + 2, none⟩, c' - 1, vt, by rw [HM.out], ?_, hT.out.trans HTT.out, drop_last hL.out HRN.out, ?_, ?_, hB.out.trans (HB8.out.mono hB.out.size)⟩
                · show KMid _ _ _ _ _ _ _
                  rw [HM.out]
                  exact (hM.out.tail).next HB8.out
                · show _ ≤ _
                  refine Nat.le_trans ?_ hZ.out
                  rw [← HQZ.out]
                  unfold sz
                  simp
                · show _ ≤ _
                  rw [HM.out]
                  have := hLN.out
                  omega
              case measure => show m + 1 < m + 1 + 1; omega
          · have hd2 : decide ((256 : Int) < ((sz l' : Nat) : Int)) = false := decide_eq_false (by omega)
            have HTE := Lib.hid (hT.out.trans (trim_eq (Nat.not_lt.1 hbig)))
            clear hbig
            generalize sz l' = q at *
            have HLB := Lib.hid (Nat.le_trans (Nat.mul_le_mul_right 48 hLN.out) HN.out)
            have HCL := Lib.hid (fun (U : World) (hU : Below wr.heap.size wr U) => clone_any U w.heap.size a' l'.length c' vs' l' (hM.out.next hU) HLB.out (Nat.le_trans hB.out.size hU.size))
            generalize hln : l'.length = m at *
            have HLN := Lib.hid hln
            clear hln
            go_wp2_with fail
            with_reducible refine HSZ.out.mono ?_
            rintro e w8 ⟨rfl, hb8⟩
            have HC8 := Lib.hid (HCL.out w8 hb8)
            have HB8 := Lib.hid (hB.out.trans (hb8.mono hB.out.size))
            clear hb8
            go_wp2_with fail
            with_reducible refine HC8.out.mono ?_
            rintro e w9 ⟨a9, c9, rfl, hk9, hb9⟩
            have HK9 := Lib.hid hk9
            have HB9 := Lib.hid (HB8.out.trans (hb9.mono HB8.out.size))
            clear hk9 hb9
            go_wp2_with fail
            refine bodyPost_ret (v := .tuple #[.slice a9 m c9, .bool true]) (by simp [results, Try.results10, go_sem]) rfl ?_
            refine ⟨?_, HB9.out⟩
            rw [HR.out, HTE.out]
            have hln := HLN.out
            subst hln
            exact ⟨a9, c9, vs', rfl, HK9.out⟩
      · have HR : Hid (pr = none) := by show _ = _; rw [HP.out, if_pos (.inr (.inr rfl))]
        go_enter Try.func10, Try.ntmps10
        go_wp2_with fail
        with_reducible refine HSD.out.mono ?_
        rintro e w3 ⟨rfl, hb3⟩
        have HB3 := Lib.hid hb3
        clear hb3
        go_wp2_with fail
        refine bodyPost_ret (v := .tuple #[.slice none 0 0, .bool false]) (by simp [results, Try.results10, go_sem]) rfl ?_
        rw [HR.out]
        exact ⟨rfl, HB3.out⟩
end Keep
end Go.Proofs.Ytdpmfcfelncbeaa
