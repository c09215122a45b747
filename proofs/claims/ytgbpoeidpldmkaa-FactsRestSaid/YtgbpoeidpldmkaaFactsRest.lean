/-
  interlocklaw29.FactsRest: the walk: behind a retraction no fact rests on what is gone; what does not rest on it stays.
-/
import Derived.Test.YtgbpoeidpldmkaaFactJ
import Derived.Test.YtgbpoeidpldmkaaLex
namespace Go.Proofs.Ytgbpoeidpldmkaa.factsRest
open Go.RowKit Base Fact
set_option linter.unusedVariables false
set_option linter.unusedSimpArgs false

structure Fine (t : Tb) (R : Tb × List Int × Int) : Prop where
  next : R.1.next = t.next
  depth : R.1.depth = t.depth
  ok : tableOk R.1 = true
  count : R.1.facts.length + R.2.1.length = t.facts.length
  clean : ∀ x ∈ R.1.facts, ∀ i ∈ x.tags, i ∉ R.2.1
  len : t.facts.length ≤ 64
  wf : WfF R.1.facts

theorem spec (t : Tb) (hw : WfF t.facts) (id : Int) : (retract t id).2.2 ≠ 0 ∧ (retract t id).1.facts = [] ∧ (retract t id).2.1 = [] ∨ (retract t id).2.2 = 0 ∧ Fine t (retract t id) := by
  unfold retract
  by_cases hok : tableOk t = true
  · rw [if_pos hok]
    by_cases hany : (t.facts.any fun f => f.id == id) = true
    · rw [if_pos hany]
      have I := inv_of (fun f => f.id == id) t.facts (ok_of hok).good
      have hsub : ∀ f ∈ rest t.facts (gids (fun f => f.id == id) t.facts), f ∈ t.facts := fun f hf => (List.mem_filter.1 hf).1
      exact .inr ⟨rfl, rfl, rfl, ok_to (ok_rest (ok_of hok) _), I.count, I.clean, (ok_of hok).len, ⟨fun f hf => hw.lits f (hsub f hf), fun f hf => hw.tags f (hsub f hf)⟩⟩
    · rw [if_neg hany]
      exact .inl ⟨by decide, rfl, rfl⟩
  · rw [if_neg hok]
    exact .inl ⟨by decide, rfl, rfl⟩

set_option maxRecDepth 8000 in
set_option maxHeartbeats 16000000 in
theorem walk {w : World} (t : Tb) (a : Option Addr) (c : Nat) (vs : List (List Value)) (s : SlF w a t.facts.length c vs t.facts) (hw : WfF t.facts) (id : Int) (_ : -9223372036854775808 ≤ id ∧ id ≤ 9223372036854775807) (W : World) (hW : W = w) :
    Calls Try.prog 3 #[tagg t a c, .int .i64 id] W fun e W' => e = .returned (.bool true) ∧ Below W.heap.size W W' := by
  subst hW
  have HRT := Lib.hid (fun (U : World) (hU : Below W.heap.size W U) => retract_any U t a c vs (s.next hU) hw id)
  have HSP := Lib.hid (spec t hw id)
  have hcap := s.sl.cap
  have hbig := s.sl.big
  have HTA := Lib.hid (fun (U : World) (R : Tb) (a9 : Option Addr) (c9 : Nat) (v9 : List (List Value)) (h9 : SlF U a9 R.facts.length c9 v9 R.facts) (hR : WfF R.facts) => table_any U R a9 c9 v9 h9 hR)
  clear s hw
  unfold tagg at *
  obtain ⟨W1, hW1⟩ : ∃ U, W.alloc (.cells #[.int .i64 t.next, .int .i64 t.depth, .slice a t.facts.length c] 24) = U := ⟨_, rfl⟩
  obtain ⟨hb1, x1⟩ := tbox _ _ _ _ _ _ _ hW1
  have HB1 := Lib.hid hb1
  have HX1 := Lib.hid x1
  have HAL := Lib.hid (alive_any W1)
  clear hb1 x1
  generalize retract t id = R at *
  obtain ⟨u, ids, er⟩ := R
  simp only at HRT HSP
  go_enter Try.func3, Try.ntmps3
  go_wp2_with fail
  with_reducible refine HAL.out.mono ?_
  rintro e w2 ⟨rfl, hb2⟩
  have HB2 := Lib.hid (HB1.out.trans (hb2.mono HB1.out.size))
  have HX2 := Lib.hid (HX1.out.next hb2 HX1.out.lt)
  have HR2 := Lib.hid (HRT.out w2 HB2.out)
  have q0 := HX2.out.at' 0 _ rfl
  have q1 := HX2.out.at' 1 _ rfl
  have q2 := HX2.out.at' 2 _ rfl
  clear hb2 hW1
  go_wp2_with fail
  with_reducible refine HR2.out.mono ?_
  rintro e w3 ⟨a3, c3, vs3, ai, ci, rfl, hk3, ho3, hb3⟩
  obtain ⟨W4, hW4⟩ : ∃ U, w3.alloc (.cells #[.int .i64 u.next, .int .i64 u.depth, .slice a3 u.facts.length c3] 24) = U := ⟨_, rfl⟩
  obtain ⟨hb4, x4⟩ := tbox _ _ _ _ _ _ _ hW4
  have hb34 := hb3.trans (hb4.mono hb3.size)
  have HX4 := Lib.hid x4
  have HX24 := Lib.hid (HX2.out.next hb34 HX2.out.lt)
  have HK4 := Lib.hid (hk3.next hb4)
  have HO4 := Lib.hid (own_next ho3 hb4)
  have HB4 := Lib.hid (HB2.out.trans (hb34.mono HB2.out.size))
  have HW4 := Lib.hid hW4
  clear hb3 hk3 ho3 hb4 x4 hb34 q0 q1 q2 hW4
  rcases HSP.out with ⟨hne, hf, hi⟩ | ⟨h0, hfine⟩
  · have hn1 : u.facts.length = 0 := by rw [hf]; rfl
    have hn2 : ids.length = 0 := by rw [hi]; rfl
    have hd : (er != 0) = true := by simp [hne]
    have p2 := HX4.out.at' 2 _ rfl
    rw [hn1] at p2
    rw [hn1] at HW4
    rw [hn1, hn2]
    clear hf hi hne HSP
    go_upto_region 4 with fail
    rw [HW4.out]
    go_wp2_with fail
    go_ret
    exact ⟨rfl, HB4.out⟩
  · subst h0
    have HF := Lib.hid hfine
    have hcu := HK4.out.slF.sl.cap
    have hbu := HK4.out.slF.sl.big
    have hci := (own_slI HO4.out).cap
    have hbi := (own_slI HO4.out).big
    clear hfine HSP
    generalize hm : u.facts.length = m at *
    generalize hn : ids.length = n at *
    have HM := Lib.hid hm
    have HN := Lib.hid hn
    clear hm hn
    go_upto_region 4 with fail
    rw [HW4.out]
    go_wp2_with fail
    go_loopw [8] (fun s wr => ∃ k : Nat, k ≤ m ∧ s = .int .i64 k ∧ Hid (Below W4.heap.size W4 wr)) (fun s _ => m - (intOf s).toNat)
    case atStart => exact ⟨0, Nat.zero_le _, rfl, Below.refl _ _⟩
    case round =>
      obtain ⟨k, hk, rfl, hB⟩ := hrel
      have p2 := (HX4.out.next hB.out HX4.out.lt).at' 2 _ rfl
      by_cases hlt : k < m
      · obtain ⟨b, o, a1, c1, a2, c2, hx, hae, hbs, ⟨d0, d1, d2, d3, d4⟩, hs1, hs2, _⟩ := (HK4.out.slF).at hlt
        subst hae
        have HCL := Lib.hid (HF.out.clean _ (List.getElem_mem hx))
        generalize u.facts[k] = y at *
        have HS2 := Lib.hid hs2
        have hct := hs2.cap
        have hbt := hs2.big
        have HD4 := Lib.hid (fun (U : World) (hU : Below W4.heap.size W4 U) => (hU.cell (p := ⟨b, o + k * 5 + 4, none⟩) hbs).trans d4)
        have HP2 := Lib.hid (fun (U : World) (hU : Below W4.heap.size W4 U) => (HX4.out.next hU HX4.out.lt).at' 2 _ rfl)
        clear hs1 hs2 d0 d1 d2 d3 d4 hbs
        go_wp2_with fail
        clear p2
        generalize wr = wo at *
        go_loopw [9] (fun s wr => ∃ j : Nat, j ≤ y.tags.length ∧ s = .int .i64 j ∧ Hid (Below W4.heap.size W4 wr)) (fun s _ => y.tags.length - (intOf s).toNat)
        case atStart => exact ⟨0, Nat.zero_le _, rfl, hB⟩
        case round =>
          generalize wr = wp at *
          obtain ⟨j, hj, rfl, hB5⟩ := hrel
          have p2 := HP2.out wp hB5.out
          have d4 := HD4.out wp hB5.out
          by_cases hjl : j < y.tags.length
          · obtain ⟨b2, o2, hx2, hae2, hbs2, e2⟩ := HS2.out.int hjl
            have HAE := Lib.hid hae2
            have HCJ := Lib.hid (HCL.out _ (List.getElem_mem hx2))
            have HE2 := Lib.hid (fun (U : World) (hU : Below W4.heap.size W4 U) => (hU.cell (p := ⟨b2, o2 + j, none⟩) hbs2).trans e2)
            generalize y.tags[j] = x at *
            clear hae2 hbs2 e2 hx2
            go_wp2_with fail
            generalize wp = wv at *
            go_loopw [10] (fun s wr => ∃ i : Nat, i ≤ n ∧ s = .int .i64 i ∧ Hid (Below W4.heap.size W4 wr)) (fun s _ => n - (intOf s).toNat)
            case atStart => exact ⟨0, Nat.zero_le _, rfl, hB5⟩
            case round =>
              generalize wr = wq at *
              obtain ⟨i, hi, rfl, hB6⟩ := hrel
              by_cases hil : i < n
              · obtain ⟨b3, o3, hx3, hae3, hbs3, e3⟩ := ((own_slI HO4.out).next hB6.out).int hil
                subst hae3
                have hne : (x == ids[i]) = false := by
                  have h := HCJ.out
                  simp
                  intro e
                  exact h (e ▸ List.getElem_mem hx3)
                have HS := fun (U : World) (hU : Below wq.heap.size wq U) => (⟨hU, HP2.out U (hB6.out.trans (hU.mono hB6.out.size)), (HD4.out U (hB6.out.trans (hU.mono hB6.out.size))).trans (by rw [HAE.out]), HE2.out U (hB6.out.trans (hU.mono hB6.out.size)), (hU.cell (p := ⟨b3, o3 + i, none⟩) hbs3).trans e3⟩ : Below wq.heap.size wq U ∧ U.cell? ⟨w3.heap.size, 2, none⟩ = some (.slice (some ⟨b, o, none⟩) m c3) ∧ U.cell? ⟨b, o + k * 5 + 4, none⟩ = some (.slice (some ⟨b2, o2, none⟩) y.tags.length c2) ∧ U.cell? ⟨b2, o2 + j, none⟩ = some (.int .i64 x) ∧ U.cell? ⟨b3, o3 + i, none⟩ = some (.int .i64 ids[i]))
                have HFI := Lib.hid (HS wq.drew (Below.refl _ _).drew)
                generalize ids[i] = z at *
                clear HS e3 hbs3 hx3 d4 p2
                go_upto_region 15 with fail
                refine Lex.region (fun w' => Below wq.heap.size wq w' ∧ w'.cell? ⟨w3.heap.size, 2, none⟩ = some (.slice (some ⟨b, o, none⟩) m c3) ∧ w'.cell? ⟨b, o + k * 5 + 4, none⟩ = some (.slice (some ⟨b2, o2, none⟩) y.tags.length c2) ∧ w'.cell? ⟨b2, o2 + j, none⟩ = some (.int .i64 x) ∧ w'.cell? ⟨b3, o3 + i, none⟩ = some (.int .i64 z)) (by kernel_rfl) (by kernel_rfl) HFI.out ?_
                repeat (first
                  | (refine Lex.step_val (v := ?_) ?_ (fun w' hSw => ?_) ?_; rotate_left; (focus (go_simp; done)); (focus ((try dsimp only at hSw); go_simp; (try with_reducible rfl); done)); (try simp only [Act.put, List.setIfInBounds_toArray, List.set_cons_zero, List.set_cons_succ]))
                  | (refine Lex.step_off ?_ ?_; (focus (first | (go_simp; done) | (simp [Region.wanted, yielded, undef]; done) | rfl)); (try simp only [Act.put, List.setIfInBounds_toArray, List.set_cons_zero, List.set_cons_succ]))
                  | fail)
                refine Lex.step_nil ?_
                intro wz hz
                go_wp2_with fail
                go_roundw
                case rel => exact ⟨i + 1, by omega, by go_num, hB6.out.trans (hz.1.mono hB6.out.size)⟩
                case measure => simp [intOf]; omega
              · clear d4 p2
                go_wp2_with fail
                go_roundw
                case rel => exact ⟨j + 1, by omega, by go_num, hB6⟩
                case measure => simp [intOf]; omega
          · go_wp2_with fail
            go_roundw
            case rel => exact ⟨k + 1, by omega, by go_num, hB5⟩
            case measure => simp [intOf]; omega
      · have xo := HX4.out.next hB.out HX4.out.lt
        have xt := HX24.out.next hB.out HX24.out.lt
        have HXO := Lib.hid xo
        have HXT := Lib.hid xt
        have p0 := xo.at' 0 _ rfl
        have p1 := xo.at' 1 _ rfl
        have g0 := xt.at' 0 _ rfl
        have g1 := xt.at' 1 _ rfl
        have g2 := xt.at' 2 _ rfl
        have hT := HTA.out wr u a3 c3 vs3 (by rw [HM.out]; exact (HK4.out.next hB.out).slF) HF.out.wf
        rw [if_pos HF.out.ok, HM.out] at hT
        have HT := Lib.hid hT
        have hsum : ((m : Int) + (n : Int) == (t.facts.length : Int)) = true := by
          have := HF.out.count
          simp only at this
          rw [HM.out, HN.out] at this
          simp
          omega
        have hml : m + n ≤ 64 := by
          have := HF.out.count
          have h2 := HF.out.len
          simp only at this
          rw [HM.out, HN.out] at this
          omega
        have hnx : (u.next == t.next) = true := by have := HF.out.next; simp only at this; simp [this]
        have hdp : (u.depth == t.depth) = true := by have := HF.out.depth; simp only at this; simp [this]
        clear xo xt hT
        go_wp2_with fail
        with_reducible refine HT.out.mono ?_
        rintro e w5 ⟨rfl, hb5⟩
        have xo := HXO.out.next hb5 HXO.out.lt
        have xt := HXT.out.next hb5 HXT.out.lt
        have r0 := xo.at' 0 _ rfl
        have r1 := xo.at' 1 _ rfl
        have k0 := xt.at' 0 _ rfl
        have k1 := xt.at' 1 _ rfl
        have HB5 := Lib.hid (hB.out.trans (hb5.mono hB.out.size))
        clear xo xt hb5
        go_wp2_with fail
        go_ret
        exact ⟨rfl, HB4.out.trans (HB5.out.mono HB4.out.size)⟩
end Go.Proofs.Ytgbpoeidpldmkaa.factsRest
