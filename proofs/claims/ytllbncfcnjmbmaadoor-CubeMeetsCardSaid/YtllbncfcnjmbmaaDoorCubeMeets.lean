/-
  The walk of the law CubeMeets.
-/
import Derived.Test.YtllbncfcnjmbmaaDoorMeetsAll
import Derived.Test.YtllbncfcnjmbmaaDoorLex
import Derived.Deep.CutBlock
namespace Go.Proofs.YtllbncfcnjmbmaaDoor
open Go.RowKit Base
set_option linter.unusedVariables false
set_option linter.unusedSimpArgs false
namespace cubeMeets
open Circuit MeetsP First Fill

theorem find_more {α : Type} {p : α → Bool} {l : List α} {k : Nat} (hk : k < l.length) (h : (l.take k).find? p = none) : (l.take (k + 1)).find? p = if p l[k] then some l[k] else none := by
  rw [List.take_succ_eq_append_getElem hk, List.find?_append, h, Option.none_or, List.find?_cons]
  cases p l[k] <;> simp
theorem find_hit {α : Type} {p : α → Bool} {l : List α} {k : Nat} {s : α} (h : (l.take k).find? p = some s) : l.find? p = some s := by
  conv => lhs; rw [← List.take_append_drop k l]
  rw [List.find?_append, h]; rfl
theorem any_more {α : Type} {p : α → Bool} {l : List α} {k : Nat} (hk : k < l.length) : (l.take (k + 1)).any p = ((l.take k).any p || p l[k]) := by
  rw [List.take_succ_eq_append_getElem hk, List.any_append]; simp
theorem all_le (V : Nat) (h : V ≤ 6) : (AllS.allS V).length ≤ 64 := by
  rw [AllS.allS_len]
  have : 2 ^ V ≤ 2 ^ 6 := Nat.pow_le_pow_right (by decide) h
  omega
theorem all_pos (V : Nat) : 0 < (AllS.allS V).length := by rw [AllS.allS_len]; exact Nat.pow_pos (by decide)

set_option maxRecDepth 20000 in
set_option maxHeartbeats 16000000 in
theorem walk (x : Circ) (p : At) {w : World} (hin : InCirc w x p) (hw : WfC x) (hz : x.ands.length * 24 ≤ 140737488351232) (a0 : Option Addr) (c0 : Nat) (l : List Int) (hs : Sl w a0 l.length c0 (ints l)) (hl : Clause.Wf l) (zl : l.length * 8 ≤ 140737488351232) (W : World) (hW : W = w) :
    Calls Tryd.prog 3 #[.agg (cells x p), .slice a0 l.length c0] W fun e W' => e = .returned (.bool true) ∧ Below W.heap.size W W' := by
  subst hW
  obtain ⟨a1, b1, a2, b2, a3, b3, a4, b4, a5, b5, a6, b6, a7, b7⟩ := p
  obtain ⟨W1, hW1⟩ : ∃ U, W.alloc (.cells (cells x ⟨a1, b1, a2, b2, a3, b3, a4, b4, a5, b5, a6, b6, a7, b7⟩) 27) = U := ⟨_, rfl⟩
  obtain ⟨hb1, hx1⟩ := cbox_new W x _ W1 hW1
  have HX1 := Lib.hid hx1
  have HB1 := Lib.hid hb1
  have hlc := hs.cap
  have hlb := hs.big
  have hcp := hin.lats.cap
  have hcb := hin.lats.big
  have HRF := Lib.hid (fun (U : World) (hb : Below W1.heap.size W1 U) => refCheck_any U x _ ((hin.next hb1).next hb) hw (by omega))
  have HFI := Lib.hid (fun (U : World) (hb : Below W1.heap.size W1 U) => fill_any U x _ ((hin.next hb1).next hb) hw a0 c0 l ((hs.next hb1).next hb) hl)
  have HME := Lib.hid (fun (U : World) (hb : Below W1.heap.size W1 U) => meets_any U x _ ((hin.next hb1).next hb) hw a0 c0 l ((hs.next hb1).next hb) hl)
  have HAP := Lib.hid (fun (U : World) (hb : Below W1.heap.size W1 U) => apart_any U x _ ((hin.next hb1).next hb) hw a0 c0 l ((hs.next hb1).next hb) hl)
  have HII := Lib.hid (fun (U : World) (hb : Below W1.heap.size W1 U) (s : ByteArray) (hsz : s.size ≤ 9223372036854775807) => Initial.initial_any U x _ ((hin.next hb1).next hb) s hsz)
  have HCI := Lib.hid (fun (U : World) (hb : Below W1.heap.size W1 U) (s : ByteArray) (hsz : s.size ≤ 9223372036854775807) => Cube.in_any U a0 l.length c0 l ((hs.next hb1).next hb) hl s hsz)
  have HSL := Lib.hid (fun (U : World) (hb : Below W1.heap.size W1 U) => (hs.next hb1).next hb)
  have HWF := Lib.hid hl
  have HZL := Lib.hid zl
  have hrk := refchk_eq x
  by_cases hk : CheckOk x
  · rw [hrk, chk_pos hk] at HRF
    have HE : Hid (fillE x l = (if okF x l then 0 else 51) ∧ fillS x l = if okF x l then bestS x.lats l else ⟨#[]⟩) := by
      unfold Hid fillE fillS
      rw [tt_pos hk, if_pos rfl, Bool.true_and]
      exact ⟨rfl, rfl⟩
    have HA : Hid (apartL x l = (l.find? (Strange.strangeB x.lats)).getD 0) := by
      show _ = _
      unfold apartL; rw [tt_pos hk, if_pos rfl]
    have hV64 : x.lats.length ≤ 64 := hk.1.2.2.2.1
    clear hk hrk hin hw hz hs hl hb1 hx1 zl
    by_cases h6 : x.lats.length ≤ 6
    · have HAL := Lib.hid (fun (U : World) => AllS.all_any U x.lats.length (by omega))
      have h64 := all_le _ h6
      have hpos := all_pos x.lats.length
      have HSZ : Hid (∀ s ∈ AllS.allS x.lats.length, s.size ≤ 9223372036854775807) := by
        intro s hsm
        rw [AllS.allS_size _ s hsm]; omega
      have HF1 : Hid ((AllS.allS x.lats.length).find? (pq x.lats l) = (if okF x l then some (bestS x.lats l) else none)) := by
        show _ = _
        unfold okF
        cases hst : (l.map (Strange.strangeB x.lats)).any id
        · cases hic : CubeP.inC l (best x.lats l)
          · have := law_none hst hic x.lats.length
            rw [List.find?_eq_none.2 (fun t ht hp => by have := List.any_eq_false.1 this t ht; exact this hp)]; rfl
          · rw [law_some hic]; rfl
        · have := law_strange (by omega) hst x.lats.length
          rw [List.find?_eq_none.2 (fun t ht hp => by have := List.any_eq_false.1 this t ht; exact this hp)]; rfl
      have HLA := Lib.hid (fun a => law_apart (lats := x.lats) (by omega) a)
      have HPQ : Hid (∀ t, pq x.lats l t = (Initial.initialB x.lats t && CubeP.inC l t.data.toList)) := fun t => rfl
      unfold cells at *
      go_enter Tryd.func3, Tryd.ntmps3
      go_wp2_with fail
      with_reducible refine (cubeIn.alive _).mono ?_
      rintro e w2 ⟨rfl, hb2⟩
      have HB2 := Lib.hid hb2
      clear hb2
      obtain ⟨_, q0, q1, q2, q3, q4, q5, q6, q7⟩ := HX1.out.next HB2.out (Nat.le_refl _)
      go_wp2_with fail
      with_reducible refine (HRF.out _ HB2.out).mono ?_
      rintro e w3 ⟨rfl, hb3⟩
      have HB3 := Lib.hid (HB2.out.trans (hb3.mono HB2.out.size))
      clear hb3 q0 q1 q2 q3 q4 q5 q6 q7
      have q2 := (HX1.out.next HB3.out (Nat.le_refl _)).k2
      go_wp2_with fail
      with_reducible refine (HAL.out _).mono ?_
      rintro e w4 ⟨aL, cL, rfl, hown, hb4⟩
      have HB4 := Lib.hid (HB3.out.trans (hb4.mono HB3.out.size))
      obtain ⟨aL', cL', hv4, hsl4⟩ := own_sl hown
      simp only [Value.slice.injEq] at hv4
      obtain ⟨rfl, _, rfl⟩ := hv4
      obtain ⟨g, o, hx0, rfl, hg0, hc0⟩ := AllS.str_at hsl4 hpos
      clear hx0 hg0 hc0
      have hLc := hsl4.cap
      have hLb := hsl4.big
      have HSS4 : Hid (∀ (U : World), Below w4.heap.size w4 U → ∀ (k : Nat) (s : ByteArray), (AllS.allS x.lats.length)[k]? = some s → U.cell? ⟨g, o + k, none⟩ = some (.string s)) := by
        intro U hb k s hks
        obtain ⟨hlt, rfl⟩ := List.getElem?_eq_some_iff.1 hks
        obtain ⟨b', o', hx', ha', _, hc'⟩ := AllS.str_at (hsl4.next hb) hlt
        simp only [Option.some.injEq, Addr.mk.injEq, and_true] at ha'
        obtain ⟨rfl, rfl⟩ := ha'
        exact hc'
      have HLN : Hid ((AllS.allS x.lats.length).length = (AllS.allS x.lats.length).length) := rfl
      clear hown hsl4 hb4 q2 HAL HRF
      generalize AllS.allS x.lats.length = L at *
      generalize hN : L.length = N at *
      have HN := Lib.hid hN
      clear hN HLN
      go_upto_block 0 with fail
      go_cut [8, 9] (fun f s wx => ∃ r : Option ByteArray, f = .string (r.getD ⟨#[]⟩) ∧ s = .bool r.isSome ∧ Hid (L.find? (pq x.lats l) = r) ∧ Hid (Below w4.heap.size w4 wx))
      case first =>
        go_wp2_with fail
        go_loopw [8, 9, 10] (fun f s i wr => ∃ (k : Nat) (r : Option ByteArray), k ≤ N ∧ i = .int .i64 k ∧ f = .string (r.getD ⟨#[]⟩) ∧ s = .bool r.isSome ∧ Hid ((L.take k).find? (pq x.lats l) = r) ∧ Hid (Below w4.heap.size w4 wr)) (fun _ s i _ => N - (intOf i).toNat)
        case atStart => exact ⟨0, none, Nat.zero_le _, rfl, rfl, rfl, rfl, Below.refl _ _⟩
        case round =>
          obtain ⟨k, r, hkN, rfl, rfl, rfl, hR, hB⟩ := hrel
          have HBr := Lib.hid (HB4.out.trans (hB.out.mono HB4.out.size))
          have HBS := Lib.hid hB.out.size
          by_cases hgo : k < N ∧ r = none
          · obtain ⟨hlt, rfl⟩ := hgo
            have hkl : k < L.length := by have := HN.out; omega
            have HFM := Lib.hid (find_more hkl hR.out)
            have hgt : L[k]? = some L[k] := List.getElem?_eq_getElem hkl
            have HC4 := Lib.hid (fun (U : World) (hb : Below w4.heap.size w4 U) => HSS4.out U hb k _ hgt)
            have hsz := HSZ.out _ (List.getElem_mem hkl)
            rw [HPQ.out] at HFM
            generalize L[k] = s at *
            have HSS : Hid (∀ w', Below wr.heap.size wr w' → Below wr.heap.size wr w' ∧ w'.cell? ⟨W.heap.size, 0, none⟩ = some (.int .i64 x.max) ∧ w'.cell? ⟨W.heap.size, 1, none⟩ = some (.slice a1 x.ins.length b1) ∧ w'.cell? ⟨W.heap.size, 2, none⟩ = some (.slice a2 x.lats.length b2) ∧ w'.cell? ⟨W.heap.size, 3, none⟩ = some (.slice a3 x.outs.length b3) ∧ w'.cell? ⟨W.heap.size, 4, none⟩ = some (.slice a4 x.bads.length b4) ∧ w'.cell? ⟨W.heap.size, 5, none⟩ = some (.slice a5 x.invs.length b5) ∧ w'.cell? ⟨W.heap.size, 6, none⟩ = some (.slice a6 x.ands.length b6) ∧ w'.cell? ⟨W.heap.size, 7, none⟩ = some (.slice a7 x.names.length b7) ∧ w'.cell? ⟨g, o + k, none⟩ = some (.string s)) := by
              intro w' hb
              have hx := HX1.out.next (HBr.out.trans (hb.mono HBr.out.size)) (Nat.le_refl _)
              exact ⟨hb, hx.k0, hx.k1, hx.k2, hx.k3, hx.k4, hx.k5, hx.k6, hx.k7, HC4.out w' (hB.out.trans (hb.mono HBS.out))⟩
            have HI2 : Hid (∀ w', (Below wr.heap.size wr w' ∧ w'.cell? ⟨W.heap.size, 0, none⟩ = some (.int .i64 x.max) ∧ w'.cell? ⟨W.heap.size, 1, none⟩ = some (.slice a1 x.ins.length b1) ∧ w'.cell? ⟨W.heap.size, 2, none⟩ = some (.slice a2 x.lats.length b2) ∧ w'.cell? ⟨W.heap.size, 3, none⟩ = some (.slice a3 x.outs.length b3) ∧ w'.cell? ⟨W.heap.size, 4, none⟩ = some (.slice a4 x.bads.length b4) ∧ w'.cell? ⟨W.heap.size, 5, none⟩ = some (.slice a5 x.invs.length b5) ∧ w'.cell? ⟨W.heap.size, 6, none⟩ = some (.slice a6 x.ands.length b6) ∧ w'.cell? ⟨W.heap.size, 7, none⟩ = some (.slice a7 x.names.length b7) ∧ w'.cell? ⟨g, o + k, none⟩ = some (.string s)) → Calls Tryd.prog 10 #[.agg (cells x ⟨a1, b1, a2, b2, a3, b3, a4, b4, a5, b5, a6, b6, a7, b7⟩), .string s] w' fun e w'' => e = .returned (.bool (Initial.initialB x.lats s)) ∧ (Below wr.heap.size wr w'' ∧ w''.cell? ⟨W.heap.size, 0, none⟩ = some (.int .i64 x.max) ∧ w''.cell? ⟨W.heap.size, 1, none⟩ = some (.slice a1 x.ins.length b1) ∧ w''.cell? ⟨W.heap.size, 2, none⟩ = some (.slice a2 x.lats.length b2) ∧ w''.cell? ⟨W.heap.size, 3, none⟩ = some (.slice a3 x.outs.length b3) ∧ w''.cell? ⟨W.heap.size, 4, none⟩ = some (.slice a4 x.bads.length b4) ∧ w''.cell? ⟨W.heap.size, 5, none⟩ = some (.slice a5 x.invs.length b5) ∧ w''.cell? ⟨W.heap.size, 6, none⟩ = some (.slice a6 x.ands.length b6) ∧ w''.cell? ⟨W.heap.size, 7, none⟩ = some (.slice a7 x.names.length b7) ∧ w''.cell? ⟨g, o + k, none⟩ = some (.string s))) := fun w' h => (HII.out w' (HBr.out.trans (h.1.mono HBr.out.size)) s hsz).mono fun e w'' h2 => ⟨h2.1, HSS.out w'' (h.1.trans (h2.2.mono h.1.size))⟩
            have HC2 : Hid (∀ w', (Below wr.heap.size wr w' ∧ w'.cell? ⟨W.heap.size, 0, none⟩ = some (.int .i64 x.max) ∧ w'.cell? ⟨W.heap.size, 1, none⟩ = some (.slice a1 x.ins.length b1) ∧ w'.cell? ⟨W.heap.size, 2, none⟩ = some (.slice a2 x.lats.length b2) ∧ w'.cell? ⟨W.heap.size, 3, none⟩ = some (.slice a3 x.outs.length b3) ∧ w'.cell? ⟨W.heap.size, 4, none⟩ = some (.slice a4 x.bads.length b4) ∧ w'.cell? ⟨W.heap.size, 5, none⟩ = some (.slice a5 x.invs.length b5) ∧ w'.cell? ⟨W.heap.size, 6, none⟩ = some (.slice a6 x.ands.length b6) ∧ w'.cell? ⟨W.heap.size, 7, none⟩ = some (.slice a7 x.names.length b7) ∧ w'.cell? ⟨g, o + k, none⟩ = some (.string s)) → Calls Tryd.prog 11 #[.slice a0 l.length c0, .string s] w' fun e w'' => e = .returned (.bool (CubeP.inC l s.data.toList)) ∧ (Below wr.heap.size wr w'' ∧ w''.cell? ⟨W.heap.size, 0, none⟩ = some (.int .i64 x.max) ∧ w''.cell? ⟨W.heap.size, 1, none⟩ = some (.slice a1 x.ins.length b1) ∧ w''.cell? ⟨W.heap.size, 2, none⟩ = some (.slice a2 x.lats.length b2) ∧ w''.cell? ⟨W.heap.size, 3, none⟩ = some (.slice a3 x.outs.length b3) ∧ w''.cell? ⟨W.heap.size, 4, none⟩ = some (.slice a4 x.bads.length b4) ∧ w''.cell? ⟨W.heap.size, 5, none⟩ = some (.slice a5 x.invs.length b5) ∧ w''.cell? ⟨W.heap.size, 6, none⟩ = some (.slice a6 x.ands.length b6) ∧ w''.cell? ⟨W.heap.size, 7, none⟩ = some (.slice a7 x.names.length b7) ∧ w''.cell? ⟨g, o + k, none⟩ = some (.string s))) := fun w' h => (HCI.out w' (HBr.out.trans (h.1.mono HBr.out.size)) s hsz).mono fun e w'' h2 => ⟨h2.1, HSS.out w'' (h.1.trans (h2.2.mono h.1.size))⟩
            have HS0 := Lib.hid (HSS.out wr.drew (Below.refl _ _).drew)
            unfold cells at HI2
            generalize Initial.initialB x.lats s = I at *
            generalize CubeP.inC l s.data.toList = C at *
            clear hgt hsz hkl
            cases I <;> cases C
            all_goals
              go_wp2_with fail
              refine Lex.region (fun w' => (Below wr.heap.size wr w' ∧ w'.cell? ⟨W.heap.size, 0, none⟩ = some (.int .i64 x.max) ∧ w'.cell? ⟨W.heap.size, 1, none⟩ = some (.slice a1 x.ins.length b1) ∧ w'.cell? ⟨W.heap.size, 2, none⟩ = some (.slice a2 x.lats.length b2) ∧ w'.cell? ⟨W.heap.size, 3, none⟩ = some (.slice a3 x.outs.length b3) ∧ w'.cell? ⟨W.heap.size, 4, none⟩ = some (.slice a4 x.bads.length b4) ∧ w'.cell? ⟨W.heap.size, 5, none⟩ = some (.slice a5 x.invs.length b5) ∧ w'.cell? ⟨W.heap.size, 6, none⟩ = some (.slice a6 x.ands.length b6) ∧ w'.cell? ⟨W.heap.size, 7, none⟩ = some (.slice a7 x.names.length b7) ∧ w'.cell? ⟨g, o + k, none⟩ = some (.string s))) (by kernel_rfl) (by kernel_rfl) HS0.out ?_
              repeat (first
                | (refine Lex.step_val (v := ?_) ?_ (fun w' hSw => ?_) ?_; rotate_left; (focus (go_simp; done)); (focus ((try dsimp only at hSw); go_simp; (try with_reducible rfl); done)); (try simp only [Act.put, List.setIfInBounds_toArray, List.set_cons_zero, List.set_cons_succ]))
                | (refine Lex.step_call (v := ?_) (f := ?_) (args := ?_) ?_ (fun w' hSw => ?_) ?_ ?_; rotate_left 3; (focus (go_simp; done)); (focus ((try dsimp only at hSw); go_simp; (refine And.intro ?_ ?_ <;> with_reducible rfl); done)); (focus (first | with_reducible exact HI2.out | with_reducible exact HC2.out)); (try simp only [Act.put, List.setIfInBounds_toArray, List.set_cons_zero, List.set_cons_succ]))
                | (refine Lex.step_off ?_ ?_; (focus (first | (go_simp; done) | (simp [Region.wanted, yielded, undef]; done) | rfl)); (try simp only [Act.put, List.setIfInBounds_toArray, List.set_cons_zero, List.set_cons_succ]))
                | fail)
              refine Lex.step_nil ?_
              intro wz hz
              obtain ⟨hbz, z0, z1, z2, z3, z4, z5, z6, z7, zs⟩ := hz
              have HBZ := Lib.hid (hB.out.trans (hbz.mono HBS.out))
              clear hbz
              go_wp2_with fail
              go_roundw
              case rel => exact ⟨k + 1, _, by omega, by go_num, rfl, rfl, HFM, HBZ⟩
              case measure => first | (simp [intOf]; done) | (simp [intOf]; omega)
          · have HFN : Hid (L.find? (pq x.lats l) = r) := by
              show _ = _
              cases r with
              | some s => exact find_hit hR.out
              | none =>
                have hkN' : k = L.length := by have := HN.out; by_cases h : k < N; exact absurd ⟨h, rfl⟩ hgo; omega
                have h := hR.out
                rwa [hkN', List.take_length] at h
            have hgo' : r = none → ¬ k < N := fun h h2 => hgo ⟨h2, h⟩
            clear hgo hR
            have hstep : ∀ (P : Prop), (r = none → ¬ k < N → P) → (∀ s, r = some s → k < N → P) → (∀ s, r = some s → ¬ k < N → P) → P := fun P h1 h2 h3 => by
              cases r with
              | none => exact h1 rfl (hgo' rfl)
              | some s =>
                by_cases hk : k < N
                · exact h2 s rfl hk
                · exact h3 s rfl hk
            clear hgo'
            refine hstep _ (fun hr hkn => ?_) (fun s hr hkn => ?_) (fun s hr hkn => ?_)
            all_goals
              subst hr
              clear hstep
              go_wp2_with fail
              go_meet
              exact ⟨_, rfl, rfl, HFN, hB⟩
      case rest =>
        obtain ⟨r, rfl, rfl, HFN, hB⟩ := hcut
        generalize wc = w5 at *
        have HB5 := Lib.hid (HB4.out.trans (hB.out.mono HB4.out.size))
        have HBS := Lib.hid hB.out.size
        have HV : Hid (fillE x l = (if r.isSome then 0 else 51) ∧ fillS x l = r.getD ⟨#[]⟩) := by
          have h1 := HF1.out
          rw [HFN.out] at h1
          unfold Hid
          rw [HE.out.1, HE.out.2, h1]
          cases okF x l <;> exact ⟨rfl, rfl⟩
        clear HFN HF1 HE
        obtain ⟨_, q0, q1, q2, q3, q4, q5, q6, q7⟩ := HX1.out.next HB5.out (Nat.le_refl _)
        have HFW := Lib.hid (HFI.out w5 HB5.out)
        generalize fillE x l = FE at *
        generalize fillS x l = FS at *
        have HIF : Hid (r.isSome = false → r.getD ⟨#[]⟩ = ⟨#[]⟩) := fun h => by cases r with | none => rfl | some s => cases h
        generalize r.getD ⟨#[]⟩ = F at *
        generalize r.isSome = IS at *
        go_wp2_with fail
        with_reducible refine HFW.out.mono ?_
        rintro e w6 ⟨rfl, hb6⟩
        have HB6 := Lib.hid (HB5.out.trans (hb6.mono HB5.out.size))
        have HB46 := Lib.hid (hB.out.trans (hb6.mono HBS.out))
        clear q0 q1 q2 q3 q4 q5 q6 q7 hb6 HFW hB HBS
        go_upto_block 2 with fail
        generalize hn : l.length = n at *
        have HLN := Lib.hid hn
        clear hn
        go_cut [13] (fun ap wx => ap = .int .i64 (apartL x l) ∧ Hid (Below w4.heap.size w4 wx))
        case first =>
          go_wp2_with fail
          go_loopw [13, 14, 15] (fun ap me i wr => ∃ (j : Nat) (r2 : Option Int), j ≤ n ∧ i = .int .i64 j ∧ ap = .int .i64 (r2.getD 0) ∧ me = .bool r2.isSome ∧ Hid ((l.take j).find? (Strange.strangeB x.lats) = r2) ∧ Hid (Below w4.heap.size w4 wr)) (fun _ _ i _ => n - (intOf i).toNat)
          case atStart => exact ⟨0, none, Nat.zero_le _, rfl, rfl, rfl, rfl, HB46⟩
          case round =>
            obtain ⟨j, r2, hjn, rfl, rfl, rfl, hR2, hB⟩ := hrel
            have HBr := Lib.hid (HB4.out.trans (hB.out.mono HB4.out.size))
            have HBS := Lib.hid hB.out.size
            by_cases hgo : j < n ∧ r2 = none
            · obtain ⟨hlt, rfl⟩ := hgo
              simp only [Option.getD_none, Option.isSome_none]
              have hjl : j < l.length := by have := HLN.out; omega
              have HFM := Lib.hid (find_more hjl hR2.out)
              have HSJ : Hid (∀ (U : World), Below W1.heap.size W1 U → ∃ bl ol, a0 = some ⟨bl, ol, none⟩ ∧ U.cell? ⟨bl, ol + j, none⟩ = some (.int .i64 l[j])) := by
                intro U hb
                obtain ⟨bl, ol, hy, ha, _, hc⟩ := (HSL.out U hb).int (k := j) hlt
                exact ⟨bl, ol, ha, hc⟩
              obtain ⟨bl, ol, rfl, _⟩ := HSJ.out _ HBr.out
              have HSK : Hid (∀ U, Below W1.heap.size W1 U → U.cell? ⟨bl, ol + j, none⟩ = some (.int .i64 l[j])) := by
                intro U hb
                obtain ⟨b', o', ha, hc⟩ := HSJ.out U hb
                simp only [Option.some.injEq, Addr.mk.injEq, and_true] at ha
                obtain ⟨rfl, rfl⟩ := ha
                exact hc
              have HYI := Lib.hid (HWF.out l[j] (List.getElem_mem hjl))
              have HLJ := Lib.hid (HLA.out l[j])
              clear HSJ
              generalize l[j] = y at *
              go_wp2_with fail
              generalize wr = wo at *
              go_loopw [16, 17] (fun so kk wr => ∃ (k : Nat), k ≤ N ∧ kk = .int .i64 k ∧ so = .bool ((L.take k).any fun t => Initial.initialB x.lats t && CubeP.is t.data.toList y) ∧ Hid (Below w4.heap.size w4 wr)) (fun _ i _ => N - (intOf i).toNat)
              case atStart => exact ⟨0, Nat.zero_le _, rfl, rfl, hB⟩
              case round =>
                obtain ⟨k, hkN, rfl, rfl, hB⟩ := hrel
                have HBr := Lib.hid (HB4.out.trans (hB.out.mono HB4.out.size))
                have HBS := Lib.hid hB.out.size
                by_cases hlt : k < N
                · have hkl : k < L.length := by have := HN.out; omega
                  have HAM := Lib.hid (any_more (p := fun t => Initial.initialB x.lats t && CubeP.is t.data.toList y) hkl)
                  have hgt : L[k]? = some L[k] := List.getElem?_eq_getElem hkl
                  have HC4 := Lib.hid (fun (U : World) (hb : Below w4.heap.size w4 U) => HSS4.out U hb k _ hgt)
                  have hsz := HSZ.out _ (List.getElem_mem hkl)
                  generalize (L.take k).any (fun t => Initial.initialB x.lats t && CubeP.is t.data.toList y) = A at *
                  generalize L[k] = s at *
                  have HSS : Hid (∀ w', Below wr.heap.size wr w' → Below wr.heap.size wr w' ∧ w'.cell? ⟨W.heap.size, 0, none⟩ = some (.int .i64 x.max) ∧ w'.cell? ⟨W.heap.size, 1, none⟩ = some (.slice a1 x.ins.length b1) ∧ w'.cell? ⟨W.heap.size, 2, none⟩ = some (.slice a2 x.lats.length b2) ∧ w'.cell? ⟨W.heap.size, 3, none⟩ = some (.slice a3 x.outs.length b3) ∧ w'.cell? ⟨W.heap.size, 4, none⟩ = some (.slice a4 x.bads.length b4) ∧ w'.cell? ⟨W.heap.size, 5, none⟩ = some (.slice a5 x.invs.length b5) ∧ w'.cell? ⟨W.heap.size, 6, none⟩ = some (.slice a6 x.ands.length b6) ∧ w'.cell? ⟨W.heap.size, 7, none⟩ = some (.slice a7 x.names.length b7) ∧ w'.cell? ⟨g, o + k, none⟩ = some (.string s) ∧ w'.cell? ⟨bl, ol + j, none⟩ = some (.int .i64 y)) := by
                    intro w' hb
                    have hx := HX1.out.next (HBr.out.trans (hb.mono HBr.out.size)) (Nat.le_refl _)
                    exact ⟨hb, hx.k0, hx.k1, hx.k2, hx.k3, hx.k4, hx.k5, hx.k6, hx.k7, HC4.out w' (hB.out.trans (hb.mono HBS.out)), HSK.out w' (HBr.out.trans (hb.mono HBr.out.size))⟩
                  have HI2 : Hid (∀ w', (Below wr.heap.size wr w' ∧ w'.cell? ⟨W.heap.size, 0, none⟩ = some (.int .i64 x.max) ∧ w'.cell? ⟨W.heap.size, 1, none⟩ = some (.slice a1 x.ins.length b1) ∧ w'.cell? ⟨W.heap.size, 2, none⟩ = some (.slice a2 x.lats.length b2) ∧ w'.cell? ⟨W.heap.size, 3, none⟩ = some (.slice a3 x.outs.length b3) ∧ w'.cell? ⟨W.heap.size, 4, none⟩ = some (.slice a4 x.bads.length b4) ∧ w'.cell? ⟨W.heap.size, 5, none⟩ = some (.slice a5 x.invs.length b5) ∧ w'.cell? ⟨W.heap.size, 6, none⟩ = some (.slice a6 x.ands.length b6) ∧ w'.cell? ⟨W.heap.size, 7, none⟩ = some (.slice a7 x.names.length b7) ∧ w'.cell? ⟨g, o + k, none⟩ = some (.string s) ∧ w'.cell? ⟨bl, ol + j, none⟩ = some (.int .i64 y)) → Calls Tryd.prog 10 #[.agg (cells x ⟨a1, b1, a2, b2, a3, b3, a4, b4, a5, b5, a6, b6, a7, b7⟩), .string s] w' fun e w'' => e = .returned (.bool (Initial.initialB x.lats s)) ∧ (Below wr.heap.size wr w'' ∧ w''.cell? ⟨W.heap.size, 0, none⟩ = some (.int .i64 x.max) ∧ w''.cell? ⟨W.heap.size, 1, none⟩ = some (.slice a1 x.ins.length b1) ∧ w''.cell? ⟨W.heap.size, 2, none⟩ = some (.slice a2 x.lats.length b2) ∧ w''.cell? ⟨W.heap.size, 3, none⟩ = some (.slice a3 x.outs.length b3) ∧ w''.cell? ⟨W.heap.size, 4, none⟩ = some (.slice a4 x.bads.length b4) ∧ w''.cell? ⟨W.heap.size, 5, none⟩ = some (.slice a5 x.invs.length b5) ∧ w''.cell? ⟨W.heap.size, 6, none⟩ = some (.slice a6 x.ands.length b6) ∧ w''.cell? ⟨W.heap.size, 7, none⟩ = some (.slice a7 x.names.length b7) ∧ w''.cell? ⟨g, o + k, none⟩ = some (.string s) ∧ w''.cell? ⟨bl, ol + j, none⟩ = some (.int .i64 y))) := fun w' h => (HII.out w' (HBr.out.trans (h.1.mono HBr.out.size)) s hsz).mono fun e w'' h2 => ⟨h2.1, HSS.out w'' (h.1.trans (h2.2.mono h.1.size))⟩
                  have HC2 : Hid (∀ w', (Below wr.heap.size wr w' ∧ w'.cell? ⟨W.heap.size, 0, none⟩ = some (.int .i64 x.max) ∧ w'.cell? ⟨W.heap.size, 1, none⟩ = some (.slice a1 x.ins.length b1) ∧ w'.cell? ⟨W.heap.size, 2, none⟩ = some (.slice a2 x.lats.length b2) ∧ w'.cell? ⟨W.heap.size, 3, none⟩ = some (.slice a3 x.outs.length b3) ∧ w'.cell? ⟨W.heap.size, 4, none⟩ = some (.slice a4 x.bads.length b4) ∧ w'.cell? ⟨W.heap.size, 5, none⟩ = some (.slice a5 x.invs.length b5) ∧ w'.cell? ⟨W.heap.size, 6, none⟩ = some (.slice a6 x.ands.length b6) ∧ w'.cell? ⟨W.heap.size, 7, none⟩ = some (.slice a7 x.names.length b7) ∧ w'.cell? ⟨g, o + k, none⟩ = some (.string s) ∧ w'.cell? ⟨bl, ol + j, none⟩ = some (.int .i64 y)) → Calls Tryd.prog 12 #[.string s, .int .i64 y] w' fun e w'' => e = .returned (.bool (CubeP.is s.data.toList y)) ∧ (Below wr.heap.size wr w'' ∧ w''.cell? ⟨W.heap.size, 0, none⟩ = some (.int .i64 x.max) ∧ w''.cell? ⟨W.heap.size, 1, none⟩ = some (.slice a1 x.ins.length b1) ∧ w''.cell? ⟨W.heap.size, 2, none⟩ = some (.slice a2 x.lats.length b2) ∧ w''.cell? ⟨W.heap.size, 3, none⟩ = some (.slice a3 x.outs.length b3) ∧ w''.cell? ⟨W.heap.size, 4, none⟩ = some (.slice a4 x.bads.length b4) ∧ w''.cell? ⟨W.heap.size, 5, none⟩ = some (.slice a5 x.invs.length b5) ∧ w''.cell? ⟨W.heap.size, 6, none⟩ = some (.slice a6 x.ands.length b6) ∧ w''.cell? ⟨W.heap.size, 7, none⟩ = some (.slice a7 x.names.length b7) ∧ w''.cell? ⟨g, o + k, none⟩ = some (.string s) ∧ w''.cell? ⟨bl, ol + j, none⟩ = some (.int .i64 y))) := fun w' h => (True.refIs_any s hsz y HYI.out.1 HYI.out.2 w').mono fun e w'' h2 => ⟨h2.1, h2.2 ▸ h⟩
                  have HS0 := Lib.hid (HSS.out wr.drew (Below.refl _ _).drew)
                  unfold cells at HI2
                  generalize Initial.initialB x.lats s = I at *
                  generalize CubeP.is s.data.toList y = C at *
                  clear hgt hsz hkl
                  have hcase : ∀ P : Prop, (A = true → P) → (A = false → I = false → P) → (A = false → I = true → C = false → P) → (A = false → I = true → C = true → P) → P := fun P h1 h2 h3 h4 => by
                    cases A
                    · cases I
                      · exact h2 rfl rfl
                      · cases C
                        · exact h3 rfl rfl rfl
                        · exact h4 rfl rfl rfl
                    · exact h1 rfl
                  refine hcase _ (fun h1 => ?_) (fun h1 h2 => ?_) (fun h1 h2 h3 => ?_) (fun h1 h2 h3 => ?_)
                  all_goals
                    subst h1
                    (try subst h2)
                    (try subst h3)
                    clear hcase
                    go_wp2_with fail
                    refine Lex.region (fun w' => (Below wr.heap.size wr w' ∧ w'.cell? ⟨W.heap.size, 0, none⟩ = some (.int .i64 x.max) ∧ w'.cell? ⟨W.heap.size, 1, none⟩ = some (.slice a1 x.ins.length b1) ∧ w'.cell? ⟨W.heap.size, 2, none⟩ = some (.slice a2 x.lats.length b2) ∧ w'.cell? ⟨W.heap.size, 3, none⟩ = some (.slice a3 x.outs.length b3) ∧ w'.cell? ⟨W.heap.size, 4, none⟩ = some (.slice a4 x.bads.length b4) ∧ w'.cell? ⟨W.heap.size, 5, none⟩ = some (.slice a5 x.invs.length b5) ∧ w'.cell? ⟨W.heap.size, 6, none⟩ = some (.slice a6 x.ands.length b6) ∧ w'.cell? ⟨W.heap.size, 7, none⟩ = some (.slice a7 x.names.length b7) ∧ w'.cell? ⟨g, o + k, none⟩ = some (.string s) ∧ w'.cell? ⟨bl, ol + j, none⟩ = some (.int .i64 y))) (by kernel_rfl) (by kernel_rfl) HS0.out ?_
                    repeat (first
                      | (refine Lex.step_val (v := ?_) ?_ (fun w' hSw => ?_) ?_; rotate_left; (focus (go_simp; done)); (focus ((try dsimp only at hSw); go_simp; (try with_reducible rfl); done)); (try simp only [Act.put, List.setIfInBounds_toArray, List.set_cons_zero, List.set_cons_succ]))
                      | (refine Lex.step_call (v := ?_) (f := ?_) (args := ?_) ?_ (fun w' hSw => ?_) ?_ ?_; rotate_left 3; (focus (go_simp; done)); (focus ((try dsimp only at hSw); go_simp; (refine And.intro ?_ ?_ <;> with_reducible rfl); done)); (focus (first | with_reducible exact HI2.out | with_reducible exact HC2.out)); (try simp only [Act.put, List.setIfInBounds_toArray, List.set_cons_zero, List.set_cons_succ]))
                      | (refine Lex.step_off ?_ ?_; (focus (first | (go_simp; done) | (simp [Region.wanted, yielded, undef]; done) | rfl)); (try simp only [Act.put, List.setIfInBounds_toArray, List.set_cons_zero, List.set_cons_succ]))
                      | fail)
                    refine Lex.step_nil ?_
                    intro wz hz
                    obtain ⟨hbz, _, _, _, _, _, _, _, _, _, _⟩ := hz
                    have HBZ := Lib.hid (hB.out.trans (hbz.mono HBS.out))
                    clear hbz
                    go_wp2_with fail
                    go_roundw
                    case rel => exact ⟨k + 1, by omega, by go_num, by rw [HAM.out]; rfl, HBZ⟩
                    case measure => first | (simp [intOf]; done) | (simp [intOf]; omega)
                · have hkN' : k = L.length := by have := HN.out; omega
                  have HAF : Hid (((L.take k).any fun t => Initial.initialB x.lats t && CubeP.is t.data.toList y) = !Strange.strangeB x.lats y) := by
                    show _ = _
                    rw [hkN', List.take_length]; exact HLJ.out
                  have hy0 := HSK.out wr HBr.out
                  rw [HAF.out]
                  clear hkN' HAF
                  generalize Strange.strangeB x.lats y = T at *
                  cases T
                  all_goals
                    go_wp2_with fail
                    go_roundw
                    case rel => exact ⟨j + 1, _, by omega, by go_num, rfl, rfl, HFM, hB⟩
                    case measure => first | (simp [intOf]; done) | (simp [intOf]; omega)
            · have HAJ : Hid (r2.getD 0 = apartL x l) := by
                show _ = _
                rw [HA.out]
                have hf : l.find? (Strange.strangeB x.lats) = r2 := by
                  cases r2 with
                  | some s => exact find_hit hR2.out
                  | none =>
                    have hkN' : j = l.length := by have := HLN.out; by_cases h : j < n; exact absurd ⟨h, rfl⟩ hgo; omega
                    have h := hR2.out
                    rwa [hkN', List.take_length] at h
                rw [hf]
              have hgo' : r2 = none → ¬ j < n := fun h h2 => hgo ⟨h2, h⟩
              clear hgo hR2
              have hstep : ∀ (P : Prop), (r2 = none → ¬ j < n → P) → (∀ s, r2 = some s → j < n → P) → (∀ s, r2 = some s → ¬ j < n → P) → P := fun P h1 h2 h3 => by
                cases r2 with
                | none => exact h1 rfl (hgo' rfl)
                | some s =>
                  by_cases hk : j < n
                  · exact h2 s rfl hk
                  · exact h3 s rfl hk
              clear hgo'
              refine hstep _ (fun hr hkn => ?_) (fun s hr hkn => ?_) (fun s hr hkn => ?_)
              all_goals
                subst hr
                clear hstep
                go_wp2_with fail
                go_meet
                exact ⟨by rw [← HAJ.out]; first | done | rfl, hB⟩
        case rest =>
          obtain ⟨rfl, hB⟩ := hcut
          generalize wc = w7 at *
          have HB7 := Lib.hid (HB4.out.trans (hB.out.mono HB4.out.size))
          obtain ⟨_, q0, q1, q2, q3, q4, q5, q6, q7⟩ := HX1.out.next HB7.out (Nat.le_refl _)
          have HMW := HME.out w7 HB7.out
          have HAW := HAP
          have hcase : (FE = 51 ∧ FS = ⟨#[]⟩ ∧ F = ⟨#[]⟩ ∧ IS = false) ∨ (FE = 0 ∧ FS = F ∧ IS = true) := by
            obtain ⟨h1, h2⟩ := HV.out
            cases IS
            · exact Or.inl ⟨h1, h2.trans (HIF.out rfl), HIF.out rfl, rfl⟩
            · exact Or.inr ⟨h1, h2, rfl⟩
          clear HV HIF
          rcases hcase with ⟨rfl, rfl, rfl, rfl⟩ | ⟨rfl, rfl, rfl⟩
          all_goals
            have HMW2 := Lib.hid HMW
            clear HMW
            go_wp2_with fail
            with_reducible refine HMW2.out.mono ?_
            rintro e w8 ⟨rfl, hb8⟩
            have HB8 := Lib.hid (HB7.out.trans (hb8.mono HB7.out.size))
            clear hb8 q0 q1 q2 q3 q4 q5 q6 q7
            obtain ⟨_, q0, q1, q2, q3, q4, q5, q6, q7⟩ := HX1.out.next HB8.out (Nat.le_refl _)
            have HAW8 := Lib.hid (HAW.out w8 HB8.out)
            generalize apartL x l = AP at *
            have hap : (AP != AP) = false := by simp
            go_wp2_with fail
            with_reducible refine HAW8.out.mono ?_
            rintro e w9 ⟨rfl, hb9⟩
            have HB9 := Lib.hid (HB8.out.trans (hb9.mono HB8.out.size))
            clear hb9
            go_wp2_with fail
            go_ret
            exact ⟨rfl, HB1.out.trans (HB9.out.mono HB1.out.size)⟩
    · have hd6 : decide ((6 : Int) < (x.lats.length : Int)) = true := decide_eq_true (by omega)
      unfold cells at *
      go_enter Tryd.func3, Tryd.ntmps3
      go_wp2_with fail
      with_reducible refine (cubeIn.alive _).mono ?_
      rintro e w2 ⟨rfl, hb2⟩
      have HB2 := Lib.hid hb2
      clear hb2
      obtain ⟨_, q0, q1, q2, q3, q4, q5, q6, q7⟩ := HX1.out.next HB2.out (Nat.le_refl _)
      go_wp2_with fail
      with_reducible refine (HRF.out _ HB2.out).mono ?_
      rintro e w3 ⟨rfl, hb3⟩
      have HB3 := Lib.hid (HB2.out.trans (hb3.mono HB2.out.size))
      clear hb3 q0 q1 q2 q3 q4 q5 q6 q7
      have q2 := (HX1.out.next HB3.out (Nat.le_refl _)).k2
      go_wp2_with fail
      go_ret
      exact ⟨rfl, HB1.out.trans (HB3.out.mono HB1.out.size)⟩
  · rw [hrk, chk_neg hk] at HRF
    have HE : Hid (fillE x l = 9 ∧ fillS x l = ⟨#[]⟩) := by
      unfold Hid fillE fillS
      rw [tt_neg hk]
      exact ⟨rfl, rfl⟩
    have HA : Hid (apartL x l = 0) := by
      show _ = _
      unfold apartL; rw [tt_neg hk]; rfl
    rw [HE.out.1, HE.out.2] at HFI
    rw [HE.out.1] at HME
    rw [HA.out] at HAP
    clear hk hrk hin hw hz hs hl hb1 hx1 zl HE HA
    unfold cells at *
    go_enter Tryd.func3, Tryd.ntmps3
    go_wp2_with fail
    with_reducible refine (cubeIn.alive _).mono ?_
    rintro e w2 ⟨rfl, hb2⟩
    have HB2 := Lib.hid hb2
    clear hb2
    obtain ⟨_, q0, q1, q2, q3, q4, q5, q6, q7⟩ := HX1.out.next HB2.out (Nat.le_refl _)
    go_wp2_with fail
    with_reducible refine (HRF.out _ HB2.out).mono ?_
    rintro e w3 ⟨rfl, hb3⟩
    have HB3 := Lib.hid (HB2.out.trans (hb3.mono HB2.out.size))
    clear hb3 q0 q1 q2 q3 q4 q5 q6 q7
    obtain ⟨_, q0, q1, q2, q3, q4, q5, q6, q7⟩ := HX1.out.next HB3.out (Nat.le_refl _)
    go_wp2_with fail
    with_reducible refine (HFI.out _ HB3.out).mono ?_
    rintro e w4 ⟨rfl, hb4⟩
    have HB4 := Lib.hid (HB3.out.trans (hb4.mono HB3.out.size))
    clear hb4 q0 q1 q2 q3 q4 q5 q6 q7
    obtain ⟨_, q0, q1, q2, q3, q4, q5, q6, q7⟩ := HX1.out.next HB4.out (Nat.le_refl _)
    go_wp2_with fail
    with_reducible refine (HME.out _ HB4.out).mono ?_
    rintro e w5 ⟨rfl, hb5⟩
    have HB5 := Lib.hid (HB4.out.trans (hb5.mono HB4.out.size))
    clear hb5 q0 q1 q2 q3 q4 q5 q6 q7
    obtain ⟨_, q0, q1, q2, q3, q4, q5, q6, q7⟩ := HX1.out.next HB5.out (Nat.le_refl _)
    go_wp2_with fail
    with_reducible refine (HAP.out _ HB5.out).mono ?_
    rintro e w6 ⟨rfl, hb6⟩
    have HB6 := Lib.hid (HB5.out.trans (hb6.mono HB5.out.size))
    clear hb6 q0 q1 q2 q3 q4 q5 q6 q7
    go_wp2_with fail
    go_ret
    exact ⟨rfl, HB1.out.trans (HB6.out.mono HB1.out.size)⟩
end cubeMeets
end Go.Proofs.YtllbncfcnjmbmaaDoor
