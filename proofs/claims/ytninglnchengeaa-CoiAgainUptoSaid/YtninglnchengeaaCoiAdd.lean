/-
  coi.needs.has, add.
-/
import Derived.Test.YtninglnchengeaaCoiSet
import Derived.Test.YtninglnchengeaaOffB
namespace Go.Proofs.Ytninglnchengeaa
open Go.RowKit Base Go.Maps
set_option linter.unusedVariables false
set_option linter.unusedSimpArgs false
namespace Coi
open Circuit SetI StrashP

theorem var_i64 {l : Int} (h0 : -9223372036854775808 ≤ l) (h1 : l ≤ 9223372036854775807) : SetI.I64 (var l) := by unfold SetI.I64 var; omega

set_option maxHeartbeats 1000000 in
theorem has_any (w : World) {b n : Nat} {X : List Int} (h : SetK w b n X) (l : Int) (h0 : -9223372036854775808 ≤ l) (h1 : l ≤ 9223372036854775807) :
    Calls Try.prog 14 #[.map (some b), .int .i64 l] w fun e w' => e = .returned (.bool (inX X (var l))) ∧ w = w' := by
  have hl := look w h (var_i64 h0 h1)
  have VA := Lib.hid (var_any l h0 h1 w)
  generalize var l = v at *
  generalize inX X v = q at *
  clear h
  go_enter Try.func14, Try.ntmps14
  go_wp2_with fail
  with_reducible refine VA.out.mono ?_
  rintro e w2 ⟨rfl, rfl⟩
  go_wp2_with fail
  go_ret
  exact ⟨rfl, rfl⟩

def insAll (X T : List Int) : List Int := T.foldl ins X
theorem insAll_snoc (X T : List Int) (y : Int) : insAll X (T ++ [y]) = ins (insAll X T) y := by unfold insAll; rw [List.foldl_append]; rfl
theorem insAll_nodup (X T : List Int) (h : X.Nodup) : (insAll X T).Nodup := by
  induction T generalizing X with
  | nil => exact h
  | cons y r ih => exact ih _ (ins_nodup h y)
theorem insAll_mem (X T : List Int) (v : Int) : v ∈ insAll X T ↔ v ∈ X ∨ v ∈ T := by
  induction T generalizing X with
  | nil => simp [insAll]
  | cons y r ih =>
    show v ∈ insAll (ins X y) r ↔ _
    rw [ih, ins_mem, List.mem_cons]
    constructor
    · rintro ((h | h) | h)
      · exact Or.inl h
      · exact Or.inr (Or.inl h)
      · exact Or.inr (Or.inr h)
    · rintro (h | h | h)
      · exact Or.inl (Or.inl h)
      · exact Or.inl (Or.inr h)
      · exact Or.inr h
theorem ins_len (X : List Int) (y : Int) : X.length ≤ (ins X y).length ∧ (ins X y).length ≤ X.length + 1 := by
  unfold ins
  split
  · omega
  · simp
theorem insAll_len (X T : List Int) : X.length ≤ (insAll X T).length ∧ (insAll X T).length ≤ X.length + T.length := by
  induction T generalizing X with
  | nil => simp [insAll]
  | cons y r ih =>
    have h1 := ins_len X y
    have h2 := ih (ins X y)
    have e : insAll X (y :: r) = insAll (ins X y) r := rfl
    rw [e, List.length_cons]
    omega
/-- If it has not grown, nothing was new. -/
theorem insAll_same (X T : List Int) (h : (insAll X T).length ≤ X.length) : ∀ v ∈ T, v ∈ X := by
  induction T generalizing X with
  | nil => intro v hv; cases hv
  | cons y r ih =>
    have h1 := ins_len X y
    have h2 := insAll_len (ins X y) r
    have e : insAll X (y :: r) = insAll (ins X y) r := rfl
    rw [e] at h
    have hy : y ∈ X := by
      have : (ins X y).length = X.length := by omega
      unfold ins at this
      split at this
      · rename_i hq; exact inX_iff.1 hq
      · simp at this
    have hi : ins X y = X := by unfold ins; rw [if_pos (inX_iff.2 hy)]
    rw [hi] at h
    intro v hv
    rcases List.mem_cons.1 hv with rfl | hv
    · exact hy
    · exact ih X h v hv

theorem insAll_id (X T : List Int) (h : ∀ v ∈ T, v ∈ X) : insAll X T = X := by
  induction T with
  | nil => rfl
  | cons y r ih =>
    show insAll (ins X y) r = X
    have hi : ins X y = X := by unfold ins; rw [if_pos (inX_iff.2 (h y List.mem_cons_self))]
    rw [hi]
    exact ih fun v hv => h v (List.mem_cons_of_mem _ hv)

/-- What add leaves. -/
def AddOut (w : World) (b : Nat) (x : Circ) (l X : List Int) (e : Ending) (w' : World) : Prop :=
  ∃ X2, e = .returned (.bool (decide (X.length < X2.length))) ∧ SetK w' b X2.length X2 ∧ Adds x l X X2 ∧ (X2.length ≤ X.length → X2 = X ∧ ∀ v, v ≠ 0 → Rch x.ands l v → v ∈ X) ∧ OffB b w w'

set_option maxRecDepth 8000 in
set_option maxHeartbeats 4000000 in
theorem add_any (w : World) (x : Circ) (p : At) (hin : InCirc w x p) (hwa : WfT x.ands) {b : Nat} {X : List Int} (hset : SetK w b X.length X) (hnd : X.Nodup) (a : Option Addr) (c : Nat) (l : List Int) (hsl : Sl w a l.length c (ints l)) (hl : ∀ y ∈ l, Circuit.I64 y)
    (hsz : (2 * l.length + 2 * x.ands.length + 2) * 8 ≤ 140737488355328) (hX : X.length ≤ 1099511627776000) :
    Calls Try.prog 28 #[.map (some b), .agg (cells x p), .slice a l.length c] w (AddOut w b x l X) := by
  obtain ⟨W1, hW1⟩ : ∃ W1, w.alloc (.cells (cells x p) 27) = W1 := ⟨_, rfl⟩
  obtain ⟨hb1, hc1⟩ := cbox_new w x p W1 hW1
  have hset1 := hset.next hb1
  have hlen1 := fun ty => len W1 hset1 ty
  have HCO := Lib.hid (cone_any W1 x p (hin.next hb1) hwa a c l (hsl.next hb1) hl hsz)
  have HB1 := Lib.hid hb1
  have HSET := Lib.hid hset1
  have HND := Lib.hid hnd
  have HXL := Lib.hid hX
  have HSZ := Lib.hid hsz
  have k0 := hc1.k0
  have k1 := hc1.k1
  have k2 := hc1.k2
  have k3 := hc1.k3
  have k4 := hc1.k4
  have k5 := hc1.k5
  have k6 := hc1.k6
  have k7 := hc1.k7
  have HBL : Hid (b < w.heap.size) := by
    obtain ⟨D, ho, _⟩ := hset
    exact ho.lt
  have HWL : Hid (∀ v, Rch x.ands l v → SetI.I64 v) := fun v hv => by
    cases hv with
    | lit ht => exact var_i64 (hl _ ht).1 (hl _ ht).2
    | left _ _ hg => exact var_i64 (hwa _ (gate_mem hg)).2.1.1 (hwa _ (gate_mem hg)).2.1.2
    | right _ _ hg => exact var_i64 (hwa _ (gate_mem hg)).2.2.1 (hwa _ (gate_mem hg)).2.2.2
  obtain ⟨a1, c1, a2, c2, a3, c3, a4, c4, a5, c5, a6, c6, a7, c7⟩ := p
  simp only [cells] at *
  have HHCO := HCO
  clear hin hwa hset hset1 hnd hsl hl hsz hX hb1 hc1 HCO
  go_enter Try.func28, Try.ntmps28
  go_wp2_with fail
  with_reducible refine HHCO.out.mono ?_
  rintro e w3 ⟨a', c', T, rfl, hownT, hpT, hmT, hb3⟩
  have HT64 : Hid (∀ v ∈ T, SetI.I64 v) := fun v hv => HWL.out v ((hmT v).1 hv).2
  have HMT := Lib.hid hmT
  have HOWN := Lib.hid hownT
  have hoff3 : OffB b w w3 := ((OffB.refl b w).below HB1.out).below hb3
  have HOFF3 := Lib.hid hoff3
  have hset3 := HSET.out.next hb3
  have hTl := hownT
  have HTF : Hid (T.length ≤ 17592186044416) := by
    show _ ≤ _
    have hnd : T.Nodup := hpT.imp fun {a b} h => by omega
    have h1 := nodup_len hnd (C := cands x.ands l) (fun v hv => rch_cand ((hmT v).1 hv).2)
    unfold cands at h1
    simp only [List.length_append, List.length_map] at h1
    have := HSZ.out
    omega
  have HNE : Hid ((Value.slice a' T.length c').ownBlock ≠ some b) := own_not' hownT (Nat.lt_of_lt_of_le HBL.out HB1.out.size)
  have HSET3 := Lib.hid hset3
  have hsl3 := own_sl' hownT
  have hcap := hsl3.cap
  have hbig := hsl3.big
  obtain ⟨m, hm⟩ : ∃ m, T.length = m := ⟨_, rfl⟩
  obtain ⟨xl, hxl⟩ : ∃ m, X.length = m := ⟨_, rfl⟩
  have HM := Lib.hid hm
  have HXLM := Lib.hid hxl
  rw [hm] at hcap
  rw [hm, hxl]
  clear hm hxl hpT hmT hb3 hoff3 hset3 hTl hlen1 hownT hsl3 k0 k1 k2 k3 k4 k5 k6 k7 hW1
  go_wp2_with fail
  go_loopw [16] (fun i wr => ∃ k : Nat, k ≤ m ∧ i = .int .i64 k ∧ Hid (SetK wr b (xl + k) (insAll X (T.take k))) ∧ Hid (OffB b w3 wr)) (fun i _ => m - (intOf i).toNat)
  case atStart => exact ⟨0, Nat.zero_le _, rfl, by show SetK _ _ _ _; rw [← HXLM.out]; exact HSET3.out, OffB.refl _ _⟩
  case round =>
    obtain ⟨k, hk, rfl, hS, hO⟩ := hrel
    by_cases hlt : k < m
    · have hs := own_sl' (hO.out.own HOWN.out HNE.out)
      have hlt2 : k < T.length := by have := HM.out; omega
      obtain ⟨b1, o1, hx, rfl, hbs, hc⟩ := hs.int hlt2
      have h64 := HT64.out T[k] (List.getElem_mem hx)
      have HIN := Lib.hid (insAll_snoc X (T.take k) T[k])
      have HTK := Lib.hid (List.take_succ_eq_append_getElem hx)
      generalize T[k] = v at *
      obtain ⟨w5, hrun, hs5, hg5⟩ := store hS.out (insAll_nodup _ _ HND.out) h64 (by have := HXL.out; have := HXLM.out; have := HTF.out; omega)
      have HS5 : Hid (SetK w5 b (xl + (k + 1)) (insAll X (T.take (k + 1)))) := by
        show SetK _ _ _ _
        rw [HTK.out, HIN.out]
        exact hs5
      have HO5 := Lib.hid (hO.out.put hg5)
      clear hs hs5 hg5 h64 hS hO hlt2
      go_wp2_with fail
      go_roundw
      case rel => exact ⟨k + 1, by omega, by go_num, HS5, HO5⟩
      case measure => simp [intOf]; omega
    · have hkm : k = m := by omega
      subst hkm
      have htk : T.take k = T := List.take_of_length_le (Nat.le_of_eq HM.out)
      have hS' := hS.out
      rw [htk] at hS'
      have hln := fun ty => len wr hS' ty
      have HSF := Lib.hid hS'
      have HLN := insAll_len X T
      generalize hX2 : insAll X T = X2 at *
      have HX2 := Lib.hid hX2
      have HOF := Lib.hid (HOFF3.out.trans hO.out)
      clear htk hS' hS hO hX2 HLN
      go_wp2_with fail
      go_ret
      refine ⟨X2, ?_, tight HSF.out, ⟨by rw [← HX2.out]; exact insAll_nodup _ _ HND.out, fun v => by rw [← HX2.out, insAll_mem, HMT.out]⟩, fun hle => ?_, HOF.out⟩
      · rw [HXLM.out]
        simp
      · have h1 := insAll_same X T (by rw [HX2.out]; exact hle)
        exact ⟨by rw [← HX2.out]; exact insAll_id X T h1, fun v h0 hv => h1 v ((HMT.out v).2 ⟨h0, hv⟩)⟩
end Coi
end Go.Proofs.Ytninglnchengeaa
