/-
  interlockref10.SameTable: of a table and one like it.
-/
import Derived.Test.YtgbpoeidpldmkaaFactK
import Derived.Test.YtgbpoeidpldmkaaSameI
namespace Go.Proofs.Ytgbpoeidpldmkaa
open Go.RowKit Base
set_option linter.unusedVariables false
set_option linter.unusedSimpArgs false
namespace Fact

theorem two_boxes (w : World) (cs1 cs2 : Array Value) (t1 t2 : TypeId) : BoxN w.heap.size cs1.toList ((w.alloc (.cells cs1 t1)).alloc (.cells cs2 t2)).drew ∧ BoxN (w.heap.size + 1) cs2.toList ((w.alloc (.cells cs1 t1)).alloc (.cells cs2 t2)).drew ∧ Below w.heap.size w ((w.alloc (.cells cs1 t1)).alloc (.cells cs2 t2)).drew := by
  have h1 := BoxN.new w cs1 t1
  have hz : (w.alloc (.cells cs1 t1)).heap.size = w.heap.size + 1 := by simp
  have b1 : Below w.heap.size w (w.alloc (.cells cs1 t1)) := (Below.refl _ _).alloc (Nat.le_refl _) _
  have b2 : Below (w.alloc (.cells cs1 t1)).heap.size (w.alloc (.cells cs1 t1)) ((w.alloc (.cells cs1 t1)).alloc (.cells cs2 t2)) := (Below.refl _ _).alloc (Nat.le_refl _) _
  have h2 := BoxN.new (w.alloc (.cells cs1 t1)) cs2 t2
  rw [hz] at h2
  exact ⟨h1.next b2.drew h1.lt, h2.next (Below.refl _ _).drew h2.lt, (b1.trans (b2.mono b1.size)).drew⟩

set_option maxRecDepth 8000 in
set_option maxHeartbeats 16000000 in
theorem sameTable_any (w : World) (t : Tb) (a1 : Option Addr) (c1 : Nat) (vs1 : List (List Value)) (h1 : SlF w a1 t.facts.length c1 vs1 t.facts) (a2 : Option Addr) (c2 : Nat) (vs2 : List (List Value)) (h2 : SlF w a2 t.facts.length c2 vs2 t.facts) :
    Calls Try.prog 12 #[tagg t a1 c1, tagg t a2 c2] w fun e w' => e = .returned (.bool true) ∧ Below w.heap.size w w' := by
  have hcap := h1.sl.cap
  have hbig := h1.sl.big
  have hcap2 := h2.sl.cap
  have hbig2 := h2.sl.big
  unfold tagg
  obtain ⟨W1, hW1⟩ : ∃ U, w.alloc (.cells #[.int .i64 t.next, .int .i64 t.depth, .slice a1 t.facts.length c1] 24) = U := ⟨_, rfl⟩
  obtain ⟨W2, hW2⟩ : ∃ U, W1.alloc (.cells #[.int .i64 t.next, .int .i64 t.depth, .slice a2 t.facts.length c2] 24) = U := ⟨_, rfl⟩
  obtain ⟨hb1, x1⟩ := tbox _ _ _ _ _ _ _ hW1
  obtain ⟨hb2, x2⟩ := tbox _ _ _ _ _ _ _ hW2
  have x12 := x1.next hb2 x1.lt
  have hbw := hb1.trans (hb2.mono hb1.size)
  have q0 := x12.at' 0 _ rfl
  have q1 := x12.at' 1 _ rfl
  have q2 := x12.at' 2 _ rfl
  have r0 := x2.at' 0 _ rfl
  have r1 := x2.at' 1 _ rfl
  have r2 := x2.at' 2 _ rfl
  have HX1 := Lib.hid x12
  have HX2 := Lib.hid x2
  have HB := Lib.hid hbw
  have H1 := Lib.hid (h1.next hbw)
  have H2 := Lib.hid (h2.next hbw)
  have v0 : (t.next != t.next) = false := by simp
  have v1 : (t.depth != t.depth) = false := by simp
  generalize hn : t.facts.length = n at *
  have HN := Lib.hid hn
  have v2 : ((n : Int) != (n : Int)) = false := by simp
  clear h1 h2 hb1 hb2 x1 x2 x12 hbw hn
  go_enter Try.func12, Try.ntmps12
  go_wp2_with fail
  go_loopw [5] (fun i wr => ∃ k : Nat, k ≤ n ∧ i = .int .i64 k ∧ Hid (Below W2.heap.size W2 wr)) (fun i _ => n - (intOf i).toNat)
  case atStart => exact ⟨0, Nat.zero_le _, rfl, Below.refl _ _⟩
  case round =>
    obtain ⟨k, hk, rfl, hB⟩ := hrel
    have s2 := (HX1.out.next hB.out HX1.out.lt).at' 2 _ rfl
    have t2 := (HX2.out.next hB.out HX2.out.lt).at' 2 _ rfl
    clear q0 q1 q2 r0 r1 r2
    by_cases hlt : k < n
    · obtain ⟨b, o, p1, e1, p2, e2, hx, rfl, hbs, ⟨d0, d1, d2, d3, d4⟩, z1, z2, _⟩ := (H1.out.next hB.out).at hlt
      obtain ⟨b', o', p1', e1', p2', e2', hx', rfl, hbs', ⟨d0', d1', d2', d3', d4'⟩, z1', z2', _⟩ := (H2.out.next hB.out).at hlt
      generalize t.facts[k] = y at *
      have HZ1 := Lib.hid z1
      have HZ2 := Lib.hid z2
      have HZ1' := Lib.hid z1'
      have HZ2' := Lib.hid z2'
      have HL : Hid (W1.heap.size < wr.heap.size ∧ w.heap.size < wr.heap.size) := ⟨(HX2.out.next hB.out HX2.out.lt).lt, (HX1.out.next hB.out HX1.out.lt).lt⟩
      have n1 : b ≠ wr.heap.size := Nat.ne_of_lt hbs
      have n2 : b' ≠ wr.heap.size := Nat.ne_of_lt hbs'
      have n3 : W1.heap.size ≠ wr.heap.size := Nat.ne_of_lt HL.out.1
      have n4 : w.heap.size ≠ wr.heap.size := Nat.ne_of_lt HL.out.2
      have n5 : b ≠ wr.heap.size + 1 := by omega
      have n6 : b' ≠ wr.heap.size + 1 := by omega
      have n7 : W1.heap.size ≠ wr.heap.size + 1 := by have := HL.out; omega
      have n8 : w.heap.size ≠ wr.heap.size + 1 := by have := HL.out; omega
      clear z1 z2 z1' z2'
      have HA1 : ∀ (p : Addr) (v : Value), p.block < wr.heap.size → wr.cell? p = some v → ∀ o, (wr.alloc o).cell? p = some v := fun p v hp hv o => (((Below.refl wr.heap.size wr).alloc (Nat.le_refl _) o).cell hp).trans hv
      have HA2 : ∀ (p : Addr) (v : Value), p.block < wr.heap.size → wr.cell? p = some v → ∀ o o2, ((wr.alloc o).alloc o2).cell? p = some v := fun p v hp hv o o2 => ((((Below.refl wr.heap.size wr).alloc (Nat.le_refl _) o).alloc (by simp) o2).cell hp).trans hv
      have A1s2 := HA1 ⟨w.heap.size, 2, none⟩ _ HL.out.2 s2
      have A2s2 := HA2 ⟨w.heap.size, 2, none⟩ _ HL.out.2 s2
      have A1t2 := HA1 ⟨W1.heap.size, 2, none⟩ _ HL.out.1 t2
      have A2t2 := HA2 ⟨W1.heap.size, 2, none⟩ _ HL.out.1 t2
      have A1d0 := HA1 ⟨b, o + k * 5, none⟩ _ hbs d0
      have A2d0 := HA2 ⟨b, o + k * 5, none⟩ _ hbs d0
      have A1d1 := HA1 ⟨b, o + k * 5 + 1, none⟩ _ hbs d1
      have A2d1 := HA2 ⟨b, o + k * 5 + 1, none⟩ _ hbs d1
      have A1d2 := HA1 ⟨b, o + k * 5 + 2, none⟩ _ hbs d2
      have A2d2 := HA2 ⟨b, o + k * 5 + 2, none⟩ _ hbs d2
      have A1d3 := HA1 ⟨b, o + k * 5 + 3, none⟩ _ hbs d3
      have A2d3 := HA2 ⟨b, o + k * 5 + 3, none⟩ _ hbs d3
      have A1d4 := HA1 ⟨b, o + k * 5 + 4, none⟩ _ hbs d4
      have A2d4 := HA2 ⟨b, o + k * 5 + 4, none⟩ _ hbs d4
      have A1d0' := HA1 ⟨b', o' + k * 5, none⟩ _ hbs' d0'
      have A2d0' := HA2 ⟨b', o' + k * 5, none⟩ _ hbs' d0'
      have A1d1' := HA1 ⟨b', o' + k * 5 + 1, none⟩ _ hbs' d1'
      have A2d1' := HA2 ⟨b', o' + k * 5 + 1, none⟩ _ hbs' d1'
      have A1d2' := HA1 ⟨b', o' + k * 5 + 2, none⟩ _ hbs' d2'
      have A2d2' := HA2 ⟨b', o' + k * 5 + 2, none⟩ _ hbs' d2'
      have A1d3' := HA1 ⟨b', o' + k * 5 + 3, none⟩ _ hbs' d3'
      have A2d3' := HA2 ⟨b', o' + k * 5 + 3, none⟩ _ hbs' d3'
      have A1d4' := HA1 ⟨b', o' + k * 5 + 4, none⟩ _ hbs' d4'
      have A2d4' := HA2 ⟨b', o' + k * 5 + 4, none⟩ _ hbs' d4'
      clear HA1 HA2
      go_upto_region 6 with fail
      go_cut [6, 7] from 36 to 46 (fun u6 u7 wx => ∃ (N6 N7 : Nat), u6 = .pointer (some ⟨N6, 0, none⟩) ∧ u7 = .pointer (some ⟨N7, 0, none⟩) ∧ Hid (BoxN N6 (fcells y p1 e1 p2 e2) wx) ∧ Hid (BoxN N7 (fcells y p1' e1' p2' e2') wx) ∧ Hid (Below wr.heap.size wr wx))
      case first =>
        go_region
        all_goals go_wp2_with fail
        all_goals go_meet
        · have h := two_boxes wr (fcells y p1 e1 p2 e2).toArray (fcells y p1' e1' p2' e2').toArray 31 31
          exact ⟨_, _, rfl, rfl, h.1, h.2.1, h.2.2⟩
        · have h := two_boxes wr (fcells y p1' e1' p2' e2').toArray (fcells y p1 e1 p2 e2).toArray 31 31
          exact ⟨_, _, rfl, rfl, h.2.1, h.1, h.2.2⟩
      case rest =>
        obtain ⟨N6, N7, rfl, rfl, hx6, hx7, hbx⟩ := hcut
        have y0 := hx6.out.at' 0 _ rfl
        have y1 := hx6.out.at' 1 _ rfl
        have y2 := hx6.out.at' 2 _ rfl
        have y3 := hx6.out.at' 3 _ rfl
        have y4 := hx6.out.at' 4 _ rfl
        have z0 := hx7.out.at' 0 _ rfl
        have z1 := hx7.out.at' 1 _ rfl
        have z2 := hx7.out.at' 2 _ rfl
        have z3 := hx7.out.at' 3 _ rfl
        have z4 := hx7.out.at' 4 _ rfl
        have u0 : (y.id != y.id) = false := by simp
        have u1 : (y.kind != y.kind) = false := by simp
        have u2 : (y.depth != y.depth) = false := by simp
        have S3 := Plain.sameInts_any wc _ _ _ _ _ _ y.lits y.lits (HZ1.out.next hbx.out) (HZ1'.out.next hbx.out)
        rw [show decide (y.lits = y.lits) = true from decide_eq_true rfl] at S3
        have HS3 := Lib.hid S3
        have HS4 := Lib.hid (fun (V : World) (hV : Below wc.heap.size wc V) => Plain.sameInts_any V _ _ _ _ _ _ y.tags y.tags ((HZ2.out.next hbx.out).next hV) ((HZ2'.out.next hbx.out).next hV))
        rw [show decide (y.tags = y.tags) = true from decide_eq_true rfl] at HS4
        clear S3
        go_wp2_with fail
        with_reducible refine HS3.out.mono ?_
        rintro e w3 ⟨rfl, hb3⟩
        have k4 := (hx6.out.next hb3 hx6.out.lt).at' 4 _ rfl
        have l4 := (hx7.out.next hb3 hx7.out.lt).at' 4 _ rfl
        have HS5 := Lib.hid (HS4.out w3 hb3)
        have HB3 := Lib.hid (hB.out.trans ((hbx.out.trans (hb3.mono hbx.out.size)).mono hB.out.size))
        clear hb3 y0 y1 y2 y3 y4 z0 z1 z2 z3 z4
        go_wp2_with fail
        with_reducible refine HS5.out.mono ?_
        rintro e w4 ⟨rfl, hb4⟩
        have HB4 := Lib.hid (HB3.out.trans (hb4.mono HB3.out.size))
        clear hb4 k4 l4
        go_wp2_with fail
        go_roundw
        case rel => exact ⟨k + 1, by omega, by go_num, HB4.out⟩
        case measure => simp [intOf]; omega
    · go_wp2_with fail
      go_ret
      exact ⟨rfl, HB.out.trans (hB.out.mono HB.out.size)⟩
end Fact
end Go.Proofs.Ytgbpoeidpldmkaa
