/-
  interlocklaw06.values: the walk: the list that it makes, in memory of its own.
-/
import Derived.Test.YthdhlkcdbogcaaaValP
import Derived.Test.YthdhlkcdbogcaaaCBox
import Derived.Test.YthdhlkcdbogcaaaHeldTo
import Derived.StillTailTactics
import Derived.WalkSmall
namespace Go.Proofs.Ythdhlkcdbogcaaa
open Go.RowKit Base
set_option linter.unusedVariables false
set_option linter.unusedSimpArgs false
namespace StrashP
open Circuit GetI

theorem info_bool : (Try.prog.info? 4).map (fun i => (i.zero, i.size, i.bytes)) = some (some (.bool false), 1, 1) := by kernel_rfl

theorem bools_len (L : List Bool) : (bools L).length = L.length := by unfold bools; simp
theorem bools_at {L : List Bool} {j : Nat} (h : j < L.length) : (bools L)[j]? = some (.bool L[j]) := by unfold bools; rw [List.getElem?_map, List.getElem?_eq_getElem h]; rfl
theorem row_set {w : World} {g j : Nat} {L : List Bool} {t : TypeId} (h : w.heap[g]? = some (.cells (bools L).toArray t (0, 0))) (hj : j < L.length) (b : Bool) :
    (∃ y, w.cell? ⟨g, j, none⟩ = some (.bool y)) ∧ w.frozen? ⟨g, j, none⟩ = false ∧ (w.setCell ⟨g, j, none⟩ (.bool b)).heap[g]? = some (.cells (bools (L.set j b)).toArray t (0, 0)) := by
  refine ⟨?_, by simp [World.frozen?, h], ?_⟩
  · exact ⟨L[j], by rw [cell_of_row _ g j _ t _ h, List.getElem?_toArray, bools_at hj]⟩
  · simp only [World.setCell, Array.getElem?_modify, h, if_true]
    simp only [Option.map_some]
    congr 1
    show Obj.cells ((bools L).toArray.setIfInBounds j (.bool b)) t (0, 0) = _
    congr 1
    unfold bools
    rw [List.map_set]
    simp
theorem row_sl {w : World} {g : Nat} {L : List Bool} {t : TypeId} (h : w.heap[g]? = some (.cells (bools L).toArray t (0, 0))) (hn : L.length ≤ 9223372036854775807) : Sl w (some ⟨g, 0, none⟩) L.length L.length (bools L) := by
  refine ⟨bools_len L, Nat.le_refl _, hn, fun e => (by cases e), fun k x hx => ⟨g, 0, rfl, (Array.getElem?_eq_some_iff.1 h).1, ?_⟩⟩
  rw [cell_of_row _ g (0 + k) _ t _ h, List.getElem?_toArray, Nat.zero_add]
  exact hx
theorem row_ofF {w : World} {B g n : Nat} {e : TypeId} (h : w.ownsRow B e 1 (.slice (some ⟨g, 0, none⟩) n n) n (List.replicate n (.bool false))) : w.heap[g]? = some (.cells (bools (List.replicate n false)).toArray e (0, 0)) := by
  obtain ⟨_, h2⟩ := h
  rcases h2 with ⟨h3, _⟩ | ⟨g', cap, cur, hv, _, hh, _, _, hcur, ht⟩
  · cases h3
  · simp only [Value.slice.injEq, Option.some.injEq, Addr.mk.injEq] at hv
    obtain ⟨⟨rfl, _⟩, _, rfl⟩ := hv
    have e1 : bools (List.replicate n false) = List.replicate n (.bool false) := by unfold bools; rw [List.map_replicate]
    rw [hh, e1, ← ht, List.take_of_length_le (by rw [Array.length_toList, hcur]; omega)]

/-- The bit that is asked for, in the walk's spelling. -/
theorem wrap_k {k : Nat} (h : k ≤ 100000) : IntKind.u64.wrap (k : Int) = (k : Int) := IntWalk.u64_in _ (by omega)
theorem mod_k (k : Nat) : Int.tmod (k : Int) 64 = ((k % 64 : Nat) : Int) := by
  rw [Int.tmod_eq_emod_of_nonneg (by omega)]; rfl
theorem shift_k (bits r : Nat) (h : r < 64) : Op.shift .shr .u64 (bits : Int) .u64 (r : Int) = pure (.int .u64 ((bits / 2 ^ r : Nat) : Int)) := by
  rw [shift_shr .u64 .u64 _ _ (by omega) (by show (r : Int) ≤ 64; omega)]
  congr 2

theorem bit_k (bits k r : Nat) (hr : k % 64 = r) (hb : bits < 18446744073709551616) : (Go.bits .and .u64 ((bits : Int) / 2 ^ r) 1 == 1) = bitOf bits k := by
  have e : (bits : Int) / 2 ^ r = ((bits / 2 ^ r : Nat) : Int) := by norm_cast
  have hle : bits / 2 ^ r ≤ bits := Nat.div_le_self _ _
  unfold bitOf
  rw [e, hr]
  generalize bits / 2 ^ r = z at *
  rw [and_one_u64 _ (by omega) (by omega)]
  rcases Nat.mod_two_eq_zero_or_one z with h | h
  · rw [h, (by omega : (z : Int) % 2 = 0)]; rfl
  · rw [h, (by omega : (z : Int) % 2 = 1)]; rfl

theorem fold_len : ∀ (A : List Tri) (L : List Bool), (A.foldl stepA L).length = L.length
  | [], _ => rfl
  | t :: r, L => by rw [List.foldl_cons, fold_len r]; unfold stepA; rw [setB_len]
theorem bits_two (U : World) (g n : Nat) (L : List Bool) (hlen : L.length = n) (hn : n ≤ 9223372036854775807) {t : TypeId} (hR : U.heap[g]? = some (.cells (bools L).toArray t (0, 0))) (l1 l2 : Int) (h1 : 0 ≤ l1) (h1' : l1 ≤ 9223372036854775807) (h2 : 0 ≤ l2) (h2' : l2 ≤ 9223372036854775807) :
    (Calls Try.prog 12 #[.slice (some ⟨g, 0, none⟩) n n, .int .i64 l1] U fun e w' => ∃ v, e = .returned v ∧ v = .bool (bitL L l1) ∧ Below U.heap.size U w') ∧
    (Calls Try.prog 12 #[.slice (some ⟨g, 0, none⟩) n n, .int .i64 l2] U fun e w' => ∃ v, e = .returned v ∧ v = .bool (bitL L l2) ∧ Below U.heap.size U w') := by
  have hs := row_sl hR (by omega)
  subst hlen
  refine ⟨(bit_any U _ _ L hs l1 h1 h1').mono ?_, (bit_any U _ _ L hs l2 h2 h2').mono ?_⟩
  all_goals
    rintro e w' ⟨rfl, q, rfl⟩
    exact ⟨_, rfl, rfl, below_drewN (Below.refl _ _) q⟩

def baseG (ps : List (Int × Nat)) (bits : Nat) (L : List Bool) : List Bool := ps.foldl (fun L p => setB L (var p.1) (bitOf bits p.2)) L
theorem baseG_snoc (l : List Int) (n k : Nat) (hk : k < l.length) (bits : Nat) (L : List Bool) : baseG ((l.take (k + 1)).zipIdx n) bits L = (baseG ((l.take k).zipIdx n) bits L).set (var l[k]).toNat (bitOf bits (n + k)) := by
  unfold baseG
  rw [List.take_succ_eq_append_getElem hk, List.zipIdx_append, List.foldl_append, List.length_take_of_le (by omega)]
  rfl
theorem baseG_len (ps : List (Int × Nat)) (bits : Nat) (L : List Bool) : (baseG ps bits L).length = L.length := base_len ps bits L

set_option maxRecDepth 8000 in
set_option maxHeartbeats 4000000 in
theorem values_any (w : World) (x : Circ) (p : At) (hin : InCirc w x p) (hok : CheckOk x) (bits : Nat) (hbits : bits < 18446744073709551616) :
    Calls Try.prog 11 #[.agg (cells x p), .int .u64 bits] w fun e w' => ∃ g, e = .returned (.slice (some ⟨g, 0, none⟩) (x.max + 1).toNat (x.max + 1).toNat) ∧ Sl w' (some ⟨g, 0, none⟩) (x.max + 1).toNat (x.max + 1).toNat (bools (valsL x bits)) ∧ Below w.heap.size w w' := by
  obtain ⟨W1, hW1⟩ : ∃ W1, w.alloc (.cells (cells x p) 27) = W1 := ⟨_, rfl⟩
  obtain ⟨hb1, hcb⟩ := cbox_new w x p W1 hW1
  have hin1 := hin.next hb1
  obtain ⟨n, hn, hn1, hn2⟩ : ∃ n : Nat, x.max + 1 = (n : Int) ∧ 1 ≤ n ∧ n ≤ 2049 := by
    obtain ⟨h1, h2, _⟩ := hok.1
    exact ⟨(x.max + 1).toNat, by omega, by omega, by omega⟩
  have HFEW : Hid (x.ins.length ≤ 64 ∧ x.lats.length ≤ 64) := ⟨hok.1.2.2.1, hok.1.2.2.2.1⟩
  have HORD := Lib.hid (ord_of hok)
  have HOWN := Lib.hid (fun (m : Int) (hm : m ∈ ownL x) => (own_fine hok hm))
  have HIN := Lib.hid hin1
  have HB1 := Lib.hid hb1
  have HCB := Lib.hid hcb
  have HN := Lib.hid hn
  have hmx : x.max = (n : Int) - 1 := by omega
  have k0 := hcb.k0
  rw [hmx] at k0
  have e1 : (x.max + 1).toNat = n := by omega
  rw [e1]
  have HMX := Lib.hid hmx
  have hlt1 : w.heap.size < W1.heap.size := hcb.lt
  obtain ⟨a1, c1, a2, c2, a3, c3, a4, c4, a5, c5, a6, c6, a7, c7⟩ := p
  simp only [cells] at hW1 ⊢
  clear hin hok hin1 hb1 hcb hn hmx e1
  go_enter Try.func11, Try.ntmps11
  go_upto_region 2 with (at_make; (with_reducible refine wpL_make n (L := (n : Int)) (C := (n : Int)) info_bool Try.underlying36 ?_ ?_ ?_ ?_ ?_ ?_ ?_ ?_); rfl; rfl; rfl; omega; omega; omega; omega; (intro g w2 hown hb hge hlt))
  have hrow := row_ofF hown
  obtain ⟨m1, hm1⟩ : ∃ m, x.ins.length = m := ⟨_, rfl⟩
  obtain ⟨m2, hm2⟩ : ∃ m, x.lats.length = m := ⟨_, rfl⟩
  obtain ⟨m6, hm6⟩ : ∃ m, x.ands.length = m := ⟨_, rfl⟩
  have HIN2 := Lib.hid (fun (U : World) (hU : Below W1.heap.size W1 U) => HIN.out.next hU)
  have HCB2 := Lib.hid (fun (U : World) (hU : Below W1.heap.size W1 U) => HCB.out.next hU (Nat.le_refl _))
  have HROW := Lib.hid hrow
  have HB := Lib.hid hb
  have HM1 := Lib.hid hm1
  have HM2 := Lib.hid hm2
  have HM6 := Lib.hid hm6
  have hm1b : m1 ≤ 64 := by have := HFEW.out.1; omega
  clear hrow hown hb hW1 HIN HCB hm1 hm2 hm6 k0
  go_wp2_with fail
  go_loopw [6, 7] (fun c i wr => ∃ k : Nat, k ≤ m1 ∧ c = .int .i64 k ∧ i = .int .i64 k ∧ Hid (wr.heap[g]? = some (.cells (bools (baseG ((x.ins.take k).zipIdx 0) bits (List.replicate n false))).toArray 4 (0, 0))) ∧ Hid (Below W1.heap.size W1 wr)) (fun _ i _ => m1 - (intOf i).toNat)
  case atStart => exact ⟨0, Nat.zero_le _, rfl, rfl, HROW, HB⟩
  case round =>
    obtain ⟨k, hk, rfl, rfl, hR, hB⟩ := hrel
    have q1 := (HCB2.out wr hB.out).k1
    simp only [HM1.out] at q1
    by_cases hlt : k < m1
    · have hsl := (HIN2.out wr hB.out).ins
      have hlt2 : k < x.ins.length := by have := HM1.out; omega
      obtain ⟨b, o, hx, rfl, hbs, hc⟩ := hsl.int hlt2
      have hcap := hsl.cap
      have hbig := hsl.big
      simp only [HM1.out] at hcap
      have hown := HOWN.out x.ins[k] (by unfold ownL; exact List.mem_append_left _ (List.mem_append_left _ (List.getElem_mem _)))
      rw [HMX.out] at hown
      have HS := Lib.hid (baseG_snoc x.ins 0 k hlt2 bits (List.replicate n false))
      generalize hl : x.ins[k] = l at *
      obtain ⟨j, hj, hj0, hjn⟩ : ∃ j : Nat, l / 2 = (j : Int) ∧ (var l).toNat = j ∧ j < n := ⟨(var l).toNat, by unfold var at *; omega, rfl, by omega⟩
      have hl2 : 0 ≤ l := by unfold var at hown; omega
      have hl3 : l ≤ 10000 := by unfold var at hown; omega
      have hlen : (baseG ((x.ins.take k).zipIdx 0) bits (List.replicate n false)).length = n := by rw [baseG_len, List.length_replicate]
      obtain ⟨⟨y, z1⟩, z2, z3⟩ := row_set hR.out (j := j) (by rw [hlen]; exact hjn) (bitOf bits k)
      have HB4 := Lib.hid (hB.out.setCell (p := ⟨g, j, none⟩) hge (.bool (bitOf bits k)))
      have HG4 : Hid ((wr.setCell ⟨g, j, none⟩ (.bool (bitOf bits k))).heap[g]? = some (.cells (bools (baseG ((x.ins.take (k + 1)).zipIdx 0) bits (List.replicate n false))).toArray 4 (0, 0))) := by
        show _ = _
        rw [HS.out, hj0, Nat.zero_add]
        exact z3
      clear hsl hx HS hlen hown hj0 hl z3 hR hB hlt2
      have hs1 := wrap_k (k := k) (by omega)
      have hs2 := mod_k k
      have hs3 := shift_k bits (k % 64) (Nat.mod_lt _ (by decide))
      have hs4 := bit_k bits k _ rfl hbits
      generalize k % 64 = r at *
      have hkb : k ≤ 100000 := by omega
      go_wp2_with fail
      go_roundw
      case rel => exact ⟨k + 1, by omega, by go_num, by go_num, HG4, HB4⟩
      case measure => simp [intOf]; omega
    · have hkm : k = m1 := by omega
      subst hkm
      have htk : (x.ins.take k) = x.ins := List.take_of_length_le (Nat.le_of_eq HM1.out)
      rw [htk] at hR
      have HR1 := Lib.hid hR
      have HBB := Lib.hid hB
      clear htk hR hB
      generalize hL1 : baseG (x.ins.zipIdx 0) bits (List.replicate n false) = L1 at *
      have hl1 : L1.length = n := by rw [← hL1, baseG_len, List.length_replicate]
      have HL1 := Lib.hid hL1
      have HLN := Lib.hid hl1
      generalize wr = wA at *
      clear hL1 hl1 hlt
      go_wp2_with fail
      go_loopw [6, 8] (fun c i wr => ∃ q : Nat, q ≤ m2 ∧ c = .int .i64 ((k + q : Nat) : Int) ∧ i = .int .i64 q ∧ Hid (wr.heap[g]? = some (.cells (bools (baseG (((x.lats.map (·.1)).take q).zipIdx k) bits L1)).toArray 4 (0, 0))) ∧ Hid (Below W1.heap.size W1 wr)) (fun _ i _ => m2 - (intOf i).toNat)
      case atStart => exact ⟨0, Nat.zero_le _, rfl, rfl, HR1.out, HBB.out⟩
      case round =>
        obtain ⟨q, hq, rfl, rfl, hR, hB⟩ := hrel
        have q1 := (HCB2.out wr hB.out).k2
        simp only [HM2.out] at q1
        by_cases hlt : q < m2
        · have hsl := (HIN2.out wr hB.out).lats
          have hlt2 : q < x.lats.length := by have := HM2.out; omega
          obtain ⟨b, o, hx, rfl, hbs, hc, hcx, hcy⟩ := hsl.tri hlt2
          have hcap := hsl.cap
          have hbig : c2 ≤ 9223372036854775807 := hsl.big
          simp only [HM2.out] at hcap
          have hmb : m2 ≤ 64 := by have := HFEW.out.2; have := HM2.out; omega
          have hlm : q < (x.lats.map (·.1)).length := by rw [List.length_map]; exact hlt2
          have hown := HOWN.out x.lats[q].1 (by unfold ownL; exact List.mem_append_left _ (List.mem_append_right _ (List.mem_map.2 ⟨_, List.getElem_mem _, rfl⟩)))
          rw [HMX.out] at hown
          have HS := Lib.hid (baseG_snoc (x.lats.map (·.1)) k q hlm bits L1)
          have hgl : (x.lats.map (·.1))[q] = x.lats[q].1 := by rw [List.getElem_map]
          rw [hgl] at HS
          generalize hl : x.lats[q].1 = l at *
          obtain ⟨j, hj, hj0, hjn⟩ : ∃ j : Nat, l / 2 = (j : Int) ∧ (var l).toNat = j ∧ j < n := ⟨(var l).toNat, by unfold var at *; omega, rfl, by omega⟩
          have hl2 : 0 ≤ l := by unfold var at hown; omega
          have hl3 : l ≤ 10000 := by unfold var at hown; omega
          obtain ⟨⟨y, z1⟩, z2, z3⟩ := row_set hR.out (j := j) (by rw [baseG_len, HLN.out]; exact hjn) (bitOf bits (k + q))
          have HB4 := Lib.hid (hB.out.setCell (p := ⟨g, j, none⟩) hge (.bool (bitOf bits (k + q))))
          have HG4 : Hid ((wr.setCell ⟨g, j, none⟩ (.bool (bitOf bits (k + q)))).heap[g]? = some (.cells (bools (baseG (((x.lats.map (·.1)).take (q + 1)).zipIdx k) bits L1)).toArray 4 (0, 0))) := by
            show _ = _
            rw [HS.out, hj0]
            exact z3
          clear hsl hcx hcy hx HS hown hj0 hgl hl z3 hR hB hlt2 hlm
          obtain ⟨kq, hkq, hkq2⟩ : ∃ kq : Nat, ((k + q : Nat) : Int) = (kq : Int) ∧ k + q = kq := ⟨_, rfl, rfl⟩
          have HKQ := Lib.hid hkq2
          rw [hkq2] at HB4 HG4 ⊢
          have hs1 := wrap_k (k := kq) (by omega)
          have hs2 := mod_k kq
          have hs3 := shift_k bits (kq % 64) (Nat.mod_lt _ (by decide))
          have hs4 := bit_k bits kq _ rfl hbits
          generalize kq % 64 = r at *
          have hkb : kq ≤ 100000 := by omega
          clear hkq hkq2
          go_wp2_with fail
          go_roundw
          case rel => exact ⟨q + 1, by omega, by have := HKQ.out; first | go_num | (subst this; go_num), by go_num, HG4, HB4⟩
          case measure => simp [intOf]; omega
        · have hkm : q = m2 := by omega
          subst hkm
          have htk : ((x.lats.map (·.1)).take q) = x.lats.map (·.1) := List.take_of_length_le (by rw [List.length_map]; exact Nat.le_of_eq HM2.out)
          rw [htk] at hR
          have hbase : baseG ((x.lats.map (·.1)).zipIdx k) bits L1 = baseL x bits := by
            rw [← HL1.out]
            unfold baseL baseG
            rw [List.zipIdx_append, List.foldl_append, HM1.out, HN.out]
            simp
          rw [hbase] at hR
          have hmb : q ≤ 64 := by have := HFEW.out.2; have := HM2.out; omega
          have HR2 := Lib.hid hR
          have HBC := Lib.hid hB
          clear htk hR hB hbase HL1 HLN
          have HBL : Hid ((baseL x bits).length = n) := by
            show _ = _
            unfold baseL
            rw [base_len, List.length_replicate, HN.out]; omega
          generalize wr = wB at *
          clear hlt
          go_wp2_with fail
          go_loopw [9] (fun i wr => ∃ k : Nat, k ≤ m6 ∧ i = .int .i64 k ∧ Hid (wr.heap[g]? = some (.cells (bools ((x.ands.take k).foldl stepA (baseL x bits))).toArray 4 (0, 0))) ∧ Hid (Below W1.heap.size W1 wr)) (fun i _ => m6 - (intOf i).toNat)
          case atStart => exact ⟨0, Nat.zero_le _, rfl, HR2.out, HBC.out⟩
          case round =>
            obtain ⟨k, hk, rfl, hR, hB⟩ := hrel
            have q1 := (HCB2.out wr hB.out).k6
            simp only [HM6.out] at q1
            by_cases hlt : k < m6
            · have hsl := (HIN2.out wr hB.out).ands
              have hlt2 : k < x.ands.length := by have := HM6.out; omega
              obtain ⟨b, o, hx, rfl, hbs, hc0, hc1, hc2⟩ := hsl.tri hlt2
              have hcap := hsl.cap
              have hbig : c6 ≤ 9223372036854775807 := hsl.big
              simp only [HM6.out] at hcap
              have hown := HOWN.out x.ands[k].1 (by unfold ownL; exact List.mem_append_right _ (List.mem_map.2 ⟨_, List.getElem_mem _, rfl⟩))
              rw [HMX.out] at hown
              have hfine := HORD.out.fine x.ands[k] (List.getElem_mem _)
              have hst : (x.ands.take (k + 1)).foldl stepA (baseL x bits) = stepA ((x.ands.take k).foldl stepA (baseL x bits)) x.ands[k] := by
                rw [List.take_succ_eq_append_getElem hlt2, List.foldl_append]; rfl
              have hlen : ((x.ands.take k).foldl stepA (baseL x bits)).length = n := by rw [fold_len, HBL.out]
              generalize ht : x.ands[k] = t at *
              obtain ⟨t0, t1, t2⟩ := t
              obtain ⟨f0, _, f1, f2, f3, f4⟩ := hfine
              simp only at hown hst f0 f1 f2 f3 f4 hc0 hc1 hc2
              obtain ⟨j, hj, hj0, hjn⟩ : ∃ j : Nat, t0 / 2 = (j : Int) ∧ (var t0).toNat = j ∧ j < n := ⟨(var t0).toNat, by unfold var at *; omega, rfl, by omega⟩
              have hl3 : t0 ≤ 10000 := by unfold var at hown; omega
              generalize (x.ands.take k).foldl stepA (baseL x bits) = L at *
              have HBT := Lib.hid (fun (U : World) (hU : Below wr.heap.size wr U) => bits_two U g n L hlen (by omega) (by rw [← hR.out]; exact hU.block g (Array.getElem?_eq_some_iff.1 hR.out).1) t1 t2 f1 (by omega) f3 (by omega))
              have hgr : g < wr.heap.size := (Array.getElem?_eq_some_iff.1 hR.out).1
              have hqb : Int.tdiv t0 2 = (j : Int) := by rw [Int.tdiv_eq_ediv_of_nonneg (by omega)]; exact hj
              have hqc : IntKind.i64.wrap (j : Int) = (j : Int) := IntWalk.i64_in _ (by omega)
              have HLEN := Lib.hid hlen
              have hwb : w.heap.size < wr.heap.size := Nat.lt_of_lt_of_le hlt1 hB.out.size
              have hSK : ∀ V : World, Below wr.heap.size wr V → V.cell? ⟨w.heap.size, 6, none⟩ = some (.slice (some ⟨b, o, none⟩) m6 c6) ∧ V.cell? ⟨b, o + k * 3, none⟩ = some (.int .i64 t0) ∧ V.cell? ⟨b, o + k * 3 + 1, none⟩ = some (.int .i64 t1) ∧ V.cell? ⟨b, o + k * 3 + 2, none⟩ = some (.int .i64 t2) := fun V hV =>
                ⟨(hV.cell (p := ⟨_, 6, none⟩) hwb).trans q1, (hV.cell (p := ⟨b, o + k * 3, none⟩) hbs).trans hc0, (hV.cell (p := ⟨b, o + k * 3 + 1, none⟩) hbs).trans hc1, (hV.cell (p := ⟨b, o + k * 3 + 2, none⟩) hbs).trans hc2⟩
              have HY1 : ∃ y1, bitL L t1 = y1 := ⟨_, rfl⟩
              have HY2 : ∃ y2, bitL L t2 = y2 := ⟨_, rfl⟩
              obtain ⟨y1, hy1⟩ := HY1
              obtain ⟨y2, hy2⟩ := HY2
              have HS : Hid ((x.ands.take (k + 1)).foldl stepA (baseL x bits) = L.set j (y1 && y2)) := by
                show _ = _
                rw [hst]; unfold stepA setB; simp only; rw [hj0, hy1, hy2]
              rw [hy1, hy2] at HBT
              clear hsl hx hown hj0 ht hst hlen hy1 hy2 hlt2 f0 f1 f2 f3 f4 hj
              go_wp2_with fail
              cases y1
              · rw [Bool.false_and] at HS
                clear q1 hc0 hc1 hc2
                have hB0 : Below wr.heap.size wr wr.drew := (Below.refl _ _).drew
                have hS0 := hSK _ hB0
                refine HeldTo.region (fun U : World => U.cell? ⟨w.heap.size, 6, none⟩ = some (.slice (some ⟨b, o, none⟩) m6 c6) ∧ U.cell? ⟨b, o + k * 3, none⟩ = some (.int .i64 t0) ∧ U.cell? ⟨b, o + k * 3 + 1, none⟩ = some (.int .i64 t1) ∧ U.cell? ⟨b, o + k * 3 + 2, none⟩ = some (.int .i64 t2)) 27 (by kernel_rfl) ?_
                (refine HeldTo.plain (i := 0) (oi := _) (d := some 70) (v := ?_) rfl rfl (by kernel_rfl) (by kernel_rfl) (by kernel_rfl) (by kernel_rfl) (fun _ _ _ h => h) (Or.inl ⟨by rfl, ?_⟩) (fun _ => hS0) ?_; rotate_left; (focus (intro w hSw; clear hSw; go_simp; (try with_reducible rfl); done)); (try simp only [Act.put, List.setIfInBounds_toArray, List.set_cons_zero, List.set_cons_succ]))
                (refine HeldTo.plain (i := 1) (oi := _) (d := some 71) (v := ?_) rfl rfl (by kernel_rfl) (by kernel_rfl) (by kernel_rfl) (by kernel_rfl) (fun _ _ _ h => h) (Or.inl ⟨by rfl, ?_⟩) (fun _ => hS0) ?_; rotate_left; (focus (intro w hSw; clear hSw; go_simp; (try with_reducible rfl); done)); (try simp only [Act.put, List.setIfInBounds_toArray, List.set_cons_zero, List.set_cons_succ]))
                (refine HeldTo.take (i := 2) (oi := _) (d := some 72) (v := ?_) rfl rfl (by kernel_rfl) (by kernel_rfl) (by kernel_rfl) (by kernel_rfl) (by kernel_rfl) (by kernel_rfl) (fun _ _ _ h => h) (Or.inl ⟨by rfl, ?_⟩) hS0 ?_; rotate_left; (focus (intro w hSw; (try dsimp only at hSw); go_simp; (try with_reducible rfl); done)); (try simp only [Act.put, List.setIfInBounds_toArray, List.set_cons_zero, List.set_cons_succ]))
                (refine HeldTo.plain (i := 3) (oi := _) (d := some 73) (v := ?_) rfl rfl (by kernel_rfl) (by kernel_rfl) (by kernel_rfl) (by kernel_rfl) (fun _ _ _ h => h) (Or.inl ⟨by rfl, ?_⟩) (fun _ => hS0) ?_; rotate_left; (focus (intro w hSw; clear hSw; go_simp; (try with_reducible rfl); done)); (try simp only [Act.put, List.setIfInBounds_toArray, List.set_cons_zero, List.set_cons_succ]))
                (refine HeldTo.plain (i := 4) (oi := _) (d := some 74) (v := ?_) rfl rfl (by kernel_rfl) (by kernel_rfl) (by kernel_rfl) (by kernel_rfl) (fun _ _ _ h => h) (Or.inl ⟨by rfl, ?_⟩) (fun _ => hS0) ?_; rotate_left; (focus (intro w hSw; clear hSw; go_simp; (try with_reducible rfl); done)); (try simp only [Act.put, List.setIfInBounds_toArray, List.set_cons_zero, List.set_cons_succ]))
                (refine HeldTo.plain (i := 5) (oi := _) (d := some 75) (v := ?_) rfl rfl (by kernel_rfl) (by kernel_rfl) (by kernel_rfl) (by kernel_rfl) (fun _ _ _ h => h) (Or.inl ⟨by rfl, ?_⟩) (fun _ => hS0) ?_; rotate_left; (focus (intro w hSw; clear hSw; go_simp; (try with_reducible rfl); done)); (try simp only [Act.put, List.setIfInBounds_toArray, List.set_cons_zero, List.set_cons_succ]))
                (refine HeldTo.take (i := 6) (oi := _) (d := some 76) (v := ?_) rfl rfl (by kernel_rfl) (by kernel_rfl) (by kernel_rfl) (by kernel_rfl) (by kernel_rfl) (by kernel_rfl) (fun _ _ _ h => h) (Or.inl ⟨by rfl, ?_⟩) hS0 ?_; rotate_left; (focus (intro w hSw; (try dsimp only at hSw); go_simp; (try with_reducible rfl); done)); (try simp only [Act.put, List.setIfInBounds_toArray, List.set_cons_zero, List.set_cons_succ]))
                (refine HeldTo.plain (i := 7) (oi := _) (d := some 77) (v := ?_) rfl rfl (by kernel_rfl) (by kernel_rfl) (by kernel_rfl) (by kernel_rfl) (fun _ _ _ h => h) (Or.inl ⟨by rfl, ?_⟩) (fun _ => hS0) ?_; rotate_left; (focus (intro w hSw; clear hSw; go_simp; (try with_reducible rfl); done)); (try simp only [Act.put, List.setIfInBounds_toArray, List.set_cons_zero, List.set_cons_succ]))
                (refine HeldTo.plain (i := 8) (oi := _) (d := some 78) (v := ?_) rfl rfl (by kernel_rfl) (by kernel_rfl) (by kernel_rfl) (by kernel_rfl) (fun _ _ _ h => h) (Or.inl ⟨by rfl, ?_⟩) (fun _ => hS0) ?_; rotate_left; (focus (intro w hSw; clear hSw; go_simp; (try with_reducible rfl); done)); (try simp only [Act.put, List.setIfInBounds_toArray, List.set_cons_zero, List.set_cons_succ]))
                (refine HeldTo.plain (i := 9) (oi := _) (d := some 79) (v := ?_) rfl rfl (by kernel_rfl) (by kernel_rfl) (by kernel_rfl) (by kernel_rfl) (fun _ _ _ h => h) (Or.inl ⟨by rfl, ?_⟩) (fun _ => hS0) ?_; rotate_left; (focus (intro w hSw; clear hSw; go_simp; (try with_reducible rfl); done)); (try simp only [Act.put, List.setIfInBounds_toArray, List.set_cons_zero, List.set_cons_succ]))
                (refine HeldTo.take (i := 10) (oi := _) (d := some 80) (v := ?_) rfl rfl (by kernel_rfl) (by kernel_rfl) (by kernel_rfl) (by kernel_rfl) (by kernel_rfl) (by kernel_rfl) (fun _ _ _ h => h) (Or.inl ⟨by rfl, ?_⟩) hS0 ?_; rotate_left; (focus (intro w hSw; (try dsimp only at hSw); go_simp; (try with_reducible rfl); done)); (try simp only [Act.put, List.setIfInBounds_toArray, List.set_cons_zero, List.set_cons_succ]))
                (refine HeldTo.plain (i := 11) (oi := _) (d := some 81) (v := ?_) rfl rfl (by kernel_rfl) (by kernel_rfl) (by kernel_rfl) (by kernel_rfl) (fun _ _ _ h => h) (Or.inl ⟨by rfl, ?_⟩) (fun _ => hS0) ?_; rotate_left; (focus (intro w hSw; clear hSw; go_simp; (try with_reducible rfl); done)); (try simp only [Act.put, List.setIfInBounds_toArray, List.set_cons_zero, List.set_cons_succ]))
                (refine HeldTo.plain (i := 12) (oi := _) (d := some 82) (v := ?_) rfl rfl (by kernel_rfl) (by kernel_rfl) (by kernel_rfl) (by kernel_rfl) (fun _ _ _ h => h) (Or.inl ⟨by rfl, ?_⟩) (fun _ => hS0) ?_; rotate_left; (focus (intro w hSw; clear hSw; go_simp; (try with_reducible rfl); done)); (try simp only [Act.put, List.setIfInBounds_toArray, List.set_cons_zero, List.set_cons_succ]))
                (refine HeldTo.plain (i := 13) (oi := _) (d := some 83) (v := ?_) rfl rfl (by kernel_rfl) (by kernel_rfl) (by kernel_rfl) (by kernel_rfl) (fun _ _ _ h => h) (Or.inl ⟨by rfl, ?_⟩) (fun _ => hS0) ?_; rotate_left; (focus (intro w hSw; clear hSw; go_simp; (try with_reducible rfl); done)); (try simp only [Act.put, List.setIfInBounds_toArray, List.set_cons_zero, List.set_cons_succ]))
                (refine HeldTo.take (i := 14) (oi := _) (d := some 84) (v := ?_) rfl rfl (by kernel_rfl) (by kernel_rfl) (by kernel_rfl) (by kernel_rfl) (by kernel_rfl) (by kernel_rfl) (fun _ _ _ h => h) (Or.inl ⟨by rfl, ?_⟩) hS0 ?_; rotate_left; (focus (intro w hSw; (try dsimp only at hSw); go_simp; (try with_reducible rfl); done)); (try simp only [Act.put, List.setIfInBounds_toArray, List.set_cons_zero, List.set_cons_succ]))
                refine HeldTo.call (i := 15) (oi := _) (d := some 85) (R := fun v w' => v = .bool false ∧ Below wr.drew.heap.size wr.drew w') rfl rfl (by kernel_rfl) (by rfl) (by go_simp; done) ((HBT.out _ hB0).1) ?_
                rintro v wk1 ⟨rfl, hb1⟩
                have hB1 := hB0.trans (hb1.mono hB0.size)
                have hS1 := hSK _ hB1
                refine ⟨hS1, ?_⟩
                (try simp only [Act.put, List.setIfInBounds_toArray, List.set_cons_zero, List.set_cons_succ])
                (refine HeldTo.plain (i := 16) (oi := _) (d := some 86) (v := ?_) rfl rfl (by kernel_rfl) (by kernel_rfl) (by kernel_rfl) (by kernel_rfl) (fun _ _ _ h => h) (Or.inl ⟨by rfl, ?_⟩) (fun _ => hS1) ?_; rotate_left; (focus (intro w hSw; clear hSw; go_simp; (try with_reducible rfl); done)); (try simp only [Act.put, List.setIfInBounds_toArray, List.set_cons_zero, List.set_cons_succ]))
                (refine HeldTo.plain (i := 17) (oi := _) (d := some 87) (v := undef) rfl rfl (by kernel_rfl) (by kernel_rfl) (by kernel_rfl) (by kernel_rfl) (fun _ _ _ h => h) (Or.inr ⟨?_, rfl⟩) (fun _ => hS1) ?_; (focus (first | (go_simp; done) | (simp [Region.wanted, yielded, undef]; done) | rfl)); (try simp only [Act.put, List.setIfInBounds_toArray, List.set_cons_zero, List.set_cons_succ]))
                (refine HeldTo.plain (i := 18) (oi := _) (d := some 88) (v := undef) rfl rfl (by kernel_rfl) (by kernel_rfl) (by kernel_rfl) (by kernel_rfl) (fun _ _ _ h => h) (Or.inr ⟨?_, rfl⟩) (fun _ => hS1) ?_; (focus (first | (go_simp; done) | (simp [Region.wanted, yielded, undef]; done) | rfl)); (try simp only [Act.put, List.setIfInBounds_toArray, List.set_cons_zero, List.set_cons_succ]))
                (refine HeldTo.plain (i := 19) (oi := _) (d := some 89) (v := undef) rfl rfl (by kernel_rfl) (by kernel_rfl) (by kernel_rfl) (by kernel_rfl) (fun _ _ _ h => h) (Or.inr ⟨?_, rfl⟩) (fun _ => hS1) ?_; (focus (first | (go_simp; done) | (simp [Region.wanted, yielded, undef]; done) | rfl)); (try simp only [Act.put, List.setIfInBounds_toArray, List.set_cons_zero, List.set_cons_succ]))
                (refine HeldTo.plain (i := 20) (oi := _) (d := some 90) (v := undef) rfl rfl (by kernel_rfl) (by kernel_rfl) (by kernel_rfl) (by kernel_rfl) (fun _ _ _ h => h) (Or.inr ⟨?_, rfl⟩) (fun _ => hS1) ?_; (focus (first | (go_simp; done) | (simp [Region.wanted, yielded, undef]; done) | rfl)); (try simp only [Act.put, List.setIfInBounds_toArray, List.set_cons_zero, List.set_cons_succ]))
                (refine HeldTo.plain (i := 21) (oi := _) (d := some 91) (v := undef) rfl rfl (by kernel_rfl) (by kernel_rfl) (by kernel_rfl) (by kernel_rfl) (fun _ _ _ h => h) (Or.inr ⟨?_, rfl⟩) (fun _ => hS1) ?_; (focus (first | (go_simp; done) | (simp [Region.wanted, yielded, undef]; done) | rfl)); (try simp only [Act.put, List.setIfInBounds_toArray, List.set_cons_zero, List.set_cons_succ]))
                (refine HeldTo.plain (i := 22) (oi := _) (d := some 92) (v := undef) rfl rfl (by kernel_rfl) (by kernel_rfl) (by kernel_rfl) (by kernel_rfl) (fun _ _ _ h => h) (Or.inr ⟨?_, rfl⟩) (fun _ => hS1) ?_; (focus (first | (go_simp; done) | (simp [Region.wanted, yielded, undef]; done) | rfl)); (try simp only [Act.put, List.setIfInBounds_toArray, List.set_cons_zero, List.set_cons_succ]))
                (refine HeldTo.plain (i := 23) (oi := _) (d := some 93) (v := undef) rfl rfl (by kernel_rfl) (by kernel_rfl) (by kernel_rfl) (by kernel_rfl) (fun _ _ _ h => h) (Or.inr ⟨?_, rfl⟩) (fun _ => hS1) ?_; (focus (first | (go_simp; done) | (simp [Region.wanted, yielded, undef]; done) | rfl)); (try simp only [Act.put, List.setIfInBounds_toArray, List.set_cons_zero, List.set_cons_succ]))
                (refine HeldTo.plain (i := 24) (oi := _) (d := some 94) (v := undef) rfl rfl (by kernel_rfl) (by kernel_rfl) (by kernel_rfl) (by kernel_rfl) (fun _ _ _ h => h) (Or.inr ⟨?_, rfl⟩) (fun _ => hS1) ?_; (focus (first | (go_simp; done) | (simp [Region.wanted, yielded, undef]; done) | rfl)); (try simp only [Act.put, List.setIfInBounds_toArray, List.set_cons_zero, List.set_cons_succ]))
                (refine HeldTo.plain (i := 25) (oi := _) (d := some 95) (v := ?_) rfl rfl (by kernel_rfl) (by kernel_rfl) (by kernel_rfl) (by kernel_rfl) (fun _ _ _ h => h) (Or.inl ⟨by rfl, ?_⟩) (fun _ => hS1) ?_; rotate_left; (focus (intro w hSw; clear hSw; go_simp; (try with_reducible rfl); done)); (try simp only [Act.put, List.setIfInBounds_toArray, List.set_cons_zero, List.set_cons_succ]))
                (refine HeldTo.plain (i := 26) (oi := _) (d := some 96) (v := ?_) rfl rfl (by kernel_rfl) (by kernel_rfl) (by kernel_rfl) (by kernel_rfl) (fun _ _ _ h => h) (Or.inl ⟨by rfl, ?_⟩) (fun _ => hS1) ?_; rotate_left; (focus (intro w hSw; clear hSw; go_simp; (try with_reducible rfl); done)); (try simp only [Act.put, List.setIfInBounds_toArray, List.set_cons_zero, List.set_cons_succ]))
                have hrr := hR.out
                rw [← hB1.block g hgr] at hrr
                obtain ⟨⟨y, z1⟩, z2, z3⟩ := row_set hrr (j := j) (by rw [HLEN.out]; exact hjn) false
                have HB4 := Lib.hid ((hB.out.trans (hB1.mono hB.out.size)).setCell (p := ⟨g, j, none⟩) hge (.bool false))
                have HG4 : Hid ((wk1.setCell ⟨g, j, none⟩ (.bool false)).heap[g]? = some (.cells (bools ((x.ands.take (k + 1)).foldl stepA (baseL x bits))).toArray 4 (0, 0))) := by
                  show _ = _
                  rw [HS.out]
                  exact z3
                clear hrr z3 hR hB HS HLEN
                have hnc : ¬ (n : Int) ≤ (j : Int) := by omega
                (refine HeldTo.store (i := 27) (oi := _) (d := none) (w2 := wk1.setCell ⟨g, j, none⟩ (.bool false)) rfl rfl (by kernel_rfl) (by kernel_rfl) (by rfl) (by go_simp; done) ?_; (try simp only [Act.put, List.setIfInBounds_toArray, List.set_cons_zero, List.set_cons_succ]))
                refine HeldTo.done (by kernel_rfl) ?_ _
                go_wp2_with fail
                go_roundw
                case rel => exact ⟨k + 1, by omega, by first | go_num | omega, HG4⟩
                case measure => simp [intOf]; omega
              · rw [Bool.true_and] at HS
                clear q1 hc0 hc1 hc2
                have hB0 : Below wr.heap.size wr wr.drew := (Below.refl _ _).drew
                have hS0 := hSK _ hB0
                refine HeldTo.region (fun U : World => U.cell? ⟨w.heap.size, 6, none⟩ = some (.slice (some ⟨b, o, none⟩) m6 c6) ∧ U.cell? ⟨b, o + k * 3, none⟩ = some (.int .i64 t0) ∧ U.cell? ⟨b, o + k * 3 + 1, none⟩ = some (.int .i64 t1) ∧ U.cell? ⟨b, o + k * 3 + 2, none⟩ = some (.int .i64 t2)) 27 (by kernel_rfl) ?_
                (refine HeldTo.plain (i := 0) (oi := _) (d := some 70) (v := ?_) rfl rfl (by kernel_rfl) (by kernel_rfl) (by kernel_rfl) (by kernel_rfl) (fun _ _ _ h => h) (Or.inl ⟨by rfl, ?_⟩) (fun _ => hS0) ?_; rotate_left; (focus (intro w hSw; clear hSw; go_simp; (try with_reducible rfl); done)); (try simp only [Act.put, List.setIfInBounds_toArray, List.set_cons_zero, List.set_cons_succ]))
                (refine HeldTo.plain (i := 1) (oi := _) (d := some 71) (v := ?_) rfl rfl (by kernel_rfl) (by kernel_rfl) (by kernel_rfl) (by kernel_rfl) (fun _ _ _ h => h) (Or.inl ⟨by rfl, ?_⟩) (fun _ => hS0) ?_; rotate_left; (focus (intro w hSw; clear hSw; go_simp; (try with_reducible rfl); done)); (try simp only [Act.put, List.setIfInBounds_toArray, List.set_cons_zero, List.set_cons_succ]))
                (refine HeldTo.take (i := 2) (oi := _) (d := some 72) (v := ?_) rfl rfl (by kernel_rfl) (by kernel_rfl) (by kernel_rfl) (by kernel_rfl) (by kernel_rfl) (by kernel_rfl) (fun _ _ _ h => h) (Or.inl ⟨by rfl, ?_⟩) hS0 ?_; rotate_left; (focus (intro w hSw; (try dsimp only at hSw); go_simp; (try with_reducible rfl); done)); (try simp only [Act.put, List.setIfInBounds_toArray, List.set_cons_zero, List.set_cons_succ]))
                (refine HeldTo.plain (i := 3) (oi := _) (d := some 73) (v := ?_) rfl rfl (by kernel_rfl) (by kernel_rfl) (by kernel_rfl) (by kernel_rfl) (fun _ _ _ h => h) (Or.inl ⟨by rfl, ?_⟩) (fun _ => hS0) ?_; rotate_left; (focus (intro w hSw; clear hSw; go_simp; (try with_reducible rfl); done)); (try simp only [Act.put, List.setIfInBounds_toArray, List.set_cons_zero, List.set_cons_succ]))
                (refine HeldTo.plain (i := 4) (oi := _) (d := some 74) (v := ?_) rfl rfl (by kernel_rfl) (by kernel_rfl) (by kernel_rfl) (by kernel_rfl) (fun _ _ _ h => h) (Or.inl ⟨by rfl, ?_⟩) (fun _ => hS0) ?_; rotate_left; (focus (intro w hSw; clear hSw; go_simp; (try with_reducible rfl); done)); (try simp only [Act.put, List.setIfInBounds_toArray, List.set_cons_zero, List.set_cons_succ]))
                (refine HeldTo.plain (i := 5) (oi := _) (d := some 75) (v := ?_) rfl rfl (by kernel_rfl) (by kernel_rfl) (by kernel_rfl) (by kernel_rfl) (fun _ _ _ h => h) (Or.inl ⟨by rfl, ?_⟩) (fun _ => hS0) ?_; rotate_left; (focus (intro w hSw; clear hSw; go_simp; (try with_reducible rfl); done)); (try simp only [Act.put, List.setIfInBounds_toArray, List.set_cons_zero, List.set_cons_succ]))
                (refine HeldTo.take (i := 6) (oi := _) (d := some 76) (v := ?_) rfl rfl (by kernel_rfl) (by kernel_rfl) (by kernel_rfl) (by kernel_rfl) (by kernel_rfl) (by kernel_rfl) (fun _ _ _ h => h) (Or.inl ⟨by rfl, ?_⟩) hS0 ?_; rotate_left; (focus (intro w hSw; (try dsimp only at hSw); go_simp; (try with_reducible rfl); done)); (try simp only [Act.put, List.setIfInBounds_toArray, List.set_cons_zero, List.set_cons_succ]))
                (refine HeldTo.plain (i := 7) (oi := _) (d := some 77) (v := ?_) rfl rfl (by kernel_rfl) (by kernel_rfl) (by kernel_rfl) (by kernel_rfl) (fun _ _ _ h => h) (Or.inl ⟨by rfl, ?_⟩) (fun _ => hS0) ?_; rotate_left; (focus (intro w hSw; clear hSw; go_simp; (try with_reducible rfl); done)); (try simp only [Act.put, List.setIfInBounds_toArray, List.set_cons_zero, List.set_cons_succ]))
                (refine HeldTo.plain (i := 8) (oi := _) (d := some 78) (v := ?_) rfl rfl (by kernel_rfl) (by kernel_rfl) (by kernel_rfl) (by kernel_rfl) (fun _ _ _ h => h) (Or.inl ⟨by rfl, ?_⟩) (fun _ => hS0) ?_; rotate_left; (focus (intro w hSw; clear hSw; go_simp; (try with_reducible rfl); done)); (try simp only [Act.put, List.setIfInBounds_toArray, List.set_cons_zero, List.set_cons_succ]))
                (refine HeldTo.plain (i := 9) (oi := _) (d := some 79) (v := ?_) rfl rfl (by kernel_rfl) (by kernel_rfl) (by kernel_rfl) (by kernel_rfl) (fun _ _ _ h => h) (Or.inl ⟨by rfl, ?_⟩) (fun _ => hS0) ?_; rotate_left; (focus (intro w hSw; clear hSw; go_simp; (try with_reducible rfl); done)); (try simp only [Act.put, List.setIfInBounds_toArray, List.set_cons_zero, List.set_cons_succ]))
                (refine HeldTo.take (i := 10) (oi := _) (d := some 80) (v := ?_) rfl rfl (by kernel_rfl) (by kernel_rfl) (by kernel_rfl) (by kernel_rfl) (by kernel_rfl) (by kernel_rfl) (fun _ _ _ h => h) (Or.inl ⟨by rfl, ?_⟩) hS0 ?_; rotate_left; (focus (intro w hSw; (try dsimp only at hSw); go_simp; (try with_reducible rfl); done)); (try simp only [Act.put, List.setIfInBounds_toArray, List.set_cons_zero, List.set_cons_succ]))
                (refine HeldTo.plain (i := 11) (oi := _) (d := some 81) (v := ?_) rfl rfl (by kernel_rfl) (by kernel_rfl) (by kernel_rfl) (by kernel_rfl) (fun _ _ _ h => h) (Or.inl ⟨by rfl, ?_⟩) (fun _ => hS0) ?_; rotate_left; (focus (intro w hSw; clear hSw; go_simp; (try with_reducible rfl); done)); (try simp only [Act.put, List.setIfInBounds_toArray, List.set_cons_zero, List.set_cons_succ]))
                (refine HeldTo.plain (i := 12) (oi := _) (d := some 82) (v := ?_) rfl rfl (by kernel_rfl) (by kernel_rfl) (by kernel_rfl) (by kernel_rfl) (fun _ _ _ h => h) (Or.inl ⟨by rfl, ?_⟩) (fun _ => hS0) ?_; rotate_left; (focus (intro w hSw; clear hSw; go_simp; (try with_reducible rfl); done)); (try simp only [Act.put, List.setIfInBounds_toArray, List.set_cons_zero, List.set_cons_succ]))
                (refine HeldTo.plain (i := 13) (oi := _) (d := some 83) (v := ?_) rfl rfl (by kernel_rfl) (by kernel_rfl) (by kernel_rfl) (by kernel_rfl) (fun _ _ _ h => h) (Or.inl ⟨by rfl, ?_⟩) (fun _ => hS0) ?_; rotate_left; (focus (intro w hSw; clear hSw; go_simp; (try with_reducible rfl); done)); (try simp only [Act.put, List.setIfInBounds_toArray, List.set_cons_zero, List.set_cons_succ]))
                (refine HeldTo.take (i := 14) (oi := _) (d := some 84) (v := ?_) rfl rfl (by kernel_rfl) (by kernel_rfl) (by kernel_rfl) (by kernel_rfl) (by kernel_rfl) (by kernel_rfl) (fun _ _ _ h => h) (Or.inl ⟨by rfl, ?_⟩) hS0 ?_; rotate_left; (focus (intro w hSw; (try dsimp only at hSw); go_simp; (try with_reducible rfl); done)); (try simp only [Act.put, List.setIfInBounds_toArray, List.set_cons_zero, List.set_cons_succ]))
                refine HeldTo.call (i := 15) (oi := _) (d := some 85) (R := fun v w' => v = .bool true ∧ Below wr.drew.heap.size wr.drew w') rfl rfl (by kernel_rfl) (by rfl) (by go_simp; done) ((HBT.out _ hB0).1) ?_
                rintro v wk1 ⟨rfl, hb1⟩
                have hB1 := hB0.trans (hb1.mono hB0.size)
                have hS1 := hSK _ hB1
                refine ⟨hS1, ?_⟩
                (try simp only [Act.put, List.setIfInBounds_toArray, List.set_cons_zero, List.set_cons_succ])
                (refine HeldTo.plain (i := 16) (oi := _) (d := some 86) (v := ?_) rfl rfl (by kernel_rfl) (by kernel_rfl) (by kernel_rfl) (by kernel_rfl) (fun _ _ _ h => h) (Or.inl ⟨by rfl, ?_⟩) (fun _ => hS1) ?_; rotate_left; (focus (intro w hSw; clear hSw; go_simp; (try with_reducible rfl); done)); (try simp only [Act.put, List.setIfInBounds_toArray, List.set_cons_zero, List.set_cons_succ]))
                (refine HeldTo.plain (i := 17) (oi := _) (d := some 87) (v := ?_) rfl rfl (by kernel_rfl) (by kernel_rfl) (by kernel_rfl) (by kernel_rfl) (fun _ _ _ h => h) (Or.inl ⟨by rfl, ?_⟩) (fun _ => hS1) ?_; rotate_left; (focus (intro w hSw; clear hSw; go_simp; (try with_reducible rfl); done)); (try simp only [Act.put, List.setIfInBounds_toArray, List.set_cons_zero, List.set_cons_succ]))
                (refine HeldTo.plain (i := 18) (oi := _) (d := some 88) (v := ?_) rfl rfl (by kernel_rfl) (by kernel_rfl) (by kernel_rfl) (by kernel_rfl) (fun _ _ _ h => h) (Or.inl ⟨by rfl, ?_⟩) (fun _ => hS1) ?_; rotate_left; (focus (intro w hSw; clear hSw; go_simp; (try with_reducible rfl); done)); (try simp only [Act.put, List.setIfInBounds_toArray, List.set_cons_zero, List.set_cons_succ]))
                (refine HeldTo.take (i := 19) (oi := _) (d := some 89) (v := ?_) rfl rfl (by kernel_rfl) (by kernel_rfl) (by kernel_rfl) (by kernel_rfl) (by kernel_rfl) (by kernel_rfl) (fun _ _ _ h => h) (Or.inl ⟨by rfl, ?_⟩) hS1 ?_; rotate_left; (focus (intro w hSw; (try dsimp only at hSw); go_simp; (try with_reducible rfl); done)); (try simp only [Act.put, List.setIfInBounds_toArray, List.set_cons_zero, List.set_cons_succ]))
                (refine HeldTo.plain (i := 20) (oi := _) (d := some 90) (v := ?_) rfl rfl (by kernel_rfl) (by kernel_rfl) (by kernel_rfl) (by kernel_rfl) (fun _ _ _ h => h) (Or.inl ⟨by rfl, ?_⟩) (fun _ => hS1) ?_; rotate_left; (focus (intro w hSw; clear hSw; go_simp; (try with_reducible rfl); done)); (try simp only [Act.put, List.setIfInBounds_toArray, List.set_cons_zero, List.set_cons_succ]))
                (refine HeldTo.plain (i := 21) (oi := _) (d := some 91) (v := ?_) rfl rfl (by kernel_rfl) (by kernel_rfl) (by kernel_rfl) (by kernel_rfl) (fun _ _ _ h => h) (Or.inl ⟨by rfl, ?_⟩) (fun _ => hS1) ?_; rotate_left; (focus (intro w hSw; clear hSw; go_simp; (try with_reducible rfl); done)); (try simp only [Act.put, List.setIfInBounds_toArray, List.set_cons_zero, List.set_cons_succ]))
                (refine HeldTo.plain (i := 22) (oi := _) (d := some 92) (v := ?_) rfl rfl (by kernel_rfl) (by kernel_rfl) (by kernel_rfl) (by kernel_rfl) (fun _ _ _ h => h) (Or.inl ⟨by rfl, ?_⟩) (fun _ => hS1) ?_; rotate_left; (focus (intro w hSw; clear hSw; go_simp; (try with_reducible rfl); done)); (try simp only [Act.put, List.setIfInBounds_toArray, List.set_cons_zero, List.set_cons_succ]))
                (refine HeldTo.take (i := 23) (oi := _) (d := some 93) (v := ?_) rfl rfl (by kernel_rfl) (by kernel_rfl) (by kernel_rfl) (by kernel_rfl) (by kernel_rfl) (by kernel_rfl) (fun _ _ _ h => h) (Or.inl ⟨by rfl, ?_⟩) hS1 ?_; rotate_left; (focus (intro w hSw; (try dsimp only at hSw); go_simp; (try with_reducible rfl); done)); (try simp only [Act.put, List.setIfInBounds_toArray, List.set_cons_zero, List.set_cons_succ]))
                refine HeldTo.call (i := 24) (oi := _) (d := some 94) (R := fun v w' => v = .bool y2 ∧ Below wk1.heap.size wk1 w') rfl rfl (by kernel_rfl) (by rfl) (by go_simp; done) ((HBT.out _ hB1).2) ?_
                rintro v wk2 ⟨rfl, hb2⟩
                have hB2 := hB1.trans (hb2.mono hB1.size)
                have hS2 := hSK _ hB2
                refine ⟨hS2, ?_⟩
                (try simp only [Act.put, List.setIfInBounds_toArray, List.set_cons_zero, List.set_cons_succ])
                (refine HeldTo.plain (i := 25) (oi := _) (d := some 95) (v := ?_) rfl rfl (by kernel_rfl) (by kernel_rfl) (by kernel_rfl) (by kernel_rfl) (fun _ _ _ h => h) (Or.inl ⟨by rfl, ?_⟩) (fun _ => hS2) ?_; rotate_left; (focus (intro w hSw; clear hSw; go_simp; (try with_reducible rfl); done)); (try simp only [Act.put, List.setIfInBounds_toArray, List.set_cons_zero, List.set_cons_succ]))
                (refine HeldTo.plain (i := 26) (oi := _) (d := some 96) (v := ?_) rfl rfl (by kernel_rfl) (by kernel_rfl) (by kernel_rfl) (by kernel_rfl) (fun _ _ _ h => h) (Or.inl ⟨by rfl, ?_⟩) (fun _ => hS2) ?_; rotate_left; (focus (intro w hSw; clear hSw; go_simp; (try with_reducible rfl); done)); (try simp only [Act.put, List.setIfInBounds_toArray, List.set_cons_zero, List.set_cons_succ]))
                have hrr := hR.out
                rw [← hB2.block g hgr] at hrr
                obtain ⟨⟨y, z1⟩, z2, z3⟩ := row_set hrr (j := j) (by rw [HLEN.out]; exact hjn) y2
                have HB4 := Lib.hid ((hB.out.trans (hB2.mono hB.out.size)).setCell (p := ⟨g, j, none⟩) hge (.bool y2))
                have HG4 : Hid ((wk2.setCell ⟨g, j, none⟩ (.bool y2)).heap[g]? = some (.cells (bools ((x.ands.take (k + 1)).foldl stepA (baseL x bits))).toArray 4 (0, 0))) := by
                  show _ = _
                  rw [HS.out]
                  exact z3
                clear hrr z3 hR hB HS HLEN
                have hnc : ¬ (n : Int) ≤ (j : Int) := by omega
                (refine HeldTo.store (i := 27) (oi := _) (d := none) (w2 := wk2.setCell ⟨g, j, none⟩ (.bool y2)) rfl rfl (by kernel_rfl) (by kernel_rfl) (by rfl) (by go_simp; done) ?_; (try simp only [Act.put, List.setIfInBounds_toArray, List.set_cons_zero, List.set_cons_succ]))
                refine HeldTo.done (by kernel_rfl) ?_ _
                go_wp2_with fail
                go_roundw
                case rel => exact ⟨k + 1, by omega, by first | go_num | omega, HG4⟩
                case measure => simp [intOf]; omega
            · have hkm : k = m6 := by omega
              subst hkm
              have htk : x.ands.take k = x.ands := List.take_of_length_le (Nat.le_of_eq HM6.out)
              rw [htk] at hR
              have hlen : (x.ands.foldl stepA (baseL x bits)).length = n := by rw [fold_len, HBL.out]
              have hsl := row_sl hR.out (by rw [hlen]; omega)
              rw [hlen] at hsl
              have HSL := Lib.hid hsl
              have HBE := Lib.hid ((HB1.out.trans (hB.out.mono HB1.out.size)))
              clear htk hlen hsl hlt
              go_wp2_with fail
              go_ret
              exact ⟨g, rfl, HSL.out, HBE.out⟩
end StrashP
end Go.Proofs.Ythdhlkcdbogcaaa
