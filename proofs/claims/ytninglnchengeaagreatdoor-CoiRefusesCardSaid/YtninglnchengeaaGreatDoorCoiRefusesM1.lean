/-
  Several texts in one (written by merge2.py): XLayT XRepeatT XCont XTrip XOwnC XSetI XOffB XSprW XSlfS XRefBits XSimBitsT XHeldAll XSprR XHeldTo XHeldBr XApp2 XSprT XConeP XGate XSortedKeys XCloneI XCone XGetI XStrashP
-/
import Derived.Test.YtninglnchengeaaGreatDoorLaws
import Derived.Shelf.Lay
import Derived.Shelf.Strings.SlTrimAscii
import Derived.Shelf.Bits.Mul64
import Derived.Laws.CopyOwn
import Derived.Deep.RegionLaw
import Derived.Deep.DeepCutAuto
import Derived.Test.YtninglnchengeaaGreatDoorCirc
import Derived.Test.YtninglnchengeaaGreatDoorCBox
import Derived.Maps.OwnOps
import Derived.Maps.Views
import Derived.Lib.SlKeysI
import Derived.Test.YtninglnchengeaaGreatDoorSlfI
import Derived.Laws.IdiomStrings
import Derived.Test.YtninglnchengeaaGreatDoorBase
import Derived.Shelf.Abstract
import Derived.OrdersHeld
import Derived.Tactics
import Derived.Test.YtninglnchengeaaGreatDoorWfC
import Derived.Test.YtninglnchengeaaGreatDoorLex
import Derived.Laws.AppendOwn
import Derived.Laws.OwnMore
import Derived.Maps.AppendAt
import Derived.Test.YtninglnchengeaaGreatDoorGateP
import Derived.Shelf.SlIterI.Nil
import Derived.Shelf.SortM.Plain
import Derived.Shelf.SortM.SortNone
import Derived.Ground.GgzProg
import Derived.Ground.SlgmProg
import Derived.WalkSmall
import Derived.BigQuiet
import Derived.Lib.AppendZeros
import Derived.Test.YtninglnchengeaaGreatDoorDefine
/-
  Off the shelf: math/bits.Mul; strings.Trim.
-/
namespace Go.Proofs.YtninglnchengeaaGreatDoor
open Go.RowKit Base
set_option linter.unusedVariables false
set_option linter.unusedSimpArgs false
namespace LayB
open Go.Shelf

def lays160_ren : Go.Shelf.Ren := ⟨fun | 160 => 80 | 232 => 97 | 231 => 96 | 227 => 98 | 234 => 100 | 233 => 99 | 236 => 102 | 235 => 101 | 228 => 122 | 271 => 125 | 151 => 124 | 197 => 123 | 120 => 137 | 152 => 136 | 260 => 135 | 137 => 143 | 119 => 144 | 224 => 141 | 225 => 140 | 217 => 139 | 266 => 145 | n => n, fun | 9 => 9 | 4 => 4 | 3 => 3 | 5 => 5 | 117 => 133 | 116 => 132 | 0 => 0 | 124 => 136 | 21 => 21 | 105 => 159 | 46 => 48 | 119 => 174 | 139 => 177 | 138 => 176 | n => n, fun | 3 => 1 | 4 => 2 | n => n⟩
theorem lays160 : Go.Proofs.Lays.n160 Tryz.prog lays160_ren := {
  mixed := by kernel_rfl
  f119 := Tryz.func144.trans (congrArg some (by kernel_rfl))
  f120 := Tryz.func137.trans (congrArg some (by kernel_rfl))
  f137 := Tryz.func143.trans (congrArg some (by kernel_rfl))
  f151 := Tryz.func124.trans (congrArg some (by kernel_rfl))
  f152 := Tryz.func136.trans (congrArg some (by kernel_rfl))
  f160 := Tryz.func80.trans (congrArg some (by kernel_rfl))
  f197 := Tryz.func123.trans (congrArg some (by kernel_rfl))
  f217 := Tryz.func139.trans (congrArg some (by kernel_rfl))
  f224 := Tryz.func141.trans (congrArg some (by kernel_rfl))
  f225 := Tryz.func140.trans (congrArg some (by kernel_rfl))
  f227 := Tryz.func98.trans (congrArg some (by kernel_rfl))
  f228 := Tryz.func122.trans (congrArg some (by kernel_rfl))
  f231 := Tryz.func96.trans (congrArg some (by kernel_rfl))
  f232 := Tryz.func97.trans (congrArg some (by kernel_rfl))
  f233 := Tryz.func99.trans (congrArg some (by kernel_rfl))
  f234 := Tryz.func100.trans (congrArg some (by kernel_rfl))
  f235 := Tryz.func101.trans (congrArg some (by kernel_rfl))
  f236 := Tryz.func102.trans (congrArg some (by kernel_rfl))
  f260 := Tryz.func135.trans (congrArg some (by kernel_rfl))
  f266 := Tryz.func145.trans (congrArg some (by kernel_rfl))
  f271 := Tryz.func125.trans (congrArg some (by kernel_rfl))
  t0 := Tryz.underlying0
  a0 := Tryz.isAgg0
  z0 := Tryz.sizeOf0
  v0 := Tryz.zeroValue0
  t3 := Tryz.underlying3
  a3 := Tryz.isAgg3
  z3 := Tryz.sizeOf3
  v3 := Tryz.zeroValue3
  t4 := Tryz.underlying4
  a4 := Tryz.isAgg4
  z4 := Tryz.sizeOf4
  v4 := Tryz.zeroValue4
  t5 := Tryz.underlying5
  a5 := Tryz.isAgg5
  z5 := Tryz.sizeOf5
  v5 := Tryz.zeroValue5
  t9 := Tryz.underlying9
  a9 := Tryz.isAgg9
  z9 := Tryz.sizeOf9
  v9 := Tryz.zeroValue9
  t21 := Tryz.underlying21
  a21 := Tryz.isAgg21
  z21 := Tryz.sizeOf21
  v21 := Tryz.zeroValue21
  t46 := Tryz.underlying48
  a46 := Tryz.isAgg48
  z46 := Tryz.sizeOf48
  v46 := Tryz.zeroValue48
  t105 := Tryz.underlying159
  a105 := Tryz.isAgg159
  z105 := Tryz.sizeOf159
  v105 := Tryz.zeroValue159
  t116 := Tryz.underlying132
  a116 := Tryz.isAgg132
  z116 := Tryz.sizeOf132
  t117 := Tryz.underlying133
  a117 := Tryz.isAgg133
  z117 := Tryz.sizeOf133
  v117 := Tryz.zeroValue133
  t119 := Tryz.underlying174
  a119 := Tryz.isAgg174
  z119 := Tryz.sizeOf174
  t124 := Tryz.underlying136
  a124 := Tryz.isAgg136
  z124 := Tryz.sizeOf136
  v124 := Tryz.zeroValue136
  t138 := Tryz.underlying176
  a138 := Tryz.isAgg176
  z138 := Tryz.sizeOf176
  v138 := Tryz.zeroValue176
  t139 := Tryz.underlying177
  a139 := Tryz.isAgg177
  z139 := Tryz.sizeOf177
  v139 := Tryz.zeroValue177
  g3 := by kernel_rfl
  g4 := by kernel_rfl }
def lays212_ren : Go.Shelf.Ren := ⟨fun | 212 => 82 | 263 => 103 | 264 => 104 | n => n, fun | 46 => 48 | 51 => 137 | 146 => 138 | 53 => 42 | 148 => 140 | n => n, fun | n => n⟩
theorem lays212 : Go.Proofs.Lays.n212 Tryz.prog lays212_ren := {
  mixed := by kernel_rfl
  f212 := Tryz.func82.trans (congrArg some (by kernel_rfl))
  f263 := Tryz.func103.trans (congrArg some (by kernel_rfl))
  f264 := Tryz.func104.trans (congrArg some (by kernel_rfl))
  t46 := Tryz.underlying48
  a46 := Tryz.isAgg48
  z46 := Tryz.sizeOf48
  v46 := Tryz.zeroValue48
  t51 := Tryz.underlying137
  a51 := Tryz.isAgg137
  z51 := Tryz.sizeOf137
  v51 := Tryz.zeroValue137
  t53 := Tryz.underlying42
  a53 := Tryz.isAgg42
  z53 := Tryz.sizeOf42
  v53 := Tryz.zeroValue42
  t146 := Tryz.underlying138
  a146 := Tryz.isAgg138
  z146 := Tryz.sizeOf138
  v146 := Tryz.zeroValue138
  t148 := Tryz.underlying140
  a148 := Tryz.isAgg140
  z148 := Tryz.sizeOf140
  v148 := Tryz.zeroValue140 }

set_option maxRecDepth 100000 in
/-- strings.Trim at the bits '0' and '1'. -/
theorem trim_any (s : ByteArray) (w : World) (hs : s.size ≤ 9223372036854775807) :
    Calls Tryz.prog 80 #[.string s, .string ⟨#[48, 49]⟩] w fun e w' => e = .returned (.string ⟨(Lib.trimS s.data.toList [48, 49]).toArray⟩) ∧ Below w.heap.size w w' :=
  Any.strings_Trim_ascii lays160 Tryz.zeroValue132 (by kernel_rfl) s ⟨#[48, 49]⟩ w hs (by decide) (by
    intro j b hb
    match j, hb with
    | 0, hb => simp at hb; subst hb; decide
    | 1, hb => simp at hb; subst hb; decide)

theorem mul_any (x y : Nat) (hx : x < 18446744073709551616) (hy : y < 18446744073709551616) (w : World) :
    Calls Tryz.prog 82 #[.int .u64 x, .int .u64 y] w fun e w' => e = .returned (.tuple #[.int .u64 ((x * y / 18446744073709551616 : Nat) : Int), .int .u64 ((x * y % 18446744073709551616 : Nat) : Int)]) ∧ w' = w := Any.bits_Mul lays212 x y hx hy w
end LayB
end Go.Proofs.YtninglnchengeaaGreatDoor

/-
  slices.Repeat of one byte.
-/
namespace Go.Proofs.YtninglnchengeaaGreatDoor
open Go.RowKit Base
set_option linter.unusedVariables false
set_option linter.unusedSimpArgs false
namespace Repeat

theorem info_u8 : (Tryz.prog.info? 5).map (fun i => (i.zero, i.size, i.bytes)) = some (some (.int .u8 0), 1, 1) := by kernel_rfl
theorem size_u8 : (Tryz.prog.info? 5).map (·.size) = some 1 := by kernel_rfl

theorem mul1 (n : Nat) (hn : n < 18446744073709551616) (w : World) :
    Calls Tryz.prog 82 #[.int .u64 1, .int .u64 n] w fun e w' => e = .returned (.tuple #[.int .u64 0, .int .u64 n]) ∧ w' = w := by
  have h := LayB.mul_any 1 n (by decide) hn w
  rw [Nat.one_mul, Nat.div_eq_of_lt hn, Nat.mod_eq_of_lt hn] at h
  exact h

/-- copy within the walk: the operation written out. -/
theorem wpL_copy {P : Program} {w : World} {ops : Array Oper} {rest : List Oper} {dst : Option Tmp} {ty : TypeId} {pos : String} {af : Array Edge} {a : Act} {Q : Exit → Act → World → Prop}
    {d s : Operand} {dT sT elem : TypeId} (hu : P.underlying dT = some (.slice elem)) (hsz : (P.info? elem).map (·.size) = some 1)
    (dp sp : Option Addr) (dLen dCap sLen sCap : Nat) (hd : a.eval d = .slice dp dLen dCap) (hs : a.eval s = .slice sp sLen sCap)
    (g off : Nat) (cur : List Value) (t : TypeId) (hg : w.heap[g]? = some (.cells cur.toArray t (0, 0))) (cs : List Value) (hn : cs.length = Nat.min sLen dLen)
    (hpos : 0 < cs.length → dp = some ⟨g, off, none⟩ ∧ ∃ ad, sp = some ad ∧ ∀ j v, cs[j]? = some v → w.cell? (ad.add j) = some v)
    (hfit : off + cs.length ≤ cur.length) (h1 : ∀ v ∈ cs, v.oneCell' = true) (B : Nat) (w0 : World) (hb : Below B w0 w) (hBg : B ≤ g)
    (h : ∀ w', Hid (w'.heap[g]? = some (.cells (splice cur off cs).toArray t (0, 0))) → Below B w0 w' → wpList P ops Q rest (a.put dst (goInt cs.length)) w') :
    wpList P ops Q (⟨dst, .call { callee := .builtin .copy, args := #[d, s], argTypes := #[dT, sT] }, ty, pos, af, none⟩ :: rest) a w :=
  wpList_copy_splice rfl d s dT sT rfl elem hu hsz dp sp dLen dCap sLen sCap hd hs g off cur t hg cs hn hpos hfit h1 B w0 hb hBg h

def rowR (n k : Nat) : List Value := List.replicate k (.int .u8 48) ++ List.replicate (n - k) (.int .u8 0)
theorem rowR_len {n k : Nat} (h : k ≤ n) : (rowR n k).length = n := by unfold rowR; simp; omega
theorem rowR_full (n : Nat) : rowR n n = List.replicate n (.int .u8 48) := by unfold rowR; simp
theorem rowR_none (n : Nat) : rowR n 0 = List.replicate n (.int .u8 0) := by unfold rowR; simp
theorem splice_rep {n k m : Nat} (h : k + m ≤ n) : splice (rowR n k) k (List.replicate m (.int .u8 48)) = rowR n (k + m) := by
  unfold splice rowR
  rw [List.take_append_of_le_length (by simp), List.take_of_length_le (by simp), List.length_replicate, List.drop_append, List.drop_of_length_le (by simp), List.nil_append, List.length_replicate, List.drop_replicate]
  rw [← List.append_assoc, List.replicate_append_replicate]
  congr 2
  omega

theorem own_of {w : World} {B g n : Nat} (hB : B ≤ g) (hn : n ≤ 9223372036854775807) {e : TypeId} (hh : w.heap[g]? = some (.cells (rowR n n).toArray e (0, 0))) : w.ownsRow B e 1 (.slice (some ⟨g, 0, none⟩) n n) n (List.replicate n (.int .u8 48)) := by
  rw [rowR_full] at hh
  refine ⟨by simp, .inr ⟨g, n, _, rfl, hB, hh, Nat.le_refl _, by unfold maxLen; omega, by simp, by simp⟩⟩

theorem row_of {w : World} {B g n : Nat} {e : TypeId} (h : w.ownsRow B e 1 (.slice (some ⟨g, 0, none⟩) n n) n (List.replicate n (.int .u8 0))) : w.heap[g]? = some (.cells (rowR n 0).toArray e (0, 0)) := by
  obtain ⟨_, h2⟩ := h
  rcases h2 with ⟨h3, _⟩ | ⟨g', cap, cur, hv, _, hh, _, _, hcur, ht⟩
  · cases h3
  · simp only [Value.slice.injEq, Option.some.injEq, Addr.mk.injEq] at hv
    obtain ⟨⟨rfl, _⟩, _, rfl⟩ := hv
    rw [hh, rowR_none, ← ht, List.take_of_length_le (by rw [Array.length_toList, hcur]; omega)]

theorem cells_rep {w : World} {g n k : Nat} {e : TypeId} (h : w.heap[g]? = some (.cells (rowR n k).toArray e (0, 0))) (m : Nat) (hm : m ≤ k) (j : Nat) (v : Value) (hj : (List.replicate m (Value.int .u8 48))[j]? = some v) : w.cell? ((⟨g, 0, none⟩ : Addr).add j) = some v := by
  obtain ⟨hlt, hv⟩ := List.getElem?_eq_some_iff.1 hj
  rw [List.length_replicate] at hlt
  rw [List.getElem_replicate] at hv
  rw [Addr.add_lit, cell_of_row _ g (0 + j) _ e _ h, ← hv]
  unfold rowR
  rw [List.getElem?_toArray, List.getElem?_append_left (by simp; omega), List.getElem?_replicate, if_pos (by omega)]

/-- The bytes are copied onto themselves. -/
theorem copy_run {P : Program} {dT elem : TypeId} (hu : P.underlying dT = some (.slice elem)) (hsz : (P.info? elem).map (·.size) = some 1) (w : World) (g n k q : Nat) {e : TypeId}
    (hR : w.heap[g]? = some (.cells (rowR n k).toArray e (0, 0))) (hQ : Nat.min k (n - k) = q) (h1 : q ≤ k) (h2 : k + q ≤ n) {B : Nat} {w0 : World} (hb : Below B w0 w) (hB : B ≤ g) :
    ∃ w4, (Builtin.copy_ #[dT, dT] 3 #[.slice (some ⟨g, k, none⟩) (n - k) (n - k), .slice (some ⟨g, 0, none⟩) k n]).run P w.drew = .ok (.int .i64 q) w4 ∧ w4.heap[g]? = some (.cells (rowR n (k + q)).toArray e (0, 0)) ∧ Below B w0 w4 := by
  have hlen : (List.replicate q (Value.int .u8 48)).length = q := List.length_replicate
  have hfit : k + (List.replicate q (Value.int .u8 48)).length ≤ (rowR n k).toArray.size := by
    rw [List.size_toArray, rowR_len (by omega), hlen]; exact h2
  have hr := run_copy_row (P := P) w.drew dT dT 3 elem g k (n - k) (n - k) ⟨g, 0, none⟩ k n (rowR n k).toArray e (List.replicate q (.int .u8 48)) hu hsz hR (hlen.trans hQ.symm)
    (fun j v hj => cells_rep (w := w.drew) hR q h1 j v hj) hfit (fun v hv => by rw [List.eq_of_mem_replicate hv]; rfl)
  refine ⟨_, by rw [hr, hlen]; rfl, ?_, below_setRow hb.drew hB _⟩
  rw [setRow_heap w.drew g _ _ e _ hR]
  have := splice_rep h2
  unfold splice at this
  rw [← this]
  simp

set_option maxRecDepth 8000 in
set_option maxHeartbeats 2000000 in
theorem repeat_any (w : World) (g0 o0 c0 : Nat) (hs : Sl w (some ⟨g0, o0, none⟩) 1 c0 [.int .u8 48]) (n : Nat) (hn : n ≤ 1000000) :
    Calls Tryz.prog 48 #[.slice (some ⟨g0, o0, none⟩) 1 c0, .int .i64 n] w fun e w' => ∃ g, e = .returned (.slice (some ⟨g, 0, none⟩) n n) ∧ w'.ownsRow w.heap.size 5 1 (.slice (some ⟨g, 0, none⟩) n n) n (List.replicate n (.int .u8 48)) ∧ Below w.heap.size w w' := by
  have HS := Lib.hid hs
  have HM := Lib.hid (mul1 n (by omega) w)
  have hd1 : decide ((9223372036854775807 : Int) < (n : Int)) = false := decide_eq_false (by omega)
  have hd2 : ¬ (n : Int) < 0 := by omega
  have hd3 : ¬ (9223372036854775807 : Int) < (n : Int) := by omega
  clear hs
  go_enter Tryz.func48, Tryz.ntmps48
  go_wp2_with fail
  refine HM.out.mono ?_
  rintro e w1 ⟨rfl, rfl⟩
  go_upto_region 6 with fail
  clear hd1 hd2 hd3
  go_upto_region 7 with (at_make; (with_reducible refine wpL_make n (L := (n : Int)) (C := (n : Int)) info_u8 Tryz.underlying49 ?_ ?_ ?_ ?_ ?_ ?_ ?_ ?_); rfl; rfl; rfl; omega; omega; omega; omega; (intro g w2 hown hb hge hlt))
  have hrow := row_of hown
  have hsrc := HS.out.next hb
  have HROW := Lib.hid hrow
  have HSRC := Lib.hid hsrc
  have HB := Lib.hid hb
  clear hrow hsrc hown hb
  obtain ⟨m, hm0, hm3, hm1, hm2⟩ : ∃ m, Nat.min 1 n = m ∧ m ≤ 1 ∧ m ≤ n ∧ (1 ≤ n → 1 ≤ m) := ⟨_, rfl, Nat.min_le_left 1 n, Nat.min_le_right 1 n, fun h => Nat.le_min.2 ⟨Nat.le_refl _, h⟩⟩
  have HM0 := Lib.hid hm0
  clear hm0
  have hcs : ∀ j v, (List.replicate m (Value.int .u8 48))[j]? = some v → w2.cell? ((⟨g0, o0, none⟩ : Addr).add j) = some v := by
    intro j v hj
    obtain ⟨hlt, hv⟩ := List.getElem?_eq_some_iff.1 hj
    rw [List.length_replicate] at hlt
    have hj0 : j = 0 := by omega
    subst hj0
    rw [List.getElem_replicate] at hv
    obtain ⟨b', o', ha, _, hc⟩ := HSRC.out.cell 0 _ rfl
    simp only [Option.some.injEq, Addr.mk.injEq] at ha
    obtain ⟨rfl, rfl, _⟩ := ha
    rw [← hv, Addr.add_lit]
    exact hc
  have hfit : 0 + (List.replicate m (Value.int .u8 48)).length ≤ (rowR n 0).length := by
    rw [rowR_len (Nat.zero_le _), List.length_replicate]; omega
  have hone : ∀ v ∈ List.replicate m (Value.int .u8 48), v.oneCell' = true := by
    intro v hv
    rw [List.eq_of_mem_replicate hv]; rfl
  have HCS := Lib.hid hcs
  have HFIT := Lib.hid hfit
  have HONE := Lib.hid hone
  clear hcs hfit hone
  go_wp2_with ((with_reducible refine wpL_copy Tryz.underlying49 size_u8 (some ⟨g, 0, none⟩) (some ⟨g0, o0, none⟩) n n 1 c0 ?_ ?_ g 0 (rowR n 0) 5 HROW.out (List.replicate m (.int .u8 48)) ?_ (fun _ => ⟨rfl, ⟨g0, o0, none⟩, rfl, HCS.out⟩) HFIT.out HONE.out w1.heap.size w1 HB.out hge ?_); rfl; rfl; (exact List.length_replicate.trans HM0.out.symm); skip)
  intro w3 hw3 hb3
  have hw3' : Hid (w3.heap[g]? = some (.cells (rowR n m).toArray 5 (0, 0))) := by
    have h := hw3.out
    have e := splice_rep (n := n) (k := 0) (m := m) (by omega)
    rw [e, Nat.zero_add] at h
    exact h
  rw [List.length_replicate]
  clear hw3 HROW HSRC HS HM HB HCS HFIT HONE
  have HB3 := Lib.hid hb3
  have HM2 := Lib.hid hm2
  clear hb3 hm2
  go_wp2_with fail
  go_loopw [8] (fun i wr => ∃ k : Nat, k ≤ n ∧ (1 ≤ n → 1 ≤ k) ∧ i = .int .i64 k ∧ Hid (wr.heap[g]? = some (.cells (rowR n k).toArray 5 (0, 0))) ∧ Hid (Below w1.heap.size w1 wr)) (fun i _ => n - (intOf i).toNat)
  case atStart => exact ⟨m, hm1, HM2.out, rfl, hw3', HB3⟩
  case round =>
    obtain ⟨k, hk, hk1, rfl, hR, hB⟩ := hrel
    by_cases hlt : k < n
    · have hk1' := hk1 (by omega)
      clear hk1
      obtain ⟨q, hq0, hq1, hq2, hq3⟩ : ∃ q, Nat.min k (n - k) = q ∧ q ≤ k ∧ k + q ≤ n ∧ 1 ≤ q := ⟨_, rfl, Nat.min_le_left _ _, (by have : Nat.min k (n - k) ≤ n - k := Nat.min_le_right _ _; omega), Nat.le_min.2 ⟨hk1', by omega⟩⟩
      have HQ := Lib.hid hq0
      clear hq0
      have hne : ¬ (n = k) := by omega
      obtain ⟨w4, hrun, hg4, hb4⟩ := copy_run (P := Tryz.prog) Tryz.underlying49 size_u8 wr g n k q (e := 5) hR.out HQ.out hq1 hq2 (B := w1.heap.size) (w0 := w1) hB.out hge
      have HG4 := Lib.hid hg4
      have HB4 := Lib.hid hb4
      clear hg4 hb4
      go_wp2_with fail
      go_region
      all_goals
        go_wp2_with fail
        go_roundw
        case rel => exact ⟨k + q, hq2, fun _ => by omega, by go_num, HG4, HB4⟩
        case measure => simp [intOf]; omega
    · have hkn : k = n := by omega
      have hR' : Hid (wr.heap[g]? = some (.cells (rowR n n).toArray 5 (0, 0))) := by have h := hR.out; rw [hkn] at h; exact h
      clear hkn hk1
      go_wp2_with fail
      go_ret
      exact ⟨g, rfl, own_of hge (by omega) hR'.out, hB.out⟩
end Repeat
end Go.Proofs.YtninglnchengeaaGreatDoor

/-
  slices.Index and slices.Contains of []int.
-/
namespace Go.Proofs.YtninglnchengeaaGreatDoor
open Go.RowKit Base
set_option linter.unusedVariables false
set_option linter.unusedSimpArgs false
namespace Cont

theorem idx_take {xs : List Int} {x : Int} {k : Nat} (hk : k < xs.length) (h : decide (x ∈ xs.take k) = false) (hp : xs[k] ≠ x) : decide (x ∈ xs.take (k + 1)) = false := by
  rw [List.take_succ_eq_append_getElem hk]
  simp only [decide_eq_false_iff_not, List.mem_append, List.mem_singleton, not_or] at h ⊢
  exact ⟨h, fun e => hp e.symm⟩

set_option maxHeartbeats 1000000 in
theorem index_any (w : World) (a : Option Addr) (n c : Nat) (xs : List Int) (hsl : Sl w a n c (ints xs)) (x : Int) :
    Calls Tryz.prog 49 #[.slice a n c, .int .i64 x] w fun e w' => (∃ i : Int, e = .returned (.int .i64 i) ∧ (0 ≤ i ↔ x ∈ xs)) ∧ w = w' := by
  have HL : Hid (xs.length = n) := by have := hsl.len; rwa [ints_len] at this
  have hcap := hsl.cap
  have hbig := hsl.big
  have HSL := Lib.hid hsl
  clear hsl
  go_enter Tryz.func49, Tryz.ntmps49
  go_wp2
  go_loop [4, 8] (fun _ i => ∃ k : Nat, k ≤ n ∧ i = .int .i64 k ∧ Hid (decide (x ∈ xs.take k) = false)) (fun _ i => n - (intOf i).toNat)
  case atStart => exact ⟨0, Nat.zero_le _, rfl, by show _ = _; simp⟩
  case round =>
    obtain ⟨k, hk, rfl, hI⟩ := hrel
    by_cases hlt : k < n
    · obtain ⟨b, o, hx, rfl, hbs, hc⟩ := HSL.out.int hlt
      generalize hp : xs[k] = p at *
      have HP := Lib.hid hp
      clear hp
      by_cases hq : x = p
      · have v0 : (x == p) = true := by simp [hq]
        have HF : Hid (decide (x ∈ xs) = true) := by
          show _ = _
          rw [hq, ← HP.out]
          simp
        clear hq
        go_wp2
        go_ret
        exact ⟨⟨_, rfl, ⟨fun _ => of_decide_eq_true HF.out, fun _ => by omega⟩⟩, rfl⟩
      · have v0 : (x == p) = false := by simp [hq]
        have HF : Hid (decide (x ∈ xs.take (k + 1)) = false) := idx_take hx hI.out (by rw [HP.out]; exact fun e => hq e.symm)
        clear hq
        go_wp2
        go_round
        case rel => exact ⟨k + 1, by omega, by go_num, HF⟩
        case measure => simp [intOf]; omega
    · have HF : Hid (decide (x ∈ xs) = false) := by
        show _ = _
        have h := hI.out
        rwa [List.take_of_length_le (by have := HL.out; omega)] at h
      go_wp2
      go_ret
      exact ⟨⟨_, rfl, ⟨fun h => by omega, fun h => absurd h (of_decide_eq_false HF.out)⟩⟩, rfl⟩

set_option maxHeartbeats 1000000 in
theorem contains_any (w : World) (a : Option Addr) (n c : Nat) (xs : List Int) (hsl : Sl w a n c (ints xs)) (x : Int) :
    Calls Tryz.prog 79 #[.slice a n c, .int .i64 x] w fun e w' => e = .returned (.bool (decide (x ∈ xs))) ∧ w = w' := by
  have H := Lib.hid (index_any w a n c xs hsl x)
  clear hsl
  go_enter Tryz.func79, Tryz.ntmps79
  go_wp2_with fail
  refine H.out.mono ?_
  rintro e w1 ⟨⟨i, rfl, hi⟩, rfl⟩
  have HI := Lib.hid hi
  clear hi
  go_wp2_with fail
  go_ret
  exact ⟨ret_bool (decide_eq_decide.2 HI.out), rfl⟩

end Cont
end Go.Proofs.YtninglnchengeaaGreatDoor

/-
  Slices of structs of k cells in memory of one's own; what may be written; what lies from a block on stays. No program's function.
-/
namespace Go.Proofs.YtninglnchengeaaGreatDoor
open Go.RowKit
set_option linter.unusedVariables false
set_option linter.unusedSimpArgs false
namespace Base

theorem flat_len {k : Nat} {vs : List (List Value)} (h : ∀ r ∈ vs, r.length = k) : vs.flatten.length = vs.length * k := by
  induction vs with
  | nil => simp
  | cons x r ih =>
    rw [List.flatten_cons, List.length_append, List.length_cons, ih (fun y hy => h y (List.mem_cons_of_mem _ hy)), h x List.mem_cons_self, Nat.succ_mul, Nat.add_comm]

theorem flat_at {k : Nat} {vs : List (List Value)} (h : ∀ r ∈ vs, r.length = k) (i j : Nat) (hj : j < k) : vs.flatten[i * k + j]? = (vs[i]?).bind (·[j]?) := by
  induction vs generalizing i with
  | nil => simp
  | cons x r ih =>
    have hx := h x List.mem_cons_self
    rw [List.flatten_cons]
    cases i with
    | zero =>
      rw [Nat.zero_mul, Nat.zero_add, List.getElem?_append_left (by omega)]
      rfl
    | succ i =>
      rw [List.getElem?_append_right (by rw [hx, Nat.succ_mul]; omega)]
      have e : (i + 1) * k + j - x.length = i * k + j := by rw [hx, Nat.succ_mul]; omega
      rw [e, ih (fun y hy => h y (List.mem_cons_of_mem _ hy)), List.getElem?_cons_succ]

theorem tris_row (l : List Tri) : ∀ r ∈ tris l, r.length = 3 := by
  intro r hr
  unfold tris at hr
  obtain ⟨t, _, rfl⟩ := List.mem_map.1 hr
  rfl
theorem names_row (l : List (ByteArray × Int × ByteArray)) : ∀ r ∈ namesV l, r.length = 3 := by
  intro r hr
  unfold namesV at hr
  obtain ⟨t, _, rfl⟩ := List.mem_map.1 hr
  rfl
theorem tris_len (l : List Tri) : (tris l).length = l.length := by simp [tris]
theorem names_len (l : List (ByteArray × Int × ByteArray)) : (namesV l).length = l.length := by simp [namesV]
theorem tris_one (l : List Tri) : ∀ u ∈ (tris l).flatten, u.oneCell' = true := by
  intro u hu
  obtain ⟨r, hr, hu⟩ := List.mem_flatten.1 hu
  unfold tris at hr
  obtain ⟨t, _, rfl⟩ := List.mem_map.1 hr
  simp only [List.mem_cons, List.not_mem_nil, or_false] at hu
  rcases hu with rfl | rfl | rfl <;> rfl
theorem names_one (l : List (ByteArray × Int × ByteArray)) : ∀ u ∈ (namesV l).flatten, u.oneCell' = true := by
  intro u hu
  obtain ⟨r, hr, hu⟩ := List.mem_flatten.1 hu
  unfold namesV at hr
  obtain ⟨t, _, rfl⟩ := List.mem_map.1 hr
  simp only [List.mem_cons, List.not_mem_nil, or_false] at hu
  rcases hu with rfl | rfl | rfl <;> rfl

/-- The cells of a slice that can be read, one behind another. -/
theorem SlT.flat {w : World} {k : Nat} (hk : 0 < k) {ad : Addr} {n c : Nat} {vs : List (List Value)} (h : SlT w k (some ad) n c vs) : ∀ j u, vs.flatten[j]? = some u → w.cell? (ad.add j) = some u := by
  intro j u hu
  have hr : ∀ r ∈ vs, r.length = k := fun r hr => by
    obtain ⟨i, hi⟩ := List.getElem?_of_mem hr
    exact (h.cell i r hi).1
  have hj : j = (j / k) * k + j % k := by rw [Nat.mul_comm]; exact (Nat.div_add_mod j k).symm
  rw [hj, flat_at hr _ _ (Nat.mod_lt _ hk)] at hu
  obtain ⟨r, h1, h2⟩ := Option.bind_eq_some_iff.1 hu
  obtain ⟨_, b, o, ha, _, hc⟩ := h.cell _ r h1
  simp only [Option.some.injEq] at ha
  subst ha
  have := hc _ u h2
  rw [Addr.add_lit, hj, ← Nat.add_assoc]
  exact this

/-- What is owned, as a slice that can be read. -/
theorem own_slT {w : World} {B : Nat} {e : TypeId} {k : Nat} {v : Value} {n : Nat} {vs : List (List Value)} (hk : 0 < k) (hr : ∀ r ∈ vs, r.length = k) (hn : vs.length = n) (h : w.ownsRow B e k v n vs.flatten) :
    ∃ a c, v = .slice a n c ∧ SlT w k a n c vs := by
  obtain ⟨hl, h2⟩ := h
  rcases h2 with ⟨rfl, rfl⟩ | ⟨g, cap, cur, rfl, hg, hh, hnc, hcap, hcur, htake⟩
  · exact ⟨none, 0, rfl, hn, Nat.le_refl _, by omega, fun _ => ⟨rfl, rfl⟩, fun i x hx => by
      have := (List.getElem?_eq_some_iff.1 hx).1; omega⟩
  · refine ⟨_, _, rfl, hn, hnc, by unfold maxLen at hcap; omega, (fun h => by cases h), fun i r hi => ⟨hr r (List.mem_of_getElem? hi), g, 0, rfl, (Array.getElem?_eq_some_iff.1 hh).1, fun j x hx => ?_⟩⟩
    have hjk : j < k := by
      have h1 := (List.getElem?_eq_some_iff.1 hx).1
      rw [hr r (List.mem_of_getElem? hi)] at h1
      exact h1
    have hf : vs.flatten[i * k + j]? = some x := by rw [flat_at hr _ _ hjk, hi]; exact hx
    rw [← htake, List.getElem?_take] at hf
    rw [cell_of_row _ g (0 + i * k + j) cur e _ hh]
    split at hf
    · rw [Nat.zero_add]; simpa using hf
    · cases hf

/-- append of all of a slice to one's own, elements of k cells. -/
theorem wpL_appK {P : Program} {w : World} {ops : Array Oper} {rest : List Oper} {dst : Option Tmp} {ty : TypeId} {pos : String} {af : Array Edge} {a : Act} {Q : Exit → Act → World → Prop}
    {s x : Operand} {t e : TypeId} {z : Value} {k bytes : Nat} (hk : 0 < k) (B : Nat) (v : Value) (n : Nat) (vs : List (List Value)) (ao : Option Addr) (m c : Nat) (us : List (List Value))
    (hinfo : (P.info? e).map (fun i => (i.zero, i.size, i.bytes)) = some (some z, k, bytes)) (ht : P.underlying t = some (.slice e)) (hzs : z.cells.size = k)
    (hs : a.eval s = v) (hx : a.eval x = .slice ao m c) (hu : ∀ u ∈ us.flatten, u.oneCell' = true) (hur : ∀ r ∈ us, r.length = k)
    (hown : w.ownsRow B e k v n vs.flatten) (hsl : SlT w k ao m c us) (hB : B ≤ w.heap.size) (hn : (n + m) * bytes ≤ 140737488355328) (hn' : n + m ≤ 9223372036854775807) {W : World} (hb : Below B W w)
    (hK : ∀ a' c' w1, w1.ownsRow B e k (.slice a' (n + m) c') (n + m) (vs ++ us).flatten → Below B W w1 → w.heap.size ≤ w1.heap.size → wpList P ops Q rest (a.put dst (.slice a' (n + m) c')) w1) :
    wpList P ops Q (⟨dst, .call { callee := .builtin .append, args := #[s, x], argTypes := #[t, t] }, ty, pos, af, none⟩ :: rest) a w := by
  obtain ⟨i, hi, hz0, hz1, hz2⟩ := info_parts hinfo
  have shape : ∀ {w : World} {v : Value} {n : Nat} {xs : List Value}, w.ownsRow B e k v n xs → ∃ a c, v = .slice a n c := by
    intro w v n xs h
    rcases h.2 with ⟨rfl, rfl⟩ | ⟨g, cap, cur, rfl, _⟩
    · exact ⟨none, 0, rfl⟩
    · exact ⟨_, _, rfl⟩
  cases ao with
  | none =>
    obtain ⟨rfl, rfl⟩ := hsl.bare rfl
    have hus : us = [] := List.eq_nil_of_length_eq_zero hsl.len
    subst hus
    refine wpList_append_own_none rfl s x t rfl B e i k ht hi v n vs.flatten hs hown hx ?_
    obtain ⟨a', c', rfl⟩ := shape hown
    exact hK a' c' w (by simpa using hown) hb (Nat.le_refl _)
  | some ad =>
    have hl : us.flatten.length = m * k := by rw [flat_len hur, hsl.len]
    refine wpList_append_own _ rfl s x t rfl B e i z k bytes ht hi hz0 hz1 hz2 hzs hk v n vs.flatten hs hown ad m c us.flatten hx hl ?_ hu
      (by unfold maxLen; omega) hn hB ?_
    · exact hsl.flat hk
    · intro v' w1 hown' hgrow _
      obtain ⟨a', c', rfl⟩ := shape hown'
      exact hK a' c' w1 (by rw [List.flatten_append]; exact hown') (below_own hown hgrow hb hB) hgrow.size

/-- w2 is as w from block N on. -/
structure Holds (N : Nat) (w w2 : World) : Prop where
  size : w.heap.size ≤ w2.heap.size
  block : ∀ k, N ≤ k → k < w.heap.size → w2.heap[k]? = w.heap[k]?

theorem Holds.refl (N : Nat) (w : World) : Holds N w w := ⟨Nat.le_refl _, fun _ _ _ => rfl⟩
theorem Holds.of {N : Nat} {w w2 : World} (h : Below w.heap.size w w2) : Holds N w w2 := ⟨h.size, fun k _ hk => h.block k hk⟩
theorem Holds.trans {N : Nat} {w w1 w2 : World} (h : Holds N w w1) (h2 : Holds N w1 w2) : Holds N w w2 :=
  ⟨Nat.le_trans h.size h2.size, fun k hn hk => (h2.block k hn (Nat.lt_of_lt_of_le hk h.size)).trans (h.block k hn hk)⟩
theorem Holds.set {N : Nat} {w w2 : World} (h : Holds N w w2) {a : Addr} (hb : a.block < N) (u : Value) : Holds N w (w2.setCell a u) := by
  refine ⟨by simpa [World.setCell] using h.size, fun k hn hk => ?_⟩
  simp only [World.setCell, Array.getElem?_modify]
  rw [if_neg (by omega)]
  exact h.block k hn hk
theorem Holds.own {w w2 : World} {N B : Nat} {e : TypeId} {size : Nat} {v : Value} {n : Nat} {vs : List Value} (hk : Holds N w w2) (h : w.ownsRow B e size v n vs) (hN : N ≤ B) : w2.ownsRow B e size v n vs := by
  refine ⟨h.1, ?_⟩
  rcases h.2 with hn | ⟨g, cap, cur, rfl, hg, hh, r⟩
  · exact .inl hn
  · exact .inr ⟨g, cap, cur, rfl, hg, by rw [hk.block g (by omega) (Array.getElem?_eq_some_iff.1 hh).1]; exact hh, r⟩

/-- The first m cells of a slice may be written; they lie in a block from B to N. -/
def Writes (w : World) (B N : Nat) (a : Option Addr) (m : Nat) : Prop := m = 0 ∨ ∃ g, a = some ⟨g, 0, none⟩ ∧ B ≤ g ∧ g < N ∧ ∀ j, j < m → (∃ u, w.cell? ⟨g, j, none⟩ = some u) ∧ w.frozen? ⟨g, j, none⟩ = false

theorem Writes.set {w : World} {B N : Nat} {a : Option Addr} {m : Nat} (h : Writes w B N a m) (p : Addr) (u : Value) : Writes (w.setCell p u) B N a m := by
  rcases h with h | ⟨g, ha, h1, h2, hc⟩
  · exact .inl h
  · refine .inr ⟨g, ha, h1, h2, fun j hj => ⟨?_, by rw [World.frozen?_setCell]; exact (hc j hj).2⟩⟩
    obtain ⟨x, hx⟩ := (hc j hj).1
    exact cell?_setCell_some hx

theorem Writes.of {w : World} {B : Nat} {e : TypeId} {k : Nat} {a : Option Addr} {n c : Nat} {vs : List Value} (h : w.ownsRow B e k (.slice a n c) n vs) : Writes w B w.heap.size a (n * k) := by
  rcases h.2 with ⟨_, rfl⟩ | ⟨g, cap, cur, hv, hg, hh, hnc, hcap, hcur, htake⟩
  · exact .inl (by simp)
  · simp only [Value.slice.injEq, true_and] at hv
    obtain ⟨rfl, rfl⟩ := hv
    refine .inr ⟨g, rfl, hg, (Array.getElem?_eq_some_iff.1 hh).1, fun j hj => ⟨?_, ?_⟩⟩
    · rw [cell_of_row _ g j cur e _ hh]
      have hlt : j < cur.size := by rw [hcur]; exact Nat.lt_of_lt_of_le hj (Nat.mul_le_mul_right _ hnc)
      exact ⟨cur[j], by simp [hlt]⟩
    · simp [World.frozen?, hh]

theorem Writes.next {w w' : World} {B N : Nat} {a : Option Addr} {m : Nat} (h : Writes w B N a m) (hN : N ≤ w.heap.size) (hb : Below w.heap.size w w') : Writes w' B N a m := by
  rcases h with h | ⟨g, ha, h1, h2, hc⟩
  · exact .inl h
  · refine .inr ⟨g, ha, h1, h2, fun j hj => ⟨?_, ?_⟩⟩
    · obtain ⟨x, hx⟩ := (hc j hj).1
      exact ⟨x, (hb.cell (p := ⟨g, j, none⟩) (Nat.lt_of_lt_of_le h2 hN)).trans hx⟩
    · exact ((bcell hb).2 g j (Nat.lt_of_lt_of_le h2 hN)).trans (hc j hj).2
end Base
end Go.Proofs.YtninglnchengeaaGreatDoor

/-
  A circuit in memory of one's own; a box of cells that may be written.
-/
namespace Go.Proofs.YtninglnchengeaaGreatDoor
open Go.RowKit Base
set_option linter.unusedVariables false
set_option linter.unusedSimpArgs false
namespace Circuit

/-- All seven parts lie in memory from block B on, each its own. -/
structure OwnC (w : World) (B : Nat) (x : Circ) (p : At) : Prop where
  ins : w.ownsRow B 3 1 (.slice p.a1 x.ins.length p.c1) x.ins.length (ints x.ins)
  lats : w.ownsRow B 37 3 (.slice p.a2 x.lats.length p.c2) x.lats.length (tris x.lats).flatten
  outs : w.ownsRow B 3 1 (.slice p.a3 x.outs.length p.c3) x.outs.length (ints x.outs)
  bads : w.ownsRow B 3 1 (.slice p.a4 x.bads.length p.c4) x.bads.length (ints x.bads)
  invs : w.ownsRow B 3 1 (.slice p.a5 x.invs.length p.c5) x.invs.length (ints x.invs)
  ands : w.ownsRow B 62 3 (.slice p.a6 x.ands.length p.c6) x.ands.length (tris x.ands).flatten
  names : w.ownsRow B 92 3 (.slice p.a7 x.names.length p.c7) x.names.length (namesV x.names).flatten

theorem own_sl' {w : World} {B : Nat} {e : TypeId} {a : Option Addr} {n c : Nat} {vs : List Value} (h : w.ownsRow B e 1 (.slice a n c) n vs) : Sl w a n c vs := by
  obtain ⟨a', c', hv, hs⟩ := own_sl h
  simp only [Value.slice.injEq, true_and] at hv
  obtain ⟨rfl, rfl⟩ := hv
  exact hs
theorem own_slT' {w : World} {B : Nat} {e : TypeId} {a : Option Addr} {n c : Nat} {vs : List (List Value)} (hr : ∀ r ∈ vs, r.length = 3) (hn : vs.length = n) (h : w.ownsRow B e 3 (.slice a n c) n vs.flatten) : SlT w 3 a n c vs := by
  obtain ⟨a', c', hv, hs⟩ := own_slT (by decide) hr hn h
  simp only [Value.slice.injEq, true_and] at hv
  obtain ⟨rfl, rfl⟩ := hv
  exact hs

theorem OwnC.inC {w : World} {B : Nat} {x : Circ} {p : At} (h : OwnC w B x p) : InCirc w x p :=
  ⟨own_sl' h.ins, own_slT' (tris_row _) (tris_len _) h.lats, own_sl' h.outs, own_sl' h.bads, own_sl' h.invs, own_slT' (tris_row _) (tris_len _) h.ands, own_slT' (names_row _) (names_len _) h.names⟩
theorem OwnC.next {w w' : World} {B : Nat} {x : Circ} {p : At} (h : OwnC w B x p) (hb : Below w.heap.size w w') : OwnC w' B x p :=
  ⟨own_next h.ins hb, own_next h.lats hb, own_next h.outs hb, own_next h.bads hb, own_next h.invs hb, own_next h.ands hb, own_next h.names hb⟩
theorem OwnC.mono {w : World} {B B' : Nat} {x : Circ} {p : At} (h : OwnC w B x p) (hB : B' ≤ B) : OwnC w B' x p :=
  ⟨own_mono h.ins hB, own_mono h.lats hB, own_mono h.outs hB, own_mono h.bads hB, own_mono h.invs hB, own_mono h.ands hB, own_mono h.names hB⟩
theorem OwnC.holds {w w' : World} {B N : Nat} {x : Circ} {p : At} (h : OwnC w B x p) (hk : Holds N w w') (hN : N ≤ B) : OwnC w' B x p :=
  ⟨hk.own h.ins hN, hk.own h.lats hN, hk.own h.outs hN, hk.own h.bads hN, hk.own h.invs hN, hk.own h.ands hN, hk.own h.names hN⟩

theorem OwnC.set {w : World} {B : Nat} {x : Circ} {p : At} (h : OwnC w B x p) {a : Addr} (ha : a.block < B) (u : Value) : OwnC (w.setCell a u) B x p :=
  ⟨ownsRow_setCell_below h.ins ha u, ownsRow_setCell_below h.lats ha u, ownsRow_setCell_below h.outs ha u, ownsRow_setCell_below h.bads ha u, ownsRow_setCell_below h.invs ha u, ownsRow_setCell_below h.ands ha u, ownsRow_setCell_below h.names ha u⟩

/-- Each part is small enough to be made anew. -/
structure Fits (x : Circ) : Prop where
  ins : x.ins.length * 8 ≤ 140737488355328
  lats : x.lats.length * 24 ≤ 140737488355328
  outs : x.outs.length * 8 ≤ 140737488355328
  bads : x.bads.length * 8 ≤ 140737488355328
  invs : x.invs.length * 8 ≤ 140737488355328
  ands : x.ands.length * 24 ≤ 140737488355328
  names : x.names.length * 40 ≤ 140737488355328

/-- Block N holds these cells, and may be written. -/
structure BoxN (N : Nat) (cs : List Value) (w : World) : Prop where
  lt : N < w.heap.size
  at' : ∀ j u, cs[j]? = some u → w.cell? ⟨N, j, none⟩ = some u
  fz : ∀ j, w.frozen? ⟨N, j, none⟩ = false

theorem BoxN.new (w : World) (cs : Array Value) (t : TypeId) : BoxN w.heap.size cs.toList (w.alloc (.cells cs t)) := by
  refine ⟨by simp, fun j u hu => ?_, fun j => by simp [go_sem]⟩
  simp [go_sem]
  simpa using hu

theorem BoxN.next {N : Nat} {cs : List Value} {w w' : World} (h : BoxN N cs w) {B : Nat} (hb : Below B w w') (hB : N < B) : BoxN N cs w' :=
  ⟨Nat.lt_of_lt_of_le h.lt hb.size, fun j u hu => (hb.cell (p := ⟨N, j, none⟩) hB).trans (h.at' j u hu), fun j => (hb.frozen (p := ⟨N, j, none⟩) hB).trans (h.fz j)⟩

theorem BoxN.holds {N : Nat} {cs : List Value} {w w' : World} (h : BoxN N cs w) {B : Nat} (hb : Holds B w w') (hB : B ≤ N) : BoxN N cs w' := by
  have hblk := hb.block N hB h.lt
  refine ⟨Nat.lt_of_lt_of_le h.lt hb.size, fun j u hu => ?_, fun j => ?_⟩
  · exact (World.cell?_of_block (w := w) (a := ⟨N, j, none⟩) hblk).trans (h.at' j u hu)
  · exact (World.frozen?_of_block (w := w) (a := ⟨N, j, none⟩) hblk).trans (h.fz j)

theorem BoxN.set {N : Nat} {cs : List Value} {w : World} (h : BoxN N cs w) (j : Nat) (u : Value) : BoxN N (cs.set j u) (w.setCell ⟨N, j, none⟩ u) := by
  refine ⟨by simpa [World.setCell] using h.lt, fun i v hv => ?_, fun i => by rw [World.frozen?_setCell]; exact h.fz i⟩
  by_cases hij : j = i
  · subst hij
    obtain ⟨hl, he⟩ := List.getElem?_eq_some_iff.1 hv
    rw [List.length_set] at hl
    have h0 := h.at' j cs[j] (List.getElem?_eq_getElem hl)
    have : v = u := by rw [← he]; simp
    subst this
    exact World.cell?_setCell_same' _ _ _ (by rw [h0]; rfl)
  · rw [List.getElem?_set_ne hij] at hv
    rw [World.cell?_setCell_other _ _ _ _ (by intro e; simp only [Addr.mk.injEq, and_true, true_and] at e; exact hij e)]
    exact h.at' i v hv

theorem BoxN.other {N : Nat} {cs : List Value} {w : World} (h : BoxN N cs w) {a : Addr} (ha : a.block ≠ N) (u : Value) : BoxN N cs (w.setCell a u) := by
  refine ⟨by simpa [World.setCell] using h.lt, fun i v hv => ?_, fun i => by rw [World.frozen?_setCell]; exact h.fz i⟩
  rw [World.cell?_setCell_other _ _ _ _ (by intro e; apply ha; rw [e])]
  exact h.at' i v hv
end Circuit
end Go.Proofs.YtninglnchengeaaGreatDoor

/-
  A map[int]bool of the call's own that says true at just some integers.
-/
namespace Go.Proofs.YtninglnchengeaaGreatDoor
open Go.RowKit Base Go.Maps
set_option linter.unusedVariables false
set_option linter.unusedSimpArgs false
namespace SetI

theorem law : Keyed Tryz.prog 3 := int_keyed Tryz.underlying3
theorem zeroE (w : World) : (zeroValue 4).run Tryz.prog w = .ok (.bool false) w := by kernel_rfl

def I64 (x : Int) : Prop := -9223372036854775808 ≤ x ∧ x ≤ 9223372036854775807

theorem wf_lit {x : Int} (h : I64 x) : (Lit.int .i64 x).wf = true := by
  unfold I64 at h
  simp [Lit.wf, IntKind.min, IntKind.max, IntKind.signed, IntKind.bits]
  omega

/-- Is an integer one of some? -/
def inX (X : List Int) (x : Int) : Bool := X.any fun y => y == x

theorem inX_iff {X : List Int} {x : Int} : inX X x = true ↔ x ∈ X := by
  unfold inX
  rw [List.any_eq_true]
  constructor
  · rintro ⟨y, hy, he⟩
    rw [beq_iff_eq] at he
    rw [← he]
    exact hy
  · intro h
    exact ⟨x, h, by simp⟩

/-- A map of the call's own that says true at just these; its keys are these, each once. -/
def SetIs (w : World) (b n : Nat) (X : List Int) : Prop :=
  ∃ D : DataW Unit, w.ownsMap Tryz.prog 3 (plainElem Tryz.prog 4) b n D ∧ IsMap D ∧ ∀ x, I64 x → D.atKey (.int .i64 x) (.lit (.bool false)) = .lit (.bool (inX X x))

theorem bool_inv {e : TypeId} (he : Tryz.prog.underlying e = some .bool) {v : Value} {z : DataW Unit × List MemPlace} (h : plainElem Tryz.prog e v = some z) : ∃ y, v = .bool y ∧ z = (.lit (.bool y), []) := by
  unfold plainElem at h
  rw [he] at h
  cases v <;> simp at h
  exact ⟨_, rfl, h.symm⟩

theorem set_look {w : World} {b n : Nat} {X : List Int} (h : SetIs w b n X) {x : Int} (hx : I64 x) :
    (Instr.lookup 65 (.map (some b)) (.int .i64 x) false).run Tryz.prog w = .ok (.bool (inX X x)) w := by
  obtain ⟨D, ho, _, hat⟩ := h
  obtain ⟨v, ps, hrun, hv⟩ := ho.lookup law Tryz.underlying65 (zeroE w) (plainElem_bool Tryz.underlying4 false) (keyOf_int_mk Tryz.underlying3 (wf_lit hx))
  obtain ⟨y, rfl, hz⟩ := bool_inv Tryz.underlying4 hv
  simp only [Prod.mk.injEq] at hz
  have := hz.1.symm.trans (hat x hx)
  simp only [DataW.lit.injEq, Lit.bool.injEq] at this
  rw [hrun, this]

theorem SetIs.next {w w' : World} {b n : Nat} {X : List Int} (h : SetIs w b n X) (hb : Below w.heap.size w w') : SetIs w' b n X := by
  obtain ⟨D, ⟨es, cl, hh, r⟩, hm, hat⟩ := h
  exact ⟨D, ⟨es, cl, (hb.block b (Array.getElem?_eq_some_iff.1 hh).1).trans hh, r⟩, hm, hat⟩

theorem set_made (w : World) : SetIs (w.alloc (.map #[] 0)) w.heap.size 0 [] :=
  ⟨.map [], World.ownsMap_made _ _ _ _, ⟨_, rfl⟩, fun x _ => by simp [DataW.atKey, inX]⟩

theorem set_put {D : DataW Unit} {X : List Int} (hm : IsMap D) (hat : ∀ x, I64 x → D.atKey (.int .i64 x) (.lit (.bool false)) = .lit (.bool (inX X x))) (y : Int) :
    IsMap (D.put (.int .i64 y) (.lit (.bool true))) ∧ ∀ x, I64 x → (D.put (.int .i64 y) (.lit (.bool true))).atKey (.int .i64 x) (.lit (.bool false)) = .lit (.bool (inX (X ++ [y]) x)) := by
  refine ⟨hm.put _ _, fun x hx => ?_⟩
  unfold inX
  rw [List.any_append]
  by_cases hxy : x = y
  · subst hxy
    rw [atKey_put_same hm (by trivial)]
    simp
  · rw [atKey_put_other (by intro e; simp at e; exact hxy e), hat x hx]
    have : (y == x) = false := by simp; exact fun e => hxy e.symm
    simp [inX, this]

/-- The keys of a map are these. -/
def KeysAre (D : DataW Unit) (X : List Int) : Prop := ∃ es : List (Lit × DataW Unit), D = .map es ∧ (∀ p ∈ es, ∃ x, p.1 = .int .i64 x) ∧ (Go.intKeys D).Perm X

theorem insert_perm (x : Lit × DataW Unit) (l : List (Lit × DataW Unit)) : (DataW.insert x l).Perm (x :: l) := by
  induction l with
  | nil => exact List.Perm.refl _
  | cons y r ih =>
    unfold DataW.insert
    split
    · exact List.Perm.refl _
    · exact (List.Perm.cons y ih).trans (List.Perm.swap x y r)

theorem keys_nil : KeysAre (.map []) [] := ⟨[], rfl, fun p h => by simp at h, List.Perm.refl _⟩

theorem keys_put {D : DataW Unit} {X : List Int} (h : KeysAre D X) {y : Int} (hy : y ∉ X) (d : DataW Unit) : KeysAre (D.put (.int .i64 y) d) (X ++ [y]) := by
  obtain ⟨es, rfl, hk, hp⟩ := h
  have hf : es.filter (fun p => !p.1.sameKey (.int .i64 y)) = es := by
    rw [List.filter_eq_self]
    intro p hpm
    obtain ⟨x, hx⟩ := hk p hpm
    rw [hx]
    have hne : x ≠ y := fun e => by
      apply hy
      rw [← e]
      apply hp.subset
      unfold Go.intKeys
      exact List.mem_map.2 ⟨p, hpm, by rw [hx]; rfl⟩
    simp [Lit.sameKey, hne]
  unfold DataW.put
  simp only [hf]
  refine ⟨_, rfl, fun p hpm => ?_, ?_⟩
  · have := (insert_perm _ _).subset hpm
    rw [List.mem_cons] at this
    rcases this with rfl | hm
    · exact ⟨y, rfl⟩
    · exact hk p hm
  · unfold Go.intKeys at *
    refine ((insert_perm (.int .i64 y, d) es).map _).trans ?_
    rw [List.map_cons]
    exact (List.Perm.cons _ hp).trans (List.perm_append_comm (l₁ := [y]) (l₂ := X))

end SetI
end Go.Proofs.YtninglnchengeaaGreatDoor

/-
  What stays when one block is written.
-/
namespace Go.Proofs.YtninglnchengeaaGreatDoor
open Go.RowKit Base Go.Maps
set_option linter.unusedVariables false
set_option linter.unusedSimpArgs false
namespace StrashP
open Circuit

/-- w2 is as w, but for one block. -/
structure OffB (b : Nat) (w w2 : World) : Prop where
  os : w2.os = w.os
  tape : w2.tape = w.tape
  output : w2.output = w.output
  size : w.heap.size ≤ w2.heap.size
  block : ∀ k, k < w.heap.size → k ≠ b → w2.heap[k]? = w.heap[k]?

theorem OffB.refl (b : Nat) (w : World) : OffB b w w := ⟨rfl, rfl, rfl, Nat.le_refl _, fun _ _ _ => rfl⟩
theorem OffB.trans {b : Nat} {w1 w2 w3 : World} (h : OffB b w1 w2) (h2 : OffB b w2 w3) : OffB b w1 w3 :=
  ⟨h2.os.trans h.os, h2.tape.trans h.tape, h2.output.trans h.output, Nat.le_trans h.size h2.size, fun k hk hne => (h2.block k (Nat.lt_of_lt_of_le hk h.size) hne).trans (h.block k hk hne)⟩
theorem OffB.below {b : Nat} {w w2 w3 : World} (h : OffB b w w2) (hb : Below w2.heap.size w2 w3) : OffB b w w3 :=
  ⟨hb.os.trans h.os, hb.tape.trans h.tape, hb.output.trans h.output, Nat.le_trans h.size hb.size, fun k hk hne => (hb.block k (Nat.lt_of_lt_of_le hk h.size)).trans (h.block k hk hne)⟩
theorem OffB.set {b : Nat} {w w2 : World} (h : OffB b w w2) (j : Nat) (u : Value) : OffB b w (w2.setCell ⟨b, j, none⟩ u) :=
  ⟨h.os, h.tape, h.output, by simpa [World.setCell] using h.size, fun k hk hne => (Below.heap_setCell w2 ⟨b, j, none⟩ u k hne).trans (h.block k hk hne)⟩
theorem OffB.grown {b : Nat} {w w2 w3 : World} (h : OffB b w w2) {row : Option Nat} (hg : w2.grownBy w3 row) (hr : ∀ k, row = some k → w.heap.size ≤ k) : OffB b w w3 :=
  ⟨hg.os.trans h.os, hg.tape.trans h.tape, hg.output.trans h.output, Nat.le_trans h.size hg.size, fun k hk hne => (hg.block k (Nat.lt_of_lt_of_le hk h.size) (fun e => by have := hr k e.symm; omega)).trans (h.block k hk hne)⟩
theorem OffB.put {b : Nat} {w w2 w3 : World} (h : OffB b w w2) (hg : w2.grownBy w3 (some b)) : OffB b w w3 :=
  ⟨hg.os.trans h.os, hg.tape.trans h.tape, hg.output.trans h.output, Nat.le_trans h.size hg.size, fun k hk hne => (hg.block k (Nat.lt_of_lt_of_le hk h.size) (by simpa using hne)).trans (h.block k hk hne)⟩
theorem OffB.own {b : Nat} {w w2 : World} (h : OffB b w w2) {B : Nat} {e : TypeId} {size : Nat} {v : Value} {n : Nat} {vs : List Value} (ho : w.ownsRow B e size v n vs) (hne : v.ownBlock ≠ some b) : w2.ownsRow B e size v n vs := by
  refine ⟨ho.1, ?_⟩
  rcases ho.2 with hn | ⟨g, cap, cur, hv, hb, hh, r⟩
  · exact .inl hn
  · refine .inr ⟨g, cap, cur, hv, hb, ?_, r⟩
    rw [h.block g (Array.getElem?_eq_some_iff.1 hh).1 (by rintro rfl; exact hne (by rw [hv]; rfl))]
    exact hh
theorem OffB.base {b : Nat} {w w2 : World} (h : OffB b w w2) {B : Nat} {w0 : World} (h0 : Below B w0 w) (hB : B ≤ w.heap.size) (hb : B ≤ b) : Below B w0 w2 :=
  ⟨h.os.trans h0.os, h.tape.trans h0.tape, h.output.trans h0.output, Nat.le_trans h0.size h.size, fun k hk => (h.block k (by omega) (by omega)).trans (h0.block k hk)⟩
theorem OffB.box {b : Nat} {w w2 : World} (h : OffB b w w2) {N : Nat} {cs : List Value} (hx : BoxN N cs w) (hne : N ≠ b) : BoxN N cs w2 := by
  have hblk := h.block N hx.lt hne
  refine ⟨Nat.lt_of_lt_of_le hx.lt h.size, fun j u hu => ?_, fun j => ?_⟩
  · exact (World.cell?_of_block (w := w) (a := ⟨N, j, none⟩) hblk).trans (hx.at' j u hu)
  · exact (World.frozen?_of_block (w := w) (a := ⟨N, j, none⟩) hblk).trans (hx.fz j)
theorem OffB.seti {b : Nat} {w w2 : World} (h : OffB b w w2) {m n : Nat} {X : List Int} (hx : SetI.SetIs w m n X) (hne : m ≠ b) : SetI.SetIs w2 m n X := by
  obtain ⟨D, ⟨es, cl, hh, r⟩, hm, hat⟩ := hx
  exact ⟨D, ⟨es, cl, (h.block m (Array.getElem?_eq_some_iff.1 hh).1 hne).trans hh, r⟩, hm, hat⟩
theorem own_not {w : World} {B : Nat} {e : TypeId} {size : Nat} {v : Value} {n : Nat} {vs : List Value} (h : w.ownsRow B e size v n vs) {N : Nat} (hN : w.heap.size ≤ N) : v.ownBlock ≠ some N := by
  intro e
  have := (h.lt N e).2
  omega
theorem own_not' {w : World} {B : Nat} {e : TypeId} {size : Nat} {v : Value} {n : Nat} {vs : List Value} (h : w.ownsRow B e size v n vs) {N : Nat} (hN : N < B) : v.ownBlock ≠ some N := by
  intro e
  have := (h.lt N e).1
  omega

end StrashP
end Go.Proofs.YtninglnchengeaaGreatDoor

/-
  coi's spread, zeros, latchLits, beyond; slices.Index, told whole.
-/
namespace Go.Proofs.YtninglnchengeaaGreatDoor
open Go.RowKit Base
set_option linter.unusedVariables false
set_option linter.unusedSimpArgs false
namespace Spr
open Circuit StrashP

set_option maxHeartbeats 1000000 in
theorem index2_any (w : World) (a : Option Addr) (n c : Nat) (xs : List Int) (hsl : Sl w a n c (ints xs)) (x : Int) :
    Calls Tryz.prog 49 #[.slice a n c, .int .i64 x] w fun e w' => (∃ i : Int, e = .returned (.int .i64 i) ∧ ((∃ k : Nat, i = k ∧ xs[k]? = some x) ∨ (i = -1 ∧ x ∉ xs))) ∧ w = w' := by
  have HL : Hid (xs.length = n) := by have := hsl.len; rwa [ints_len] at this
  have hcap := hsl.cap
  have hbig := hsl.big
  have HSL := Lib.hid hsl
  clear hsl
  go_enter Tryz.func49, Tryz.ntmps49
  go_wp2
  go_loop [4, 8] (fun _ i => ∃ k : Nat, k ≤ n ∧ i = .int .i64 k ∧ Hid (decide (x ∈ xs.take k) = false)) (fun _ i => n - (Go.RowKit.intOf i).toNat)
  case atStart => exact ⟨0, Nat.zero_le _, rfl, by show _ = _; simp⟩
  case round =>
    obtain ⟨k, hk, rfl, hI⟩ := hrel
    by_cases hlt : k < n
    · obtain ⟨b, o, hx, rfl, hbs, hc⟩ := HSL.out.int hlt
      generalize hp : xs[k] = p at *
      have HP := Lib.hid hp
      clear hp
      by_cases hq : x = p
      · have v0 : (x == p) = true := by simp [hq]
        have HF : Hid (xs[k]? = some x) := by
          show _ = _
          rw [List.getElem?_eq_getElem hx, hq, ← HP.out]
        clear hq
        go_wp2
        go_ret
        exact ⟨⟨_, rfl, Or.inl ⟨k, rfl, HF.out⟩⟩, rfl⟩
      · have v0 : (x == p) = false := by simp [hq]
        have HF : Hid (decide (x ∈ xs.take (k + 1)) = false) := Cont.idx_take hx hI.out (by rw [HP.out]; exact fun e => hq e.symm)
        clear hq
        go_wp2
        go_round
        case rel => exact ⟨k + 1, by omega, by go_num, HF⟩
        case measure => simp [Go.RowKit.intOf]; omega
    · have HF : Hid (decide (x ∈ xs) = false) := by
        show _ = _
        have h := hI.out
        rwa [List.take_of_length_le (by have := HL.out; omega)] at h
      go_wp2
      go_ret
      exact ⟨⟨_, rfl, Or.inr ⟨rfl, of_decide_eq_false HF.out⟩⟩, rfl⟩

def bytesL (R : List UInt8) : List Value := R.map fun b => .int .u8 (b.toNat : Int)
theorem bytesL_get {R : List UInt8} {j : Nat} {b : UInt8} (h : R[j]? = some b) : (bytesL R)[j]? = some (.int .u8 (b.toNat : Int)) := by unfold bytesL; rw [List.getElem?_map, h]; rfl
theorem bytesL_set (R : List UInt8) (j : Nat) (b : UInt8) : (bytesL R).set j (.int .u8 (b.toNat : Int)) = bytesL (R.set j b) := by unfold bytesL; rw [List.map_set]
/-- The bits of some literals, among others. -/
structure Among (dst src : List Int) (bits rest R : List UInt8) (k : Nat) : Prop where
  len : R.length = rest.length
  at' : ∀ (i : Nat) (l : Int), i < k → dst[i]? = some l → (∃ j : Nat, src[j]? = some l ∧ R[i]? = bits[j]?) ∨ (l ∉ src ∧ R[i]? = rest[i]?)
  old : ∀ i : Nat, k ≤ i → R[i]? = rest[i]?
theorem among_start (dst src : List Int) (bits rest : List UInt8) : Among dst src bits rest rest 0 := ⟨rfl, fun i l h => by omega, fun _ _ => rfl⟩
theorem among_no {dst src : List Int} {bits rest R : List UInt8} {k : Nat} (h : Among dst src bits rest R k) {x : Int} (hx : dst[k]? = some x) (hn : x ∉ src) : Among dst src bits rest R (k + 1) :=
  ⟨h.len, fun i l hi hl => by
    by_cases e : i = k
    · subst e
      rw [hx] at hl
      cases hl
      exact Or.inr ⟨hn, h.old i (Nat.le_refl _)⟩
    · exact h.at' i l (by omega) hl, fun i hi => h.old i (by omega)⟩
theorem among_yes {dst src : List Int} {bits rest R : List UInt8} {k : Nat} (h : Among dst src bits rest R k) (hk : k < rest.length) {x : Int} (hx : dst[k]? = some x) {j : Nat} (hj : src[j]? = some x) {b : UInt8} (hb : bits[j]? = some b) : Among dst src bits rest (R.set k b) (k + 1) := by
  have get : ∀ i : Nat, (R.set k b)[i]? = if k = i then some b else R[i]? := fun i => by
    rw [List.getElem?_set]
    by_cases e : k = i
    · rw [if_pos e, if_pos e, if_pos (by rw [h.len]; omega)]
    · rw [if_neg e, if_neg e]
  refine ⟨by rw [List.length_set]; exact h.len, fun i l hi hl => ?_, fun i hi => ?_⟩
  · rw [get]
    by_cases e : k = i
    · subst e
      rw [hx] at hl
      cases hl
      exact Or.inl ⟨j, hj, by rw [if_pos rfl, hb]⟩
    · rw [if_neg e]
      exact h.at' i l (by omega) hl
  · rw [get, if_neg (by omega)]
    exact h.old i (by omega)

set_option maxRecDepth 8000 in
set_option maxHeartbeats 4000000 in
theorem spread_any (w : World) (a1 : Option Addr) (c1 : Nat) (dst : List Int) (h1 : Sl w a1 dst.length c1 (ints dst)) (a2 : Option Addr) (c2 : Nat) (src : List Int) (h2 : Sl w a2 src.length c2 (ints src)) (bits : ByteArray) (hb : bits.size = src.length)
    (g : Nat) (rest : List UInt8) (hg : BoxN g (bytesL rest) w) (hr : rest.length = dst.length) (hn1 : ∀ b o, a1 = some ⟨b, o, none⟩ → dst ≠ [] → b ≠ g) (hn2 : ∀ b o, a2 = some ⟨b, o, none⟩ → src ≠ [] → b ≠ g) (hbig : dst.length ≤ 1000000) :
    Calls Tryz.prog 18 #[.slice a1 dst.length c1, .slice a2 src.length c2, .string bits, .slice (some ⟨g, 0, none⟩) dst.length dst.length] w fun e w' => ∃ R, e = .returned (.string ⟨R.toArray⟩) ∧ Among dst src bits.data.toList rest R dst.length ∧ OffB g w w' := by
  have HG := Lib.hid hg
  have HR : Hid (rest.length = dst.length) := hr
  have HB : Hid (bits.data.toList.length = src.length) := by show _ = _; rw [Array.length_toList]; exact hb
  have hbs : bits.size = src.length := hb
  have HS1 := Lib.hid (fun (U : World) (hU : OffB g w U) => (⟨h1.len, h1.cap, h1.big, h1.bare, fun k v hv => by
    obtain ⟨b, o, ha, hs, hc⟩ := h1.cell k v hv
    exact ⟨b, o, ha, Nat.lt_of_lt_of_le hs hU.size, (World.cell?_of_block (w := w) (a := ⟨b, o + k, none⟩) (hU.block b hs (hn1 b o ha (fun e => by rw [e] at hv; simp [ints] at hv)))).trans hc⟩⟩ : Sl U a1 dst.length c1 (ints dst)))
  have HS2 := Lib.hid (fun (U : World) (hU : OffB g w U) => (⟨h2.len, h2.cap, h2.big, h2.bare, fun k v hv => by
    obtain ⟨b, o, ha, hs, hc⟩ := h2.cell k v hv
    exact ⟨b, o, ha, Nat.lt_of_lt_of_le hs hU.size, (World.cell?_of_block (w := w) (a := ⟨b, o + k, none⟩) (hU.block b hs (hn2 b o ha (fun e => by rw [e] at hv; simp [ints] at hv)))).trans hc⟩⟩ : Sl U a2 src.length c2 (ints src)))
  have hcap1 := h1.cap
  have hbig1 := h1.big
  generalize hT : dst.length = n at *
  have HTN := Lib.hid hT
  clear h1 h2 hg hr hn1 hn2 hb hT
  go_enter Tryz.func18, Tryz.ntmps18
  go_wp2_with fail
  go_loopw [14] (fun i wr => ∃ (k : Nat) (R : List UInt8), k ≤ n ∧ i = .int .i64 k ∧ Hid (Among dst src bits.data.toList rest R k) ∧ Hid (BoxN g (bytesL R) wr) ∧ Hid (OffB g w wr)) (fun i _ => n - (Go.RowKit.intOf i).toNat)
  case atStart => exact ⟨0, rest, Nat.zero_le _, rfl, among_start _ _ _ _, HG.out, OffB.refl _ _⟩
  case round =>
    obtain ⟨k, R, hk, rfl, hA, hX, hO⟩ := hrel
    by_cases hlt : k < n
    · obtain ⟨b, o, hx, rfl, hbb, d0⟩ := (HS1.out wr hO.out).int hlt
      have HX0 : Hid (dst[k]? = some dst[k]) := List.getElem?_eq_getElem hx
      generalize dst[k] = x at *
      have HIX := Lib.hid (index2_any wr a2 src.length c2 src (HS2.out wr hO.out) x)
      go_wp2_with fail
      with_reducible refine HIX.out.mono ?_
      rintro e w2 ⟨⟨i, rfl, hcase⟩, rfl⟩
      rcases hcase with ⟨j, rfl, hj⟩ | ⟨rfl, hnot⟩
      · have hjl : j < src.length := (List.getElem?_eq_some_iff.1 hj).1
        have hjb : j < bits.size := by omega
        have hjbI : (j : Int) < (bits.size : Int) := by omega
        have hjn : decide ((0 : Int) ≤ (j : Int)) = true := decide_eq_true (by omega)
        have HBJ : Hid (bits.data.toList[j]? = some bits[j]) := List.getElem?_eq_getElem (by rw [Array.length_toList]; exact hjb)
        have hkr : k < rest.length := by rw [HR.out]; exact hlt
        have HA2 := Lib.hid (among_yes hA.out hkr HX0.out hj HBJ.out)
        obtain ⟨v0, hv0⟩ : ∃ v, R[k]? = some v := ⟨_, List.getElem?_eq_getElem (by rw [hA.out.len]; exact hkr)⟩
        have e0 := hX.out.at' k _ (bytesL_get hv0)
        have z0 := hX.out.fz k
        have HX2 : Hid (BoxN g (bytesL (R.set k bits[j])) (wr.setCell ⟨g, k, none⟩ (.int .u8 (bits[j].toNat : Int)))) := by
          have h := hX.out.set k (.int .u8 (bits[j].toNat : Int))
          rw [bytesL_set] at h
          exact h
        have HO2 := Lib.hid (hO.out.set k (.int .u8 (bits[j].toNat : Int)))
        clear hj hkr hv0 hjl
        go_wp2_with fail
        go_roundw
        case rel => exact ⟨k + 1, R.set k bits[j], by omega, by go_num, HA2.out, HX2.out, HO2.out⟩
        case measure => simp [Go.RowKit.intOf]; omega
      · have HA2 := Lib.hid (among_no hA.out HX0.out hnot)
        clear hnot
        go_wp2_with fail
        go_roundw
        case rel => exact ⟨k + 1, R, by omega, by go_num, HA2.out, hX.out, hO.out⟩
        case measure => simp [Go.RowKit.intOf]; omega
    · have HE : Hid (Among dst src bits.data.toList rest R n) := by
        have e : k = n := by omega
        rw [← e]; exact hA.out
      have HRL : Hid (R.length = n) := by show _ = _; rw [hA.out.len, HR.out]
      have HCV : ∀ (l : Nat), l = n → (convert 49 9 (.slice (some ⟨g, 0, none⟩) l l)).run Tryz.prog wr = .ok (.string ⟨R.toArray⟩) wr := by
        rintro l rfl
        have h := run_convert_bytes_back (P := Tryz.prog) wr 49 9 5 ⟨g, 0, none⟩ l R Tryz.underlying49 Tryz.underlying5 Tryz.underlying9 (fun j hj => by
          rw [Addr.add_lit, Nat.zero_add]
          exact hX.out.at' j _ (bytesL_get (List.getElem?_eq_getElem hj)))
        rw [HRL.out] at h
        exact h
      have hcv := HCV n rfl
      clear HCV
      go_wp2_with fail
      go_ret
      exact ⟨R, rfl, HE.out, hO.out⟩

theorem zero_box {w : World} {B g n : Nat} {e : TypeId} {vs : List Value} (h : w.ownsRow B e 1 (.slice (some ⟨g, 0, none⟩) n n) n vs) : BoxN g vs w := by
  have hs := own_sl' h
  obtain ⟨_, h2⟩ := h
  rcases h2 with ⟨h3, _⟩ | ⟨g', cap, cur, hv, _, hh, _, _, hcur, ht⟩
  · cases h3
  · simp only [Value.slice.injEq, Option.some.injEq, Addr.mk.injEq] at hv
    obtain ⟨⟨rfl, _⟩, _, rfl⟩ := hv
    refine ⟨(Array.getElem?_eq_some_iff.1 hh).1, fun j u hu => ?_, fun j => by simp [World.frozen?, hh]⟩
    obtain ⟨b, o, ha, hb, hc⟩ := hs.cell j u hu
    simp only [Option.some.injEq, Addr.mk.injEq, and_true] at ha
    obtain ⟨rfl, rfl⟩ := ha
    rw [Nat.zero_add] at hc
    exact hc
set_option maxHeartbeats 1000000 in
theorem zeros_any (w : World) (n : Nat) (hn : n ≤ 1000000) :
    Calls Tryz.prog 17 #[.int .i64 n] w fun e w' => ∃ g, e = .returned (.slice (some ⟨g, 0, none⟩) n n) ∧ BoxN g (bytesL (List.replicate n 48)) w' ∧ w.heap.size ≤ g ∧ Below w.heap.size w w' := by
  obtain ⟨W1, hW1⟩ : ∃ U, w.alloc (.cells #[.int .u8 48] 5) = U := ⟨_, rfl⟩
  have hb1 : Below w.heap.size w W1 := by rw [← hW1]; exact (Below.refl _ _).alloc (Nat.le_refl _) _
  have hs1 : Sl W1 (some ⟨w.heap.size, 0, none⟩) 1 1 [.int .u8 48] := by rw [← hW1]; exact sl_new w #[.int .u8 48] 5 1 rfl (by decide)
  have HRP := Lib.hid (Repeat.repeat_any W1 w.heap.size 0 1 hs1 n hn)
  have HB1 := Lib.hid hb1
  clear hb1 hs1
  go_enter Tryz.func17, Tryz.ntmps17
  go_wp2_with fail
  clear hW1
  with_reducible refine HRP.out.mono ?_
  rintro e w2 ⟨g, rfl, ho, hb2⟩
  have HO := Lib.hid ho
  have HGE : Hid (w.heap.size ≤ g) := Nat.le_trans HB1.out.size (ho.lt g rfl).1
  have HB2 := Lib.hid (HB1.out.trans (hb2.mono HB1.out.size))
  clear ho hb2
  go_wp2_with fail
  go_ret
  refine ⟨g, rfl, ?_, HGE.out, HB2.out⟩
  have h := zero_box HO.out
  have e : bytesL (List.replicate n 48) = List.replicate n (.int .u8 48) := by unfold bytesL; rw [List.map_replicate]; rfl
  rw [e]; exact h

theorem info_iS : (Tryz.prog.info? 3).map (fun i => (i.zero, i.size, i.bytes)) = some (some (.int .i64 0), 1, 8) := by kernel_rfl
set_option maxRecDepth 8000 in
set_option maxHeartbeats 4000000 in
theorem latchLits_any (w : World) (x : Circ) (p : At) (hin : InCirc w x p) (hbig : x.lats.length ≤ 1000000) :
    Calls Tryz.prog 19 #[.agg (cells x p)] w fun e w' => ∃ a c, e = .returned (.slice a x.lats.length c) ∧ w'.ownsRow w.heap.size 3 1 (.slice a x.lats.length c) x.lats.length (ints (x.lats.map (·.1))) ∧ Below w.heap.size w w' := by
  obtain ⟨W1, hW1⟩ : ∃ U, w.alloc (.cells (cells x p) 27) = U := ⟨_, rfl⟩
  obtain ⟨hb1, hx1⟩ := cbox_new w x p W1 hW1
  have HB1 := Lib.hid hb1
  have HL := Lib.hid (hin.next hb1).lats
  have hcap := hin.lats.cap
  have hbg := hin.lats.big
  have k2 := hx1.k2
  obtain ⟨a1, c1, a2, c2, a3, c3, a4, c4, a5, c5, a6, c6, a7, c7⟩ := p
  simp only [cells] at *
  clear hin hb1 hx1
  generalize hN : x.lats.length = n at *
  have HN := Lib.hid hN
  clear hN
  go_enter Tryz.func19, Tryz.ntmps19
  go_wp2_with fail
  clear hW1 k2
  go_loopw [3, 9] (fun s i wr => ∃ (k : Nat) (a : Option Addr) (c : Nat), k ≤ n ∧ i = .int .i64 k ∧ s = .slice a k c ∧ Hid (wr.ownsRow W1.heap.size 3 1 (.slice a k c) k (ints ((x.lats.take k).map (·.1)))) ∧ Hid (Below W1.heap.size W1 wr)) (fun _ i _ => n - (Go.RowKit.intOf i).toNat)
  case atStart => exact ⟨0, none, 0, Nat.zero_le _, rfl, rfl, World.ownsRow_nil _ _ _ _, Below.refl _ _⟩
  case round =>
    obtain ⟨k, a, c, hk, rfl, rfl, hO, hB⟩ := hrel
    by_cases hlt : k < n
    · obtain ⟨b, o, hx, hae, hbs, d0, d1, d2⟩ := (HL.out.next hB.out).tri hlt
      try simp only at hae
      subst hae
      have HNX : Hid (ints ((x.lats.take (k + 1)).map (·.1)) = ints ((x.lats.take k).map (·.1)) ++ [.int .i64 x.lats[k].1]) := by
        show _ = _
        rw [List.take_succ_eq_append_getElem hx, List.map_append]
        unfold ints
        rw [List.map_append]; rfl
      generalize x.lats[k] = t at *
      obtain ⟨W2, hW2⟩ : ∃ U, wr.alloc (.cells #[.int .i64 t.1, .int .i64 t.2.1, .int .i64 t.2.2] 37) = U := ⟨_, rfl⟩
      have hb2 : Below wr.heap.size wr W2 := by rw [← hW2]; exact (Below.refl _ _).alloc (Nat.le_refl _) _
      have hown := own_next hO.out hb2
      have hbb := hB.out.trans (hb2.mono hB.out.size)
      have hsz := hbb.size
      have y0 : W2.cell? ⟨wr.heap.size, 0, none⟩ = some (.int .i64 t.1) := by rw [← hW2]; simp [go_sem]
      have HW2 := Lib.hid hW2
      clear hb2 hW2
      go_upto_region 5 with fail
      try rw [HW2.out]
      go_wp2_with ((with_reducible refine wpL_push (B := W1.heap.size) _ (.int .i64 t.1) _ k (ints ((x.lats.take k).map (·.1))) info_iS Tryz.underlying22 ?_ ?_ ?_ ?_ ?_ hown ?_ ?_ ?_ hbb ?_); rfl; rfl; rfl; rfl; rfl; (exact hsz); omega; omega; (intro a5 c5 w5 hown5 hb5 hs5))
      have HO5 : Hid (w5.ownsRow W1.heap.size 3 1 (.slice a5 (k + 1) c5) (k + 1) (ints ((x.lats.take (k + 1)).map (·.1)))) := by show World.ownsRow _ _ _ _ _ _ _; rw [HNX.out]; exact hown5
      have HB5 := Lib.hid hb5
      clear hown hbb hsz hown5 hb5 hs5 y0
      go_roundw
      case rel => exact ⟨k + 1, a5, c5, by omega, by go_num, rfl, HO5.out, HB5.out⟩
      case measure => simp [Go.RowKit.intOf]; omega
    · have e : k = n := by omega
      subst e
      have HE : Hid (x.lats.take k = x.lats) := List.take_of_length_le (by have := HN.out; omega)
      rw [HE.out] at hO
      go_wp2_with fail
      go_ret
      exact ⟨a, c, rfl, own_mono hO.out HB1.out.size, HB1.out.trans (hB.out.mono HB1.out.size)⟩

theorem eg_bey : SlfI.Enters 78 := enters_of Tryz.func78 (by kernel_rfl) rfl
set_option maxHeartbeats 1000000 in
theorem bey1_any (w : World) (N : Nat) (a : Option Addr) (n c : Nat) (some_ : List Int) (hc : w.cell? ⟨N, 0, none⟩ = some (.slice a n c)) (hs : Sl w a n c (ints some_)) (x : Int) :
    Calls Tryz.prog 78 #[.int .i64 x, .pointer (some ⟨N, 0, none⟩)] w fun e w' => e = .returned (.bool (!decide (x ∈ some_))) ∧ Below w.heap.size w w' := by
  have HC := Lib.hid (Cont.contains_any w a n c some_ hs x)
  clear hs
  generalize decide (x ∈ some_) = q at *
  go_enter Tryz.func78, Tryz.ntmps78
  go_wp2_with fail
  with_reducible refine HC.out.mono ?_
  rintro e w1 ⟨rfl, rfl⟩
  go_wp2_with fail
  go_ret
  exact ⟨rfl, Below.refl _ _⟩
def beyondB (l some_ : List Int) : Bool := l.any fun x => !decide (x ∈ some_)
set_option maxHeartbeats 1000000 in
theorem beyond_any (w : World) (a1 : Option Addr) (n1 c1 : Nat) (l : List Int) (h1 : Sl w a1 n1 c1 (ints l)) (a2 : Option Addr) (n2 c2 : Nat) (some_ : List Int) (h2 : Sl w a2 n2 c2 (ints some_)) :
    Calls Tryz.prog 44 #[.slice a1 n1 c1, .slice a2 n2 c2] w fun e w' => e = .returned (.bool (beyondB l some_)) ∧ Below w.heap.size w w' := by
  obtain ⟨W1, hW1⟩ : ∃ U, w.alloc (.cells #[.slice a2 n2 c2] 22) = U := ⟨_, rfl⟩
  have hb1 : Below w.heap.size w W1 := by rw [← hW1]; exact (Below.refl _ _).alloc (Nat.le_refl _) _
  have hz : w.heap.size < W1.heap.size := by rw [← hW1]; simp
  have k0 : W1.cell? ⟨w.heap.size, 0, none⟩ = some (.slice a2 n2 c2) := by rw [← hW1]; simp [go_sem]
  have hl : (ints l).length = n1 := h1.len
  have HCF := SlfI.containsFunc W1 a1 n1 c1 (ints l) 78 #[] #[.pointer (some ⟨w.heap.size, 0, none⟩)] (l.map fun x => !decide (x ∈ some_)) (h1.next hb1) (by rw [List.length_map]; rw [ints_len] at hl; exact hl) eg_bey (by
    intro V hV j y q hy hq
    unfold ints at hy
    rw [List.getElem?_map, Option.map_eq_some_iff] at hy hq
    obtain ⟨v, hv, rfl⟩ := hy
    obtain ⟨v2, hv2, rfl⟩ := hq
    rw [hv] at hv2
    cases hv2
    exact bey1_any V w.heap.size a2 n2 c2 some_ ((hV.cell (p := ⟨w.heap.size, 0, none⟩) hz).trans k0) ((h2.next hb1).next hV) v)
  have e : (l.map fun x => !decide (x ∈ some_)).any id = beyondB l some_ := by unfold beyondB; rw [List.any_map]; rfl
  rw [e] at HCF
  have HC := Lib.hid HCF
  have HB1 := Lib.hid hb1
  clear HCF hb1 k0 h1 h2 hl e
  go_enter Tryz.func44, Tryz.ntmps44
  go_wp2_with fail
  clear hW1
  with_reducible refine HC.out.mono ?_
  rintro e w2 ⟨rfl, hb2⟩
  have HB2 := Lib.hid (HB1.out.trans (hb2.mono HB1.out.size))
  clear hb2
  go_wp2_with fail
  go_ret
  exact ⟨rfl, HB2.out⟩
end Spr
end Go.Proofs.YtninglnchengeaaGreatDoor

/-
  slices.IndexFunc and slices.ContainsFunc of []string, whatever predicate is handed over: ps says of each element what the predicate gives.
-/
namespace Go.Proofs.YtninglnchengeaaGreatDoor
open Go.RowKit Base
set_option linter.unusedVariables false
namespace SlfS

/-- A function value gives ps of the elements, and turns nothing that is there. -/
def Gives (w : World) (g : FuncId) (fs lb : Array Value) (vs : List Value) (ps : List Bool) : Prop :=
  ∀ W, Below w.heap.size w W → ∀ (k : Nat) (v : Value) (b : Bool), vs[k]? = some v → ps[k]? = some b → Calls Tryz.prog g (fs.push v ++ lb) W fun e w' => e = .returned (.bool b) ∧ Below W.heap.size W w'

def Enters (g : FuncId) : Prop := ∀ args w, (callFunc g args).run Tryz.prog w = .ok (.enter g args) w

theorem idx_hit (ps : List Bool) (k : Nat) (h : ps[k]? = some true) : idx id (ps.drop k) k = k := by
  obtain ⟨hk, e⟩ := List.getElem?_eq_some_iff.1 h
  rw [List.drop_eq_getElem_cons hk]; unfold idx; rw [e]; rfl
theorem idx_miss (ps : List Bool) (k : Nat) (h : ps[k]? = some false) : idx id (ps.drop k) k = idx id (ps.drop (k + 1)) (k + 1) := by
  obtain ⟨hk, e⟩ := List.getElem?_eq_some_iff.1 h
  rw [List.drop_eq_getElem_cons hk]
  show (if id ps[k] = true then _ else _) = _
  rw [e]; rfl

set_option maxHeartbeats 1000000 in
theorem indexFunc (w : World) (a : Option Addr) (n c : Nat) (vs : List Value) (g : FuncId) (fs lb : Array Value) (ps : List Bool)
    (hs : Sl w a n c vs) (hps : ps.length = n) (eg : Enters g) (hg : Gives w g fs lb vs ps) :
    Calls Tryz.prog 81 #[.slice a n c, .func (.func g) fs lb] w fun e w' => e = .returned (.int .i64 (idx id ps 0)) ∧ Below w.heap.size w w' := by
  have hcap := hs.cap
  have hbig := hs.big
  have HPS := Lib.hid hps
  have HG := Lib.hid hg
  clear hg hps
  unfold Enters at eg
  go_enter Tryz.func81, Tryz.ntmps81
  go_wp2
  go_loopw [5, 8] (fun _ i wr => ∃ k : Nat, k ≤ n ∧ i = .int .i64 k ∧ Below w.heap.size w wr ∧ Hid (idx id ps 0 = idx id (ps.drop k) k)) (fun _ i _ => n - (intOf i).toNat)
  case atStart => exact ⟨0, Nat.zero_le _, rfl, Below.refl _ _, rfl⟩
  case round =>
    obtain ⟨k, hk, rfl, hb, hI⟩ := hrel
    by_cases hlt : k < n
    · obtain ⟨b, o, v, rfl, hbs, hv, hc⟩ := hs.at hlt
      have hcr : wr.cell? ⟨b, o + k, none⟩ = some v := (hb.cell (p := ⟨b, o + k, none⟩) hbs).trans hc
      have HV := Lib.hid hv
      clear hc hv
      obtain ⟨q, hq⟩ : ∃ q, ps[k]? = some q := ⟨_, List.getElem?_eq_getElem (by have := HPS.out; omega)⟩
      have HQ := Lib.hid hq
      clear hq
      cases q
      all_goals
        go_wp2_with fail
        refine (HG.out wr hb k v _ HV.out HQ.out).mono ?_
        rintro e w1 ⟨rfl, hb1⟩
        go_wp2_with fail
      · go_roundw
        case rel => exact ⟨k + 1, by omega, by go_num, hb.trans (hb1.mono hb.size), hI.out.trans (idx_miss ps k HQ.out)⟩
        case measure => simp [intOf]; omega
      · go_ret
        exact ⟨ret_int (by rw [hI.out, idx_hit ps k HQ.out]), hb.trans (hb1.mono hb.size)⟩
    · go_wp2
      go_ret
      exact ⟨ret_int (by rw [hI.out, List.drop_of_length_le (by rw [HPS.out]; omega)]; rfl), hb⟩

set_option maxHeartbeats 400000 in
theorem containsFunc (w : World) (a : Option Addr) (n c : Nat) (vs : List Value) (g : FuncId) (fs lb : Array Value) (ps : List Bool)
    (hs : Sl w a n c vs) (hps : ps.length = n) (eg : Enters g) (hg : Gives w g fs lb vs ps) :
    Calls Tryz.prog 46 #[.slice a n c, .func (.func g) fs lb] w fun e w' => e = .returned (.bool (ps.any id)) ∧ Below w.heap.size w w' := by
  have H := Lib.hid (indexFunc w a n c vs g fs lb ps hs hps eg hg)
  clear hg hs eg hps
  go_enter Tryz.func46, Tryz.ntmps46
  go_wp2_with fail
  refine H.out.mono ?_
  rintro e w1 ⟨rfl, hb1⟩
  generalize hq : idx id ps 0 = q
  have HQ := Lib.hid hq
  clear hq
  go_wp2_with fail
  go_ret
  exact ⟨ret_bool (by rw [← idx_nn id ps 0, HQ.out]), hb1⟩
end SlfS
end Go.Proofs.YtninglnchengeaaGreatDoor

/-
  interlockref07.Bits: is a text so many bits?
-/
namespace Go.Proofs.YtninglnchengeaaGreatDoor
open Go.RowKit Base
set_option linter.unusedVariables false
namespace RefBits

def bit (c : UInt8) : Bool := c == 48 || c == 49
def bits (s : List UInt8) (n : Int) : Bool := s.all bit && decide ((s.length : Int) = n)

theorem all_take_more {s : ByteArray} {k : Nat} (hk : k < s.size) (h : (s.data.toList.take k).all bit = true) (hb : bit s[k] = true) : (s.data.toList.take (k + 1)).all bit = true := by
  have e : s.data.toList.take (k + 1) = s.data.toList.take k ++ [s[k]] := by
    rw [List.take_succ_eq_append_getElem (by simpa using hk)]; rfl
  rw [e, List.all_append, h]
  simp [hb]

theorem all_no {s : ByteArray} {k : Nat} (hk : k < s.size) (hb : bit s[k] = false) : s.data.toList.all bit = false := by
  rw [List.all_eq_false]
  refine ⟨s[k], ?_, by simp [hb]⟩
  have : s[k] = s.data.toList[k]'(by simpa using hk) := rfl
  rw [this]
  exact List.getElem_mem _

set_option maxHeartbeats 1000000 in
theorem bits_any (w : World) (s : ByteArray) (hs : s.size ≤ 9223372036854775807) (n : Int) :
    Calls Tryz.prog 8 #[.string s, .int .i64 n] w fun e w' => e = .returned (.bool (bits s.data.toList n)) ∧ w = w' := by
  go_enter Tryz.func8, Tryz.ntmps8
  go_wp2
  go_loop [5] (fun i => ∃ k : Nat, k ≤ s.size ∧ i = .int .i64 k ∧ Hid ((s.data.toList.take k).all bit = true)) (fun i => s.size - (intOf i).toNat)
  case atStart => exact ⟨0, Nat.zero_le _, rfl, rfl⟩
  case round =>
    obtain ⟨k, hk, rfl, hI⟩ := hrel
    by_cases hlt : k < s.size
    · generalize hq : s[k] = q at *
      have HQ := Lib.hid hq
      have hix : s[k] = q := hq
      by_cases h0 : q = 48
      · have v0 : ((q.toNat : Int) != 48) = false := by rw [h0]; rfl
        have H0 := Lib.hid h0
        clear h0 hq
        go_wp2
        go_round
        case rel => exact ⟨k + 1, by omega, by go_num, all_take_more hlt hI.out (by rw [HQ.out, H0.out]; rfl)⟩
        case measure => simp [intOf]; omega
      · have v0 : ((q.toNat : Int) != 48) = true := by have := byte_ne q 48 h0; simp only [bne]; rw [show (48 : Int) = ((48 : UInt8).toNat : Int) from rfl, this]; rfl
        by_cases h1 : q = 49
        · have v1 : ((q.toNat : Int) != 49) = false := by rw [h1]; rfl
          have H0 := Lib.hid h1
          clear h0 h1 hq
          go_wp2
          go_round
          case rel => exact ⟨k + 1, by omega, by go_num, all_take_more hlt hI.out (by rw [HQ.out, H0.out]; rfl)⟩
          case measure => simp [intOf]; omega
        · have v1 : ((q.toNat : Int) != 49) = true := by have := byte_ne q 49 h1; simp only [bne]; rw [show (49 : Int) = ((49 : UInt8).toNat : Int) from rfl, this]; rfl
          have HB := Lib.hid (show bit q = false by unfold bit; simp [h0, h1])
          clear h0 h1 hq
          go_wp2
          go_ret
          exact ⟨ret_bool (by unfold bits; rw [all_no hlt (by rw [HQ.out]; exact HB.out)]; rfl), rfl⟩
    · go_wp2
      go_ret
      have e : s.data.toList.take k = s.data.toList := List.take_of_length_le (by simp; omega)
      refine ⟨ret_bool ?_, rfl⟩
      unfold bits
      rw [← e, hI.out, e]
      have : (s.data.toList.length : Int) = s.size := by simp
      rw [this]
      rfl
end RefBits
end Go.Proofs.YtninglnchengeaaGreatDoor

/-
  sim.Bits: is a text so many bits?
-/
namespace Go.Proofs.YtninglnchengeaaGreatDoor
open Go.RowKit Base
set_option linter.unusedVariables false
set_option linter.unusedSimpArgs false
namespace SimBits

theorem drop_all {α : Type} {p : α → Bool} {L : List α} (h : ∀ x ∈ L.dropWhile p, p x = true) : ∀ x ∈ L, p x = true := by
  induction L with
  | nil => intro x hx; cases hx
  | cons a t ih =>
    rw [List.dropWhile_cons] at h
    by_cases hp : p a = true
    · rw [if_pos hp] at h
      intro x hx
      rcases List.mem_cons.1 hx with rfl | hx
      · exact hp
      · exact ih h x hx
    · rw [if_neg hp] at h
      exact absurd (h a List.mem_cons_self) hp
theorem drop_nil {α : Type} {p : α → Bool} {L : List α} (h : ∀ x ∈ L, p x = true) : L.dropWhile p = [] := by
  induction L with
  | nil => rfl
  | cons a t ih =>
    rw [List.dropWhile_cons, if_pos (h a List.mem_cons_self)]
    exact ih fun x hx => h x (List.mem_cons_of_mem _ hx)
theorem drop_ne {α : Type} {p : α → Bool} {L : List α} (h : L.dropWhile p = []) : ∀ x ∈ L, p x = true := drop_all (by rw [h]; intro x hx; cases hx)

theorem set_bit (c : UInt8) : ([48, 49] : List UInt8).contains c = RefBits.bit c := by
  unfold RefBits.bit
  simp only [List.contains_cons, List.contains_nil, Bool.or_false]

theorem trim_all {l : List UInt8} (h : l.all RefBits.bit = true) : Lib.trimS l [48, 49] = [] := by
  rw [List.all_eq_true] at h
  unfold Lib.trimS Lib.trimLeftS Lib.trimRightS
  rw [drop_nil (L := l.reverse) (fun x hx => by rw [set_bit]; exact h x (List.mem_reverse.1 hx))]
  rfl
theorem trim_not {l : List UInt8} (h : Lib.trimS l [48, 49] = []) : l.all RefBits.bit = true := by
  rw [List.all_eq_true]
  unfold Lib.trimS Lib.trimLeftS Lib.trimRightS at h
  have h1 := drop_ne h
  intro x hx
  rw [← set_bit]
  exact drop_all (p := fun c => ([48, 49] : List UInt8).contains c) (L := l.reverse) (fun y hy => h1 y (List.mem_reverse.2 hy)) x (List.mem_reverse.2 hx)

set_option maxHeartbeats 1000000 in
theorem bits_any (w : World) (s : ByteArray) (hs : s.size ≤ 9223372036854775807) (n : Int) :
    Calls Tryz.prog 45 #[.string s, .int .i64 n] w fun e w' => e = .returned (.bool (RefBits.bits s.data.toList n)) ∧ Below w.heap.size w w' := by
  have HT := Lib.hid (LayB.trim_any s w hs)
  have hl : (s.data.toList.length : Int) = s.size := by rw [Array.length_toList]; rfl
  have HB : Hid (RefBits.bits s.data.toList n = (s.data.toList.all RefBits.bit && decide ((s.size : Int) = n))) := by show _ = _; unfold RefBits.bits; rw [hl]
  have HA := Lib.hid (fun h => trim_all (l := s.data.toList) h)
  have HN := Lib.hid (fun h => trim_not (l := s.data.toList) h)
  clear hl
  generalize RefBits.bits s.data.toList n = B at *
  generalize hab : s.data.toList.all RefBits.bit = ab at *
  generalize Lib.trimS s.data.toList [48, 49] = T at *
  by_cases hn : (s.size : Int) = n
  · have hv : ((s.size : Int) == n) = true := by simp [hn]
    cases ab
    · have hT : T ≠ [] := fun e => by have := HN.out e; cases this
      have hd2 : (⟨T.toArray⟩ : ByteArray).toList.isEmpty = false := by
        rw [Lib.toList_data]
        show T.toArray.toList.isEmpty = false
        cases T with
        | nil => exact absurd rfl hT
        | cons _ _ => rfl
      have HV : Hid (B = false) := by show _ = _; rw [HB.out]; rfl
      generalize (⟨T.toArray⟩ : ByteArray) = R at *
      clear hT hn
      go_enter Tryz.func45, Tryz.ntmps45
      go_wp2_with fail
      with_reducible refine HT.out.mono ?_
      rintro e w1 ⟨rfl, hb1⟩
      go_wp2_with fail
      go_ret
      exact ⟨by rw [HV.out]; rfl, hb1⟩
    · have hT : T = [] := HA.out rfl
      subst hT
      have HV : Hid (B = true) := by show _ = _; rw [HB.out, decide_eq_true hn]; rfl
      clear hn
      go_enter Tryz.func45, Tryz.ntmps45
      go_wp2_with fail
      with_reducible refine HT.out.mono ?_
      rintro e w1 ⟨rfl, hb1⟩
      go_wp2_with fail
      go_ret
      exact ⟨by rw [HV.out]; rfl, hb1⟩
  · have hv : ((s.size : Int) == n) = false := by simp [hn]
    have HV : Hid (B = false) := by show _ = _; rw [HB.out, decide_eq_false hn, Bool.and_false]
    clear hn
    go_enter Tryz.func45, Tryz.ntmps45
    go_wp2_with fail
    go_ret
    exact ⟨by rw [HV.out]; rfl, Below.refl _ _⟩
end SimBits
end Go.Proofs.YtninglnchengeaaGreatDoor

/-
  A region that draws its order, with loads and operations that make memory: a condition S on the world that every operation keeps; a load under S may be taken first. No program's function.
-/
namespace Go.Proofs.YtninglnchengeaaGreatDoor
open Go.RowKit
set_option linter.unusedVariables false
namespace HeldAll

section
variable {P : Program} {ops : Array Oper} {Q : Exit → Act → World → Prop} {md : Region.Mode} {S : World → Prop}

def wpAnyH (P : Program) (md : Region.Mode) (ops : Array Oper) (Q : Exit → Act → World → Prop) (S : World → Prop) : Nat → Array Bool → Act → World → Prop
  | 0, listed, a, w => Region.ready md ops listed = [] ∧ Q .normal a w
  | fuel + 1, listed, a, w =>
    (Region.ready md ops listed = [] → Q .normal a w) ∧
    ∀ i ∈ Region.ready md ops listed, wpOp P ops Q i (fun a' w' => S w' ∧ wpAnyH P md ops Q S fuel (listed.setIfInBounds i true) a' w') a w

theorem wpAny_of_H : ∀ (fuel : Nat) (listed : Array Bool) (a : Act) (w : World), wpAnyH P md ops Q S fuel listed a w → wpAny P md ops Q fuel listed a w
  | 0, _, _, _, h => h
  | fuel + 1, _, _, _, h => ⟨h.1, fun i hi => wpOp_mono (fun a' w' h' => wpAny_of_H fuel _ a' w' h'.2) (h.2 i hi)⟩

theorem first {i : Nat} {oi : Oper} {v : Value} (hi : ops[i]? = some oi) (hsel : ∀ (j : Nat) (o : Oper) cs b, ops[j]? = some o → o.op ≠ .select cs b)
    (hQ : ∀ c a w, Q (.panic c) (a.put oi.dst v) w → Q (.panic c) a w) :
    ∀ (fuel : Nat) (listed : Array Bool) (a : Act) (w : World),
      (∀ j oj, ops[j]? = some oj → j ≠ i → listed.getD j true = false → (∀ e ∈ oj.after, Region.binds md e = true → e.on ≠ i) → oi.apart ops oj = true) →
      i ∈ Region.ready md ops listed → YieldsIf P ops S oi v a → S w →
      wpAnyH P md ops Q S fuel (listed.setIfInBounds i true) (a.put oi.dst v) w → wpAnyH P md ops Q S (fuel + 1) listed a w := by
  intro fuel
  induction fuel with
  | zero =>
    intro listed a w _ hr hy hS H
    refine ⟨fun h => (by rw [h] at hr; cases hr), fun j hj => ?_⟩
    by_cases hji : j = i
    · subst hji; exact hy.wpOp hi hS ⟨hS, H⟩
    · have := ready_mono hj hji
      rw [H.1] at this
      cases this
  | succ fuel ih =>
    intro listed a w hfree hr hy hS H
    refine ⟨fun h => (by rw [h] at hr; cases hr), fun j hj => ?_⟩
    by_cases hji : j = i
    · subst hji; exact hy.wpOp hi hS ⟨hS, H⟩
    · have h1 := H.2 j (ready_mono hj hji)
      obtain ⟨hjun, oj, hoj, hall⟩ := mem_ready.1 hj
      have hnot : ∀ e ∈ oj.after, Region.binds md e = true → e.on ≠ i := fun e he hb heq => by
        have h1 := hall e he hb
        have h0 := (mem_ready.1 hr).1
        rw [heq] at h1
        rcases Nat.lt_or_ge i listed.size with h' | h'
        · simp [h'] at h0 h1; rw [h0] at h1; cases h1
        · simp [Array.getElem?_eq_none h'] at h1
      have h2 := wpOp_putIf hoj (hfree j oj hoj hji hjun hnot) (fun cs b => hsel i oi cs b hi) (fun cs b => hsel j oj cs b hoj) hQ hy h1
      have hfree' : ∀ k ok, ops[k]? = some ok → k ≠ i → (listed.setIfInBounds j true).getD k true = false →
          (∀ e ∈ ok.after, Region.binds md e = true → e.on ≠ i) → oi.apart ops ok = true := fun k ok hk hki hun hno => by
        refine hfree k ok hk hki ?_ hno
        by_cases hjk : j = k
        · subst hjk; exact hjun
        · rw [getD_set_ne true hjk] at hun; exact hun
      refine wpOp_mono (fun a' w' h3 => ⟨h3.2.1, ih (listed.setIfInBounds j true) a' w' hfree' (ready_mono hr (Ne.symm hji)) h3.1 h3.2.1 ?_⟩) h2
      rw [Array.setIfInBounds_comm _ _ hji]
      exact h3.2.2

/-- A load, or whatever yields under S, is taken first. -/
theorem take {i : Nat} {oi : Oper} {v : Value} {d : Option Tmp} {fuel : Nat} {listed : Array Bool} {a : Act} {w : World} (hi : ops[i]? = some oi) (hd : oi.dst = d)
    (hs : Region.noSelect ops = true) (hf : Region.free md ops listed i = true) (hr : (Region.ready md ops listed).contains i = true)
    (hQ : ∀ c a w, Q (.panic c) (a.put oi.dst v) w → Q (.panic c) a w) (hy : YieldsIf P ops S oi v a) (hS : S w)
    (h : wpAnyH P md ops Q S fuel (listed.setIfInBounds i true) (a.put d v) w) : wpAnyH P md ops Q S (fuel + 1) listed a w := by
  subst hd
  exact first hi (Region.noSelect_spec hs) hQ fuel listed a w (Region.free_spec hi hf) (by simpa using hr) hy hS h

def Nx (P : Program) (md : Region.Mode) (ops : Array Oper) (Q : Exit → Act → World → Prop) (S : World → Prop) (fuel : Nat) (listed : Array Bool) (i : Nat) (a : Act) (w : World) : Prop :=
  S w ∧ wpAnyH P md ops Q S fuel (listed.setIfInBounds i true) a w

theorem two {i j : Nat} {fuel : Nat} {listed : Array Bool} {a : Act} {w : World} (hr : Region.ready md ops listed = [i, j])
    (h1 : wpOp P ops Q i (Nx P md ops Q S fuel listed i) a w) (h2 : wpOp P ops Q j (Nx P md ops Q S fuel listed j) a w) : wpAnyH P md ops Q S (fuel + 1) listed a w := by
  refine ⟨fun h0 => absurd (hr ▸ h0) (by simp), ?_⟩
  rw [hr]
  intro k hk
  simp only [List.mem_cons, List.not_mem_nil, or_false] at hk
  rcases hk with rfl | rfl
  · exact h1
  · exact h2
theorem three {i j k : Nat} {fuel : Nat} {listed : Array Bool} {a : Act} {w : World} (hr : Region.ready md ops listed = [i, j, k])
    (h1 : wpOp P ops Q i (Nx P md ops Q S fuel listed i) a w) (h2 : wpOp P ops Q j (Nx P md ops Q S fuel listed j) a w) (h3 : wpOp P ops Q k (Nx P md ops Q S fuel listed k) a w) : wpAnyH P md ops Q S (fuel + 1) listed a w := by
  refine ⟨fun h0 => absurd (hr ▸ h0) (by simp), ?_⟩
  rw [hr]
  intro q hq
  simp only [List.mem_cons, List.not_mem_nil, or_false] at hq
  rcases hq with rfl | rfl | rfl
  · exact h1
  · exact h2
  · exact h3
theorem one {i : Nat} {fuel : Nat} {listed : Array Bool} {a : Act} {w : World} (hr : Region.ready md ops listed = [i])
    (h1 : wpOp P ops Q i (Nx P md ops Q S fuel listed i) a w) : wpAnyH P md ops Q S (fuel + 1) listed a w := by
  refine ⟨fun h0 => absurd (hr ▸ h0) (by simp), ?_⟩
  rw [hr]
  intro k hk
  simp only [List.mem_cons, List.not_mem_nil, or_false] at hk
  subst hk
  exact h1

theorem opCall {i : Nat} {oi : Oper} {d : Option Tmp} {fuel : Nat} {listed : Array Bool} {a : Act} {w : World} {f : FuncId} {args : Array Value} {R : Value → World → Prop} (hi : ops[i]? = some oi) (hd : oi.dst = d)
    (hw : Region.wanted oi (yielded ops a.tmps) = true) (hv : (execOp a.eval oi).run P w = .ok (.enter f args) w) (hc : Calls P f args w (fun e w'' => ∃ v, e = .returned v ∧ R v w''))
    (h : ∀ v w', R v w' → S w' ∧ wpAnyH P md ops Q S fuel (listed.setIfInBounds i true) (a.put d v) w') : wpOp P ops Q i (Nx P md ops Q S fuel listed i) a w := by
  subst hd
  unfold wpOp
  simp only [hi, hw, if_true]
  refine .inl ?_
  unfold Oper.wp
  rw [hv]
  simp only [Oper.upon]
  refine hc.mono fun e w'' ⟨v, he, hR⟩ => ?_
  subst he
  exact h v w'' hR

theorem opVal {i : Nat} {oi : Oper} {d : Option Tmp} {v : Value} {fuel : Nat} {listed : Array Bool} {a : Act} {w w2 : World} (hi : ops[i]? = some oi) (hd : oi.dst = d)
    (hw : Region.wanted oi (yielded ops a.tmps) = true) (hv : (execOp a.eval oi).run P w = .ok (.value v) w2) (hS : S w2)
    (h : wpAnyH P md ops Q S fuel (listed.setIfInBounds i true) (a.put d v) w2) : wpOp P ops Q i (Nx P md ops Q S fuel listed i) a w := by
  subst hd
  unfold wpOp
  simp only [hi, hw, if_true]
  refine .inl ?_
  unfold Oper.wp
  rw [hv]
  simp only [Oper.upon]
  exact ⟨hS, h⟩

theorem opStore {i : Nat} {oi : Oper} {d : Option Tmp} {fuel : Nat} {listed : Array Bool} {a : Act} {w w2 : World} (hi : ops[i]? = some oi) (hd : oi.dst = d)
    (hw : Region.wanted oi (yielded ops a.tmps) = true) (hv : (execOp a.eval oi).run P w = .ok .skip w2) (hS : S w2)
    (h : wpAnyH P md ops Q S fuel (listed.setIfInBounds i true) (a.put d undef) w2) : wpOp P ops Q i (Nx P md ops Q S fuel listed i) a w := by
  subst hd
  unfold wpOp
  simp only [hi, hw, if_true]
  refine .inl ?_
  unfold Oper.wp
  rw [hv]
  simp only [Oper.upon]
  exact ⟨hS, h⟩

theorem done {listed : Array Bool} {a : Act} {w : World} (hr : Region.ready md ops listed = []) (h : Q .normal a w) :
    ∀ fuel, wpAnyH P md ops Q S fuel listed a w
  | 0 => ⟨hr, h⟩
  | _ + 1 => ⟨fun _ => h, by rw [hr]; simp⟩

theorem region {id : Nat} {l : List Oper} {a : Act} {w : World} (S : World → Prop) (hm : P.follows .mixedOrders = true)
    (h : wpAnyH P .any l.toArray Q S l.toArray.size (Array.replicate l.toArray.size false) a w.drew) : (Code.region id l.toArray true).wp P Q a w :=
  wp_region_any hm (wpAny_of_H _ _ _ _ h)
end
end HeldAll
end Go.Proofs.YtninglnchengeaaGreatDoor

/-
  coi.right (written by spreads.py).
-/
namespace Go.Proofs.YtninglnchengeaaGreatDoor
open Go.RowKit Base
set_option linter.unusedVariables false
set_option linter.unusedSimpArgs false
namespace Spr
open Circuit StrashP

noncomputable def partB (x y : Circ) : Bool := !(beyondB y.ins x.ins || beyondB (y.lats.map (·.1)) (x.lats.map (·.1)))
def bitsB (y : Circ) (st : ByteArray) (inp : List ByteArray) : Bool := RefBits.bits st.data.toList y.lats.length && inp.all fun s => RefBits.bits s.data.toList y.ins.length
noncomputable def rightE (x y : Circ) (st : ByteArray) (inp : List ByteArray) : Int :=
  if (tt (CheckOk x) && tt (CheckOk y)) = false then 9 else if partB x y = false then 23 else if bitsB y st inp = false then 5 else 0
theorem call_keep {P : Program} {f : FuncId} {args : Array Value} {v : Value} {S : World → Prop} (hc : ∀ U, S U → Calls P f args U fun e U' => e = .returned v ∧ Below U.heap.size U U') (hs : ∀ U U', S U → Below U.heap.size U U' → S U') :
    ∀ U, S U → Calls P f args U fun e U' => e = .returned v ∧ S U' := fun U hU => (hc U hU).mono fun e U' h => ⟨h.1, hs U U' hU h.2⟩
theorem chk_tt (x : Circ) : chk x = if tt (CheckOk x) = true then 0 else 9 := rfl
theorem eg_r1 : SlfS.Enters 47 := enters_of Tryz.func47 (by kernel_rfl) rfl
set_option maxHeartbeats 1000000 in
theorem r1_any (w : World) (N : Nat) (y : Circ) (q : At) (hB : CBox N y q w) (hin : InCirc w y q) (s : ByteArray) (hs : s.size ≤ 9223372036854775807) :
    Calls Tryz.prog 47 #[.string s, .pointer (some ⟨N, 0, none⟩)] w fun e w' => e = .returned (.bool (!RefBits.bits s.data.toList y.ins.length)) ∧ Below w.heap.size w w' := by
  have HC := Lib.hid (SimBits.bits_any w s hs (y.ins.length : Int))
  have k1 := hB.k1
  have hc := hin.ins.cap
  have hb := hin.ins.big
  clear hB hin hs
  generalize RefBits.bits s.data.toList (y.ins.length : Int) = b at *
  go_enter Tryz.func47, Tryz.ntmps47
  go_wp2_with fail
  with_reducible refine HC.out.mono ?_
  rintro e w1 ⟨rfl, hb1⟩
  have HB1 := Lib.hid hb1
  clear hb1
  go_wp2_with fail
  go_ret
  exact ⟨rfl, HB1.out⟩

set_option maxRecDepth 8000 in
set_option maxHeartbeats 16000000 in
theorem right_any (w : World) (x : Circ) (p : At) (hin : InCirc w x p) (hw : WfC x) (y : Circ) (q : At) (hiq : InCirc w y q) (hyw : WfC y) (bad : Int) (st : ByteArray) (hst : st.size ≤ 9223372036854775807)
    (aI : Option Addr) (cI : Nat) (inp : List ByteArray) (hI : Sl w aI inp.length cI (inp.map Value.string)) (hIz : ∀ s ∈ inp, s.size ≤ 9223372036854775807) :
    Calls Tryz.prog 16 #[.agg (cells x p), .agg (cells y q), .agg #[.int .i64 bad, .string st, .slice aI inp.length cI]] w fun e w' => e = .returned (.int .i64 (rightE x y st inp)) ∧ Below w.heap.size w w' := by
  obtain ⟨W1, hW1⟩ : ∃ U, w.alloc (.cells (cells x p) 27) = U := ⟨_, rfl⟩
  obtain ⟨hb1, hx1⟩ := cbox_new w x p W1 hW1
  obtain ⟨W2, hW2⟩ : ∃ U, W1.alloc (.cells (cells y q) 27) = U := ⟨_, rfl⟩
  obtain ⟨hb2, hx2⟩ := cbox_new W1 y q W2 hW2
  obtain ⟨W3, hW3⟩ : ∃ U, W2.alloc (.cells #[.int .i64 bad, .string st, .slice aI inp.length cI] 30) = U := ⟨_, rfl⟩
  have hb3 : Below W2.heap.size W2 W3 := by rw [← hW3]; exact (Below.refl _ _).alloc (Nat.le_refl _) _
  have hx3 : BoxN W2.heap.size [.int .i64 bad, .string st, .slice aI inp.length cI] W3 := by rw [← hW3]; exact BoxN.new W2 _ _
  have hb13 : Below w.heap.size w W3 := hb1.trans ((hb2.trans (hb3.mono hb2.size)).mono hb1.size)
  have HB3 := Lib.hid hb13
  have hl1 : w.heap.size < W1.heap.size := hx1.lt
  have HX := Lib.hid (fun (U : World) (hU : Below W3.heap.size W3 U) => (hx1.next (hb2.trans (hb3.mono hb2.size)) (Nat.le_refl _)).next hU (Nat.le_refl _))
  have HY := Lib.hid (fun (U : World) (hU : Below W3.heap.size W3 U) => (hx2.next hb3 (Nat.le_refl _)).next hU (Nat.le_refl _))
  have HW := Lib.hid (fun (U : World) (hU : Below W3.heap.size W3 U) => hx3.next hU hx3.lt)
  have HIX := Lib.hid (fun (U : World) (hU : Below W3.heap.size W3 U) => hin.next (hb13.trans (hU.mono hb13.size)))
  have HIY := Lib.hid (fun (U : World) (hU : Below W3.heap.size W3 U) => hiq.next (hb13.trans (hU.mono hb13.size)))
  have HII := Lib.hid (fun (U : World) (hU : Below W3.heap.size W3 U) => hI.next (hb13.trans (hU.mono hb13.size)))
  have HCX := fun (U : World) (hU : Below W3.heap.size W3 U) => check_any U x p (HIX.out U hU) hw.ins hw.outs hw.bads hw.invs hw.lats hw.ands hw.mx
  have HCY := fun (U : World) (hU : Below W3.heap.size W3 U) => check_any U y q (HIY.out U hU) hyw.ins hyw.outs hyw.bads hyw.invs hyw.lats hyw.ands hyw.mx
  have HBY := fun (U : World) (hU : Below W3.heap.size W3 U) => beyond_any U q.a1 y.ins.length q.c1 y.ins (HIY.out U hU).ins p.a1 x.ins.length p.c1 x.ins (HIX.out U hU).ins
  have HST := Lib.hid (fun (U : World) => SimBits.bits_any U st hst (y.lats.length : Int))
  have HEE : Hid (rightE x y st inp = if (tt (CheckOk x) && tt (CheckOk y)) = false then 9 else if partB x y = false then 23 else if bitsB y st inp = false then 5 else 0) := rfl
  have HPB : Hid (partB x y = !(beyondB y.ins x.ins || beyondB (y.lats.map (·.1)) (x.lats.map (·.1)))) := rfl
  have HBB : Hid (bitsB y st inp = (RefBits.bits st.data.toList y.lats.length && inp.all fun s => RefBits.bits s.data.toList y.ins.length)) := rfl
  have HIZ := Lib.hid hIz
  have hcl := hiq.lats.cap
  have hgl := hiq.lats.big
  rw [chk_tt] at HCX HCY
  generalize hcx : tt (CheckOk x) = cx at *
  generalize hcy : tt (CheckOk y) = cy at *
  have HCXO : Hid (cx = true → CheckOk x) := fun h => by rw [h] at hcx; exact Classical.byContradiction fun hn => by rw [tt_neg hn] at hcx; cases hcx
  have HCYO : Hid (cy = true → CheckOk y) := fun h => by rw [h] at hcy; exact Classical.byContradiction fun hn => by rw [tt_neg hn] at hcy; cases hcy
  generalize rightE x y st inp = rr at *
  obtain ⟨a1, c1, a2, c2, a3, c3, a4, c4, a5, c5, a6, c6, a7, c7⟩ := p
  obtain ⟨b1, d1, b2, d2, b3, d3, b4, d4, b5, d5, b6, d6, b7, d7⟩ := q
  simp only [cells] at hW1 hW2 HCX HCY HBY hcl hgl ⊢
  have HCX1 := Lib.hid HCX
  have HCY1 := Lib.hid HCY
  have HBY1 := Lib.hid HBY
  clear hin hw hiq hyw hst hI hIz hb1 hx1 hb2 hx2 hb3 hx3 hb13 HCX HCY HBY hcx hcy
  have c := HX.out W3 (Below.refl _ _)
  have k0 := c.k0
  have k1 := c.k1
  have k2 := c.k2
  have k3 := c.k3
  have k4 := c.k4
  have k5 := c.k5
  have k6 := c.k6
  have k7 := c.k7
  clear c
  try simp only at k0 k1 k2 k3 k4 k5 k6 k7
  have HC1 := Lib.hid (HCX1.out W3 (Below.refl _ _))
  go_enter Tryz.func16, Tryz.ntmps16
  go_wp2_with fail
  clear hW1 hW2 hW3
  with_reducible refine HC1.out.mono ?_
  rintro e w4 ⟨rfl, hb4⟩
  have HB4 := Lib.hid hb4
  clear k0 k1 k2 k3 k4 k5 k6 k7
  cases cx
  · have HN : Hid (rr = 9) := HEE.out
    clear hb4
    go_wp2_with fail
    go_ret
    exact ⟨by rw [HN.out]; rfl, HB3.out.trans (HB4.out.mono HB3.out.size)⟩
  · have HC2 := Lib.hid (HCY1.out w4 hb4)
    have c := HY.out w4 hb4
    have k0 := c.k0
    have k1 := c.k1
    have k2 := c.k2
    have k3 := c.k3
    have k4 := c.k4
    have k5 := c.k5
    have k6 := c.k6
    have k7 := c.k7
    clear c hb4
    try simp only at k0 k1 k2 k3 k4 k5 k6 k7
    go_wp2_with fail
    with_reducible refine HC2.out.mono ?_
    rintro e w5 ⟨rfl, hb5⟩
    have HB5 := Lib.hid (HB4.out.trans (hb5.mono HB4.out.size))
    clear k0 k1 k2 k3 k4 k5 k6 k7 hb5
    cases cy
    · have HN : Hid (rr = 9) := HEE.out
      go_wp2_with fail
      go_ret
      exact ⟨by rw [HN.out]; rfl, HB3.out.trans (HB5.out.mono HB3.out.size)⟩
    · have HE2 : Hid (rr = if partB x y = false then 23 else if bitsB y st inp = false then 5 else 0) := HEE.out
      clear HEE
      have HLX : Hid (x.lats.length ≤ 1000000) := by show _ ≤ _; have := (HCXO.out (by first | rfl | trivial)).1.2.2.2.1; omega
      have HLY : Hid (y.lats.length ≤ 1000000) := by show _ ≤ _; have := (HCYO.out (by first | rfl | trivial)).1.2.2.2.1; omega
      have hSK : ∀ U : World, Below w5.heap.size w5 U → Below w5.heap.size w5 U ∧ U.cell? ⟨w.heap.size, 0, none⟩ = some (.int .i64 x.max) ∧ U.cell? ⟨w.heap.size, 1, none⟩ = some (.slice a1 x.ins.length c1) ∧ U.cell? ⟨w.heap.size, 2, none⟩ = some (.slice a2 x.lats.length c2) ∧ U.cell? ⟨w.heap.size, 3, none⟩ = some (.slice a3 x.outs.length c3) ∧ U.cell? ⟨w.heap.size, 4, none⟩ = some (.slice a4 x.bads.length c4) ∧ U.cell? ⟨w.heap.size, 5, none⟩ = some (.slice a5 x.invs.length c5) ∧ U.cell? ⟨w.heap.size, 6, none⟩ = some (.slice a6 x.ands.length c6) ∧ U.cell? ⟨w.heap.size, 7, none⟩ = some (.slice a7 x.names.length c7) ∧ U.cell? ⟨W1.heap.size, 0, none⟩ = some (.int .i64 y.max) ∧ U.cell? ⟨W1.heap.size, 1, none⟩ = some (.slice b1 y.ins.length d1) ∧ U.cell? ⟨W1.heap.size, 2, none⟩ = some (.slice b2 y.lats.length d2) ∧ U.cell? ⟨W1.heap.size, 3, none⟩ = some (.slice b3 y.outs.length d3) ∧ U.cell? ⟨W1.heap.size, 4, none⟩ = some (.slice b4 y.bads.length d4) ∧ U.cell? ⟨W1.heap.size, 5, none⟩ = some (.slice b5 y.invs.length d5) ∧ U.cell? ⟨W1.heap.size, 6, none⟩ = some (.slice b6 y.ands.length d6) ∧ U.cell? ⟨W1.heap.size, 7, none⟩ = some (.slice b7 y.names.length d7) := fun U hU => by
        have c := HX.out U (HB5.out.trans (hU.mono HB5.out.size))
        have d := HY.out U (HB5.out.trans (hU.mono HB5.out.size))
        exact ⟨hU, c.k0, c.k1, c.k2, c.k3, c.k4, c.k5, c.k6, c.k7, d.k0, d.k1, d.k2, d.k3, d.k4, d.k5, d.k6, d.k7⟩
      have HT5 := Lib.hid (fun (U : World) (hU : Below w5.heap.size w5 U) => HB5.out.trans (hU.mono HB5.out.size))
      generalize hbi : beyondB y.ins x.ins = bi at *
      have hS0 := hSK _ (Below.refl w5.heap.size w5).drew
      go_upto_region 3 with fail
      cases bi
      · have HBL : Hid (partB x y = !beyondB (y.lats.map (·.1)) (x.lats.map (·.1))) := by show _ = _; rw [HPB.out]; rfl
        clear HPB
        refine HeldAll.region (fun U : World => Below w5.heap.size w5 U ∧ U.cell? ⟨w.heap.size, 0, none⟩ = some (.int .i64 x.max) ∧ U.cell? ⟨w.heap.size, 1, none⟩ = some (.slice a1 x.ins.length c1) ∧ U.cell? ⟨w.heap.size, 2, none⟩ = some (.slice a2 x.lats.length c2) ∧ U.cell? ⟨w.heap.size, 3, none⟩ = some (.slice a3 x.outs.length c3) ∧ U.cell? ⟨w.heap.size, 4, none⟩ = some (.slice a4 x.bads.length c4) ∧ U.cell? ⟨w.heap.size, 5, none⟩ = some (.slice a5 x.invs.length c5) ∧ U.cell? ⟨w.heap.size, 6, none⟩ = some (.slice a6 x.ands.length c6) ∧ U.cell? ⟨w.heap.size, 7, none⟩ = some (.slice a7 x.names.length c7) ∧ U.cell? ⟨W1.heap.size, 0, none⟩ = some (.int .i64 y.max) ∧ U.cell? ⟨W1.heap.size, 1, none⟩ = some (.slice b1 y.ins.length d1) ∧ U.cell? ⟨W1.heap.size, 2, none⟩ = some (.slice b2 y.lats.length d2) ∧ U.cell? ⟨W1.heap.size, 3, none⟩ = some (.slice b3 y.outs.length d3) ∧ U.cell? ⟨W1.heap.size, 4, none⟩ = some (.slice b4 y.bads.length d4) ∧ U.cell? ⟨W1.heap.size, 5, none⟩ = some (.slice b5 y.invs.length d5) ∧ U.cell? ⟨W1.heap.size, 6, none⟩ = some (.slice b6 y.ands.length d6) ∧ U.cell? ⟨W1.heap.size, 7, none⟩ = some (.slice b7 y.names.length d7)) (by kernel_rfl) ?_
        (refine HeldAll.take (i := 0) (oi := _) (d := some 17) (v := ?_) rfl rfl (by kernel_rfl) (by kernel_rfl) (by kernel_rfl) (fun _ _ _ h => h) (Or.inl ⟨by rfl, ?_⟩) hS0 ?_; rotate_left; (focus (intro w hSw; clear hSw; go_simp; (try with_reducible rfl); done)); (try simp only [Act.put, List.setIfInBounds_toArray, List.set_cons_zero, List.set_cons_succ]))
        (refine HeldAll.take (i := 1) (oi := _) (d := some 18) (v := ?_) rfl rfl (by kernel_rfl) (by kernel_rfl) (by kernel_rfl) (fun _ _ _ h => h) (Or.inl ⟨by rfl, ?_⟩) hS0 ?_; rotate_left; (focus (intro w hSw; (try dsimp only at hSw); go_simp; (try with_reducible rfl); done)); (try simp only [Act.put, List.setIfInBounds_toArray, List.set_cons_zero, List.set_cons_succ]))
        (refine HeldAll.take (i := 2) (oi := _) (d := some 19) (v := ?_) rfl rfl (by kernel_rfl) (by kernel_rfl) (by kernel_rfl) (fun _ _ _ h => h) (Or.inl ⟨by rfl, ?_⟩) hS0 ?_; rotate_left; (focus (intro w hSw; clear hSw; go_simp; (try with_reducible rfl); done)); (try simp only [Act.put, List.setIfInBounds_toArray, List.set_cons_zero, List.set_cons_succ]))
        (refine HeldAll.take (i := 3) (oi := _) (d := some 20) (v := ?_) rfl rfl (by kernel_rfl) (by kernel_rfl) (by kernel_rfl) (fun _ _ _ h => h) (Or.inl ⟨by rfl, ?_⟩) hS0 ?_; rotate_left; (focus (intro w hSw; (try dsimp only at hSw); go_simp; (try with_reducible rfl); done)); (try simp only [Act.put, List.setIfInBounds_toArray, List.set_cons_zero, List.set_cons_succ]))
        refine HeldAll.one (i := 4) (by kernel_rfl) ?_
        refine HeldAll.opCall (i := 4) (oi := _) (d := some 21) (R := fun v w' => v = .bool false ∧ Below w5.drew.heap.size w5.drew w') rfl rfl (by rfl) (by go_simp; done) ((HBY1.out w5.drew (HT5.out _ (Below.refl w5.heap.size w5).drew)).mono fun e w' h => ⟨_, h.1, rfl, h.2⟩) ?_
        rintro v u1 ⟨rfl, su1⟩
        have bu1 : Below w5.heap.size w5 u1 := (Below.refl w5.heap.size w5).drew.trans (su1.mono (Below.refl w5.heap.size w5).drew.size)
        refine ⟨hSK _ bu1, ?_⟩
        (try simp only [Act.put, List.setIfInBounds_toArray, List.set_cons_zero, List.set_cons_succ])
        have hS0 := hSK _ bu1
        (refine HeldAll.take (i := 5) (oi := _) (d := some 22) (v := ?_) rfl rfl (by kernel_rfl) (by kernel_rfl) (by kernel_rfl) (fun _ _ _ h => h) (Or.inl ⟨by rfl, ?_⟩) hS0 ?_; rotate_left; (focus (intro w hSw; clear hSw; go_simp; (try with_reducible rfl); done)); (try simp only [Act.put, List.setIfInBounds_toArray, List.set_cons_zero, List.set_cons_succ]))
        (refine HeldAll.take (i := 6) (oi := _) (d := some 23) (v := ?_) rfl rfl (by kernel_rfl) (by kernel_rfl) (by kernel_rfl) (fun _ _ _ h => h) (Or.inl ⟨by rfl, ?_⟩) hS0 ?_; rotate_left; (focus (intro w hSw; (try dsimp only at hSw); go_simp; (try with_reducible rfl); done)); (try simp only [Act.put, List.setIfInBounds_toArray, List.set_cons_zero, List.set_cons_succ]))
        (refine HeldAll.take (i := 8) (oi := _) (d := some 25) (v := ?_) rfl rfl (by kernel_rfl) (by kernel_rfl) (by kernel_rfl) (fun _ _ _ h => h) (Or.inl ⟨by rfl, ?_⟩) hS0 ?_; rotate_left; (focus (intro w hSw; (try dsimp only at hSw); go_simp; (try with_reducible rfl); done)); (try simp only [Act.put, List.setIfInBounds_toArray, List.set_cons_zero, List.set_cons_succ]))
        have HL1 := latchLits_any u1 y ⟨b1, d1, b2, d2, b3, d3, b4, d4, b5, d5, b6, d6, b7, d7⟩ (HIY.out u1 (HT5.out _ bu1)) HLY.out
        simp only [cells] at HL1
        refine HeldAll.one (i := 7) (by kernel_rfl) ?_
        refine HeldAll.opCall (i := 7) (oi := _) (d := some 24) (R := fun v w' => ∃ a c, v = .slice a y.lats.length c ∧ w'.ownsRow u1.heap.size 3 1 (.slice a y.lats.length c) y.lats.length (ints (y.lats.map (·.1))) ∧ Below u1.heap.size u1 w') rfl rfl (by rfl) (by go_simp; done) (HL1.mono fun e w' h => by obtain ⟨a, c, he, ho, hb⟩ := h; exact ⟨_, he, a, c, rfl, ho, hb⟩) ?_
        rintro v u2 ⟨ya, yc, rfl, yo, su2⟩
        have bu2 : Below w5.heap.size w5 u2 := bu1.trans (su2.mono bu1.size)
        refine ⟨hSK _ bu2, ?_⟩
        (try simp only [Act.put, List.setIfInBounds_toArray, List.set_cons_zero, List.set_cons_succ])
        have HL2 := latchLits_any u2 x ⟨a1, c1, a2, c2, a3, c3, a4, c4, a5, c5, a6, c6, a7, c7⟩ (HIX.out u2 (HT5.out _ bu2)) HLX.out
        simp only [cells] at HL2
        refine HeldAll.one (i := 9) (by kernel_rfl) ?_
        refine HeldAll.opCall (i := 9) (oi := _) (d := some 26) (R := fun v w' => ∃ a c, v = .slice a x.lats.length c ∧ w'.ownsRow u2.heap.size 3 1 (.slice a x.lats.length c) x.lats.length (ints (x.lats.map (·.1))) ∧ Below u2.heap.size u2 w') rfl rfl (by rfl) (by go_simp; done) (HL2.mono fun e w' h => by obtain ⟨a, c, he, ho, hb⟩ := h; exact ⟨_, he, a, c, rfl, ho, hb⟩) ?_
        rintro v u3 ⟨xa, xc, rfl, xo, su3⟩
        have bu3 : Below w5.heap.size w5 u3 := bu2.trans (su3.mono bu2.size)
        refine ⟨hSK _ bu3, ?_⟩
        (try simp only [Act.put, List.setIfInBounds_toArray, List.set_cons_zero, List.set_cons_succ])
        refine HeldAll.one (i := 10) (by kernel_rfl) ?_
        refine HeldAll.opCall (i := 10) (oi := _) (d := some 27) (R := fun v w' => v = .bool (beyondB (y.lats.map (·.1)) (x.lats.map (·.1))) ∧ Below u3.heap.size u3 w') rfl rfl (by rfl) (by go_simp; done) ((beyond_any u3 ya y.lats.length yc (y.lats.map (·.1)) ((own_sl' yo).next su3) xa x.lats.length xc (x.lats.map (·.1)) (own_sl' xo)).mono fun e w' h => ⟨_, h.1, rfl, h.2⟩) ?_
        rintro v u4 ⟨rfl, su4⟩
        have bu4 : Below w5.heap.size w5 u4 := bu3.trans (su4.mono bu3.size)
        refine ⟨hSK _ bu4, ?_⟩
        (try simp only [Act.put, List.setIfInBounds_toArray, List.set_cons_zero, List.set_cons_succ])
        have hS0 := hSK _ bu4
        (refine HeldAll.take (i := 11) (oi := _) (d := some 28) (v := ?_) rfl rfl (by kernel_rfl) (by kernel_rfl) (by kernel_rfl) (fun _ _ _ h => h) (Or.inl ⟨by rfl, ?_⟩) hS0 ?_; rotate_left; (focus (intro w hSw; clear hSw; go_simp; (try with_reducible rfl); done)); (try simp only [Act.put, List.setIfInBounds_toArray, List.set_cons_zero, List.set_cons_succ]))
        (refine HeldAll.take (i := 12) (oi := _) (d := some 16) (v := ?_) rfl rfl (by kernel_rfl) (by kernel_rfl) (by kernel_rfl) (fun _ _ _ h => h) (Or.inl ⟨by rfl, ?_⟩) hS0 ?_; rotate_left; (focus (intro w hSw; clear hSw; go_simp; (try with_reducible rfl); done)); (try simp only [Act.put, List.setIfInBounds_toArray, List.set_cons_zero, List.set_cons_succ]))
        refine HeldAll.done (by kernel_rfl) ?_ _
        have HB6 := Lib.hid (HB5.out.trans (bu4.mono HB5.out.size))
        clear hS0 hSK bu1 bu2 bu3 bu4 su1 su2 su3 su4 yo xo HL1 HL2
        generalize hbl : beyondB (y.lats.map (·.1)) (x.lats.map (·.1)) = bl at *
        cases bl
        · have HE3 : Hid (rr = if bitsB y st inp = false then 5 else 0) := by show _ = _; rw [HE2.out, HBL.out]; rfl
          clear HE2 HBL hbl
          have c := HW.out u4 HB6.out
          have j0 := c.at' 0 _ rfl
          have j1 := c.at' 1 _ rfl
          have j2 := c.at' 2 _ rfl
          have d := HY.out u4 HB6.out
          have k1 := d.k1
          have k2 := d.k2
          try simp only at k1 k2
          clear c d
          have HS1 := Lib.hid (HST.out u4)
          generalize hsb : RefBits.bits st.data.toList (y.lats.length : Int) = sb at *
          go_wp2_with fail
          with_reducible refine HS1.out.mono ?_
          rintro e w7 ⟨rfl, hb7⟩
          have HB7 := Lib.hid (HB6.out.trans (hb7.mono HB6.out.size))
          clear hb7 j0 j1 j2 k1 k2
          cases sb
          · have HN : Hid (rr = 5) := by show _ = _; rw [HE3.out, HBB.out]; rfl
            go_wp2_with fail
            go_ret
            exact ⟨by rw [HN.out]; rfl, HB3.out.trans (HB7.out.mono HB3.out.size)⟩
          · have HCF := SlfS.containsFunc w7 aI inp.length cI (inp.map Value.string) 47 #[] #[.pointer (some ⟨W1.heap.size, 0, none⟩)] (inp.map fun s => !RefBits.bits s.data.toList (y.ins.length : Int)) (HII.out w7 HB7.out) (by simp) eg_r1 (by
              intro V hV j v q hv hq
              rw [List.getElem?_map, Option.map_eq_some_iff] at hv hq
              obtain ⟨s1, hs1, rfl⟩ := hv
              obtain ⟨s2, hs2, rfl⟩ := hq
              rw [hs1] at hs2
              cases hs2
              have hV2 := HB7.out.trans (hV.mono HB7.out.size)
              exact r1_any V W1.heap.size y ⟨b1, d1, b2, d2, b3, d3, b4, d4, b5, d5, b6, d6, b7, d7⟩ (HY.out V hV2) (HIY.out V hV2) s1 (HIZ.out s1 (List.mem_of_getElem? hs1)))
            have hany : (inp.map fun s => !RefBits.bits s.data.toList (y.ins.length : Int)).any id = !inp.all fun s => RefBits.bits s.data.toList (y.ins.length : Int) := by
              rw [List.any_map, List.not_all_eq_any_not]; rfl
            rw [hany] at HCF
            have HC7 := Lib.hid HCF
            have HE4 : Hid (rr = if (inp.all fun s => RefBits.bits s.data.toList (y.ins.length : Int)) = false then 5 else 0) := by show _ = _; rw [HE3.out, HBB.out]; rfl
            clear HCF hany HE3 HBB
            generalize (inp.all fun s => RefBits.bits s.data.toList (y.ins.length : Int)) = ab at *
            have c := HW.out w7 HB7.out
            have j2 := c.at' 2 _ rfl
            clear c
            go_wp2_with fail
            with_reducible refine HC7.out.mono ?_
            rintro e w8 ⟨rfl, hb8⟩
            have HB8 := Lib.hid (HB7.out.trans (hb8.mono HB7.out.size))
            clear hb8 j2
            cases ab
            · have HN : Hid (rr = 5) := HE4.out
              go_wp2_with fail
              go_ret
              exact ⟨by rw [HN.out]; rfl, HB3.out.trans (HB8.out.mono HB3.out.size)⟩
            · have HN : Hid (rr = 0) := HE4.out
              go_wp2_with fail
              go_ret
              exact ⟨by rw [HN.out]; rfl, HB3.out.trans (HB8.out.mono HB3.out.size)⟩
        · have HN : Hid (rr = 23) := by show _ = _; rw [HE2.out, HBL.out]; rfl
          go_wp2_with fail
          go_ret
          exact ⟨by rw [HN.out]; rfl, HB3.out.trans (HB6.out.mono HB3.out.size)⟩
      · have HN : Hid (rr = 23) := by show _ = _; rw [HE2.out, HPB.out]; rfl
        have HF := hS0
        have CB := Lib.hid (call_keep (S := fun U => Below w5.heap.size w5 U ∧ U.cell? ⟨w.heap.size, 0, none⟩ = some (.int .i64 x.max) ∧ U.cell? ⟨w.heap.size, 1, none⟩ = some (.slice a1 x.ins.length c1) ∧ U.cell? ⟨w.heap.size, 2, none⟩ = some (.slice a2 x.lats.length c2) ∧ U.cell? ⟨w.heap.size, 3, none⟩ = some (.slice a3 x.outs.length c3) ∧ U.cell? ⟨w.heap.size, 4, none⟩ = some (.slice a4 x.bads.length c4) ∧ U.cell? ⟨w.heap.size, 5, none⟩ = some (.slice a5 x.invs.length c5) ∧ U.cell? ⟨w.heap.size, 6, none⟩ = some (.slice a6 x.ands.length c6) ∧ U.cell? ⟨w.heap.size, 7, none⟩ = some (.slice a7 x.names.length c7) ∧ U.cell? ⟨W1.heap.size, 0, none⟩ = some (.int .i64 y.max) ∧ U.cell? ⟨W1.heap.size, 1, none⟩ = some (.slice b1 y.ins.length d1) ∧ U.cell? ⟨W1.heap.size, 2, none⟩ = some (.slice b2 y.lats.length d2) ∧ U.cell? ⟨W1.heap.size, 3, none⟩ = some (.slice b3 y.outs.length d3) ∧ U.cell? ⟨W1.heap.size, 4, none⟩ = some (.slice b4 y.bads.length d4) ∧ U.cell? ⟨W1.heap.size, 5, none⟩ = some (.slice b5 y.invs.length d5) ∧ U.cell? ⟨W1.heap.size, 6, none⟩ = some (.slice b6 y.ands.length d6) ∧ U.cell? ⟨W1.heap.size, 7, none⟩ = some (.slice b7 y.names.length d7)) (fun U hU => HBY1.out U (HT5.out _ hU.1)) (fun U U' h hb => hSK U' (h.1.trans (hb.mono h.1.size))))
        clear hSK hS0
        refine Lex.region (fun U => Below w5.heap.size w5 U ∧ U.cell? ⟨w.heap.size, 0, none⟩ = some (.int .i64 x.max) ∧ U.cell? ⟨w.heap.size, 1, none⟩ = some (.slice a1 x.ins.length c1) ∧ U.cell? ⟨w.heap.size, 2, none⟩ = some (.slice a2 x.lats.length c2) ∧ U.cell? ⟨w.heap.size, 3, none⟩ = some (.slice a3 x.outs.length c3) ∧ U.cell? ⟨w.heap.size, 4, none⟩ = some (.slice a4 x.bads.length c4) ∧ U.cell? ⟨w.heap.size, 5, none⟩ = some (.slice a5 x.invs.length c5) ∧ U.cell? ⟨w.heap.size, 6, none⟩ = some (.slice a6 x.ands.length c6) ∧ U.cell? ⟨w.heap.size, 7, none⟩ = some (.slice a7 x.names.length c7) ∧ U.cell? ⟨W1.heap.size, 0, none⟩ = some (.int .i64 y.max) ∧ U.cell? ⟨W1.heap.size, 1, none⟩ = some (.slice b1 y.ins.length d1) ∧ U.cell? ⟨W1.heap.size, 2, none⟩ = some (.slice b2 y.lats.length d2) ∧ U.cell? ⟨W1.heap.size, 3, none⟩ = some (.slice b3 y.outs.length d3) ∧ U.cell? ⟨W1.heap.size, 4, none⟩ = some (.slice b4 y.bads.length d4) ∧ U.cell? ⟨W1.heap.size, 5, none⟩ = some (.slice b5 y.invs.length d5) ∧ U.cell? ⟨W1.heap.size, 6, none⟩ = some (.slice b6 y.ands.length d6) ∧ U.cell? ⟨W1.heap.size, 7, none⟩ = some (.slice b7 y.names.length d7)) (by kernel_rfl) (by kernel_rfl) HF ?_
        (refine Lex.step_val (v := ?_) ?_ (fun w' hSw => ?_) ?_; rotate_left; (focus rfl); (focus (clear hSw; go_simp; (try with_reducible rfl); done)); (try simp only [Act.put, List.setIfInBounds_toArray, List.set_cons_zero, List.set_cons_succ]))
        (refine Lex.step_val (v := ?_) ?_ (fun w' hSw => ?_) ?_; rotate_left; (focus rfl); (focus ((try dsimp only at hSw); go_simp; (try with_reducible rfl); done)); (try simp only [Act.put, List.setIfInBounds_toArray, List.set_cons_zero, List.set_cons_succ]))
        (refine Lex.step_val (v := ?_) ?_ (fun w' hSw => ?_) ?_; rotate_left; (focus rfl); (focus (clear hSw; go_simp; (try with_reducible rfl); done)); (try simp only [Act.put, List.setIfInBounds_toArray, List.set_cons_zero, List.set_cons_succ]))
        (refine Lex.step_val (v := ?_) ?_ (fun w' hSw => ?_) ?_; rotate_left; (focus rfl); (focus ((try dsimp only at hSw); go_simp; (try with_reducible rfl); done)); (try simp only [Act.put, List.setIfInBounds_toArray, List.set_cons_zero, List.set_cons_succ]))
        (refine Lex.step_call (v := ?_) (f := ?_) (args := ?_) ?_ (fun w' hSw => ?_) ?_ ?_; rotate_left 3; (focus rfl); (focus (clear hSw; go_simp; (refine And.intro ?_ ?_ <;> with_reducible rfl); done)); (focus (first | with_reducible exact CB.out)); (try simp only [Act.put, List.setIfInBounds_toArray, List.set_cons_zero, List.set_cons_succ]))
        (refine Lex.step_val (v := ?_) ?_ (fun w' hSw => ?_) ?_; rotate_left; (focus rfl); (focus (clear hSw; go_simp; (try with_reducible rfl); done)); (try simp only [Act.put, List.setIfInBounds_toArray, List.set_cons_zero, List.set_cons_succ]))
        (refine Lex.step_off ?_ ?_; (focus (first | (go_simp; done) | (simp [Region.wanted, yielded, undef]; done) | rfl)); (try simp only [Act.put, List.setIfInBounds_toArray, List.set_cons_zero, List.set_cons_succ]))
        (refine Lex.step_off ?_ ?_; (focus (first | (go_simp; done) | (simp [Region.wanted, yielded, undef]; done) | rfl)); (try simp only [Act.put, List.setIfInBounds_toArray, List.set_cons_zero, List.set_cons_succ]))
        (refine Lex.step_off ?_ ?_; (focus (first | (go_simp; done) | (simp [Region.wanted, yielded, undef]; done) | rfl)); (try simp only [Act.put, List.setIfInBounds_toArray, List.set_cons_zero, List.set_cons_succ]))
        (refine Lex.step_off ?_ ?_; (focus (first | (go_simp; done) | (simp [Region.wanted, yielded, undef]; done) | rfl)); (try simp only [Act.put, List.setIfInBounds_toArray, List.set_cons_zero, List.set_cons_succ]))
        (refine Lex.step_off ?_ ?_; (focus (first | (go_simp; done) | (simp [Region.wanted, yielded, undef]; done) | rfl)); (try simp only [Act.put, List.setIfInBounds_toArray, List.set_cons_zero, List.set_cons_succ]))
        (refine Lex.step_val (v := ?_) ?_ (fun w' hSw => ?_) ?_; rotate_left; (focus rfl); (focus (clear hSw; go_simp; (try with_reducible rfl); done)); (try simp only [Act.put, List.setIfInBounds_toArray, List.set_cons_zero, List.set_cons_succ]))
        (refine Lex.step_val (v := ?_) ?_ (fun w' hSw => ?_) ?_; rotate_left; (focus rfl); (focus (clear hSw; go_simp; (try with_reducible rfl); done)); (try simp only [Act.put, List.setIfInBounds_toArray, List.set_cons_zero, List.set_cons_succ]))
        refine Lex.step_nil ?_
        intro wz hz
        have HZ := Lib.hid hz.1
        clear hz HF
        go_wp2_with fail
        go_ret
        exact ⟨by rw [HN.out]; rfl, HB3.out.trans ((HB5.out.trans (HZ.out.mono HB5.out.size)).mono HB3.out.size)⟩
end Spr
end Go.Proofs.YtninglnchengeaaGreatDoor

/-
  A region that draws its order, with loads, calls that make memory, and stores behind them all: a condition S on the world is asked only up to the first store (operation number s); a load under S, and what yields in every world, may be taken first. No program's function.
-/
namespace Go.Proofs.YtninglnchengeaaGreatDoor
open Go.RowKit
set_option linter.unusedVariables false
namespace HeldTo

section
variable {P : Program} {ops : Array Oper} {Q : Exit → Act → World → Prop} {md : Region.Mode} {S : World → Prop} {s : Nat}

def wpAnyG (P : Program) (md : Region.Mode) (ops : Array Oper) (Q : Exit → Act → World → Prop) (S : World → Prop) (s : Nat) : Nat → Array Bool → Act → World → Prop
  | 0, listed, a, w => Region.ready md ops listed = [] ∧ Q .normal a w
  | fuel + 1, listed, a, w =>
    (Region.ready md ops listed = [] → Q .normal a w) ∧
    ∀ i ∈ Region.ready md ops listed, wpOp P ops Q i (fun a' w' => ((listed.setIfInBounds i true).getD s true = false → S w') ∧ wpAnyG P md ops Q S s fuel (listed.setIfInBounds i true) a' w') a w

theorem wpAny_of_G : ∀ (fuel : Nat) (listed : Array Bool) (a : Act) (w : World), wpAnyG P md ops Q S s fuel listed a w → wpAny P md ops Q fuel listed a w
  | 0, _, _, _, h => h
  | fuel + 1, _, _, _, h => ⟨h.1, fun i hi => wpOp_mono (fun a' w' h' => wpAny_of_G fuel _ a' w' h'.2) (h.2 i hi)⟩

theorem wpAnyG_first {i : Nat} {oi : Oper} {v : Value} (hi : ops[i]? = some oi) (hsel : ∀ (j : Nat) (o : Oper) cs b, ops[j]? = some o → o.op ≠ .select cs b)
    (hQ : ∀ c a w, Q (.panic c) (a.put oi.dst v) w → Q (.panic c) a w) (his : i ≠ s) (hw8 : ∀ os, ops[s]? = some os → ∃ e ∈ os.after, Region.binds md e = true ∧ e.on = i) :
    ∀ (fuel : Nat) (listed : Array Bool) (a : Act) (w : World),
      (∀ j oj, ops[j]? = some oj → j ≠ i → listed.getD j true = false → (∀ e ∈ oj.after, Region.binds md e = true → e.on ≠ i) → oi.apart ops oj = true) →
      i ∈ Region.ready md ops listed → listed.getD s true = false → YieldsIf P ops S oi v a → S w →
      wpAnyG P md ops Q S s fuel (listed.setIfInBounds i true) (a.put oi.dst v) w → wpAnyG P md ops Q S s (fuel + 1) listed a w := by
  intro fuel
  induction fuel with
  | zero =>
    intro listed a w _ hr hs hy hS H
    refine ⟨fun h => (by rw [h] at hr; cases hr), fun j hj => ?_⟩
    by_cases hji : j = i
    · subst hji; exact hy.wpOp hi hS ⟨fun _ => hS, H⟩
    · have := ready_mono hj hji
      rw [H.1] at this
      cases this
  | succ fuel ih =>
    intro listed a w hfree hr hs hy hS H
    refine ⟨fun h => (by rw [h] at hr; cases hr), fun j hj => ?_⟩
    by_cases hji : j = i
    · subst hji; exact hy.wpOp hi hS ⟨fun _ => hS, H⟩
    · have h1 := H.2 j (ready_mono hj hji)
      obtain ⟨hjun, oj, hoj, hall⟩ := mem_ready.1 hj
      have hnot : ∀ e ∈ oj.after, Region.binds md e = true → e.on ≠ i := fun e he hb heq => by
        have h1 := hall e he hb
        have h0 := (mem_ready.1 hr).1
        rw [heq] at h1
        rcases Nat.lt_or_ge i listed.size with h' | h'
        · simp [h'] at h0 h1; rw [h0] at h1; cases h1
        · simp [Array.getElem?_eq_none h'] at h1
      have hjs : j ≠ s := fun h => by
        subst h
        obtain ⟨e, he, hb, heq⟩ := hw8 oj hoj
        exact hnot e he hb heq
      have h2 := wpOp_putIf hoj (hfree j oj hoj hji hjun hnot) (fun cs b => hsel i oi cs b hi) (fun cs b => hsel j oj cs b hoj) hQ hy h1
      have hfree' : ∀ k ok, ops[k]? = some ok → k ≠ i → (listed.setIfInBounds j true).getD k true = false →
          (∀ e ∈ ok.after, Region.binds md e = true → e.on ≠ i) → oi.apart ops ok = true := fun k ok hk hki hun hno => by
        refine hfree k ok hk hki ?_ hno
        by_cases hjk : j = k
        · subst hjk; exact hjun
        · rw [getD_set_ne true hjk] at hun; exact hun
      have hs2 : (listed.setIfInBounds j true).getD s true = false := by rw [getD_set_ne true hjs]; exact hs
      have hs3 : ((listed.setIfInBounds i true).setIfInBounds j true).getD s true = false := by rw [getD_set_ne true hjs, getD_set_ne true his]; exact hs
      refine wpOp_mono (fun a' w' h3 => ⟨fun _ => h3.2.1 hs3, ih (listed.setIfInBounds j true) a' w' hfree' (ready_mono hr (Ne.symm hji)) hs2 h3.1 (h3.2.1 hs3) ?_⟩) h2
      rw [Array.setIfInBounds_comm _ _ hji]
      exact h3.2.2

/-- What yields in every world may be taken first at any time. -/
theorem wpAnyG_plain {i : Nat} {oi : Oper} {v : Value} (hi : ops[i]? = some oi) (hsel : ∀ (j : Nat) (o : Oper) cs b, ops[j]? = some o → o.op ≠ .select cs b)
    (hQ : ∀ c a w, Q (.panic c) (a.put oi.dst v) w → Q (.panic c) a w) (his : i ≠ s) :
    ∀ (fuel : Nat) (listed : Array Bool) (a : Act) (w : World),
      (∀ j oj, ops[j]? = some oj → j ≠ i → listed.getD j true = false → (∀ e ∈ oj.after, Region.binds md e = true → e.on ≠ i) → oi.apart ops oj = true) →
      i ∈ Region.ready md ops listed → YieldsIf P ops (fun _ => True) oi v a → (listed.getD s true = false → S w) →
      wpAnyG P md ops Q S s fuel (listed.setIfInBounds i true) (a.put oi.dst v) w → wpAnyG P md ops Q S s (fuel + 1) listed a w := by
  intro fuel
  induction fuel with
  | zero =>
    intro listed a w _ hr hy hS H
    refine ⟨fun h => (by rw [h] at hr; cases hr), fun j hj => ?_⟩
    by_cases hji : j = i
    · subst hji; exact hy.wpOp hi trivial ⟨fun h => hS (by rwa [getD_set_ne true his] at h), H⟩
    · have := ready_mono hj hji
      rw [H.1] at this
      cases this
  | succ fuel ih =>
    intro listed a w hfree hr hy hS H
    refine ⟨fun h => (by rw [h] at hr; cases hr), fun j hj => ?_⟩
    by_cases hji : j = i
    · subst hji; exact hy.wpOp hi trivial ⟨fun h => hS (by rwa [getD_set_ne true his] at h), H⟩
    · have h1 := H.2 j (ready_mono hj hji)
      obtain ⟨hjun, oj, hoj, hall⟩ := mem_ready.1 hj
      have hnot : ∀ e ∈ oj.after, Region.binds md e = true → e.on ≠ i := fun e he hb heq => by
        have h1 := hall e he hb
        have h0 := (mem_ready.1 hr).1
        rw [heq] at h1
        rcases Nat.lt_or_ge i listed.size with h' | h'
        · simp [h'] at h0 h1; rw [h0] at h1; cases h1
        · simp [Array.getElem?_eq_none h'] at h1
      have h2 := wpOp_putIf hoj (hfree j oj hoj hji hjun hnot) (fun cs b => hsel i oi cs b hi) (fun cs b => hsel j oj cs b hoj) hQ hy h1
      have hfree' : ∀ k ok, ops[k]? = some ok → k ≠ i → (listed.setIfInBounds j true).getD k true = false →
          (∀ e ∈ ok.after, Region.binds md e = true → e.on ≠ i) → oi.apart ops ok = true := fun k ok hk hki hun hno => by
        refine hfree k ok hk hki ?_ hno
        by_cases hjk : j = k
        · subst hjk; exact hjun
        · rw [getD_set_ne true hjk] at hun; exact hun
      have key : ∀ w', (((listed.setIfInBounds i true).setIfInBounds j true).getD s true = false → S w') → ((listed.setIfInBounds j true).getD s true = false → S w') := fun w' h hh => by
        apply h
        rw [Array.setIfInBounds_comm _ _ (Ne.symm hji), getD_set_ne true his]
        exact hh
      refine wpOp_mono (fun a' w' h3 => ⟨key w' h3.2.1, ih (listed.setIfInBounds j true) a' w' hfree' (ready_mono hr (Ne.symm hji)) h3.1 (key w' h3.2.1) ?_⟩) h2
      rw [Array.setIfInBounds_comm _ _ hji]
      exact h3.2.2

def waits (md : Region.Mode) (ops : Array Oper) (s i : Nat) : Bool := match ops[s]? with | none => true | some os => os.after.any (fun e => Region.binds md e && e.on == i)

/-- A load, or whatever yields under S, is taken first. -/
theorem take {i : Nat} {oi : Oper} {v : Value} {d : Option Tmp} {fuel : Nat} {listed : Array Bool} {a : Act} {w : World} (hi : ops[i]? = some oi) (hd : oi.dst = d)
    (hs : Region.noSelect ops = true) (hf : Region.free md ops listed i = true) (hr : (Region.ready md ops listed).contains i = true) (his : (i != s) = true) (hw8 : waits md ops s i = true) (hun : listed.getD s true = false)
    (hQ : ∀ c a w, Q (.panic c) (a.put oi.dst v) w → Q (.panic c) a w) (hy : YieldsIf P ops S oi v a) (hS : S w)
    (h : wpAnyG P md ops Q S s fuel (listed.setIfInBounds i true) (a.put d v) w) : wpAnyG P md ops Q S s (fuel + 1) listed a w := by
  subst hd
  exact wpAnyG_first hi (Region.noSelect_spec hs) hQ (by simpa using his) (fun os ho => by
    unfold waits at hw8
    rw [ho] at hw8
    simp only [Array.any_eq_true, Bool.and_eq_true, beq_iff_eq] at hw8
    obtain ⟨k, hk, h1, h2⟩ := hw8
    exact ⟨_, Array.getElem_mem hk, h1, h2⟩) fuel listed a w (Region.free_spec hi hf) (by simpa using hr) hun hy hS h

/-- What yields in every world is taken first. -/
theorem plain {i : Nat} {oi : Oper} {v : Value} {d : Option Tmp} {fuel : Nat} {listed : Array Bool} {a : Act} {w : World} (hi : ops[i]? = some oi) (hd : oi.dst = d)
    (hs : Region.noSelect ops = true) (hf : Region.free md ops listed i = true) (hr : (Region.ready md ops listed).contains i = true) (his : (i != s) = true)
    (hQ : ∀ c a w, Q (.panic c) (a.put oi.dst v) w → Q (.panic c) a w) (hy : YieldsIf P ops (fun _ => True) oi v a) (hS : listed.getD s true = false → S w)
    (h : wpAnyG P md ops Q S s fuel (listed.setIfInBounds i true) (a.put d v) w) : wpAnyG P md ops Q S s (fuel + 1) listed a w := by
  subst hd
  exact wpAnyG_plain hi (Region.noSelect_spec hs) hQ (by simpa using his) fuel listed a w (Region.free_spec hi hf) (by simpa using hr) hy hS h

/-- The one that may come up: a call. -/
theorem call {i : Nat} {oi : Oper} {d : Option Tmp} {fuel : Nat} {listed : Array Bool} {a : Act} {w : World} {f : FuncId} {args : Array Value} {R : Value → World → Prop} (hi : ops[i]? = some oi) (hd : oi.dst = d) (hr : Region.ready md ops listed = [i])
    (hw : Region.wanted oi (yielded ops a.tmps) = true) (hv : (execOp a.eval oi).run P w = .ok (.enter f args) w) (hc : Calls P f args w (fun e w'' => ∃ v, e = .returned v ∧ R v w''))
    (h : ∀ v w', R v w' → S w' ∧ wpAnyG P md ops Q S s fuel (listed.setIfInBounds i true) (a.put d v) w') : wpAnyG P md ops Q S s (fuel + 1) listed a w := by
  subst hd
  refine ⟨fun h0 => absurd (hr ▸ h0) (by simp), ?_⟩
  rw [hr]
  intro j hj
  rw [List.mem_singleton] at hj
  subst hj
  unfold wpOp
  simp only [hi, hw, if_true]
  refine .inl ?_
  unfold Oper.wp
  rw [hv]
  simp only [Oper.upon]
  refine hc.mono fun e w'' ⟨v, he, hR⟩ => ?_
  subst he
  exact ⟨fun _ => (h v w'' hR).1, (h v w'' hR).2⟩

/-- The one that may come up: a store, behind the loads. -/
theorem store {i : Nat} {oi : Oper} {d : Option Tmp} {fuel : Nat} {listed : Array Bool} {a : Act} {w w2 : World} (hi : ops[i]? = some oi) (hd : oi.dst = d) (hr : Region.ready md ops listed = [i]) (hl : (listed.setIfInBounds i true).getD s true = true)
    (hw : Region.wanted oi (yielded ops a.tmps) = true) (hv : (execOp a.eval oi).run P w = .ok .skip w2)
    (h : wpAnyG P md ops Q S s fuel (listed.setIfInBounds i true) (a.put d undef) w2) : wpAnyG P md ops Q S s (fuel + 1) listed a w := by
  subst hd
  refine ⟨fun h0 => absurd (hr ▸ h0) (by simp), ?_⟩
  rw [hr]
  intro j hj
  rw [List.mem_singleton] at hj
  subst hj
  unfold wpOp
  simp only [hi, hw, if_true]
  refine .inl ?_
  unfold Oper.wp
  rw [hv]
  simp only [Oper.upon]
  exact ⟨fun hh => (by rw [hl] at hh; cases hh), h⟩

/-- All have come up. -/
theorem done {listed : Array Bool} {a : Act} {w : World} (hr : Region.ready md ops listed = []) (h : Q .normal a w) :
    ∀ fuel, wpAnyG P md ops Q S s fuel listed a w
  | 0 => ⟨hr, h⟩
  | _ + 1 => ⟨fun _ => h, by rw [hr]; simp⟩

/-- The beginning. -/
theorem region {id : Nat} {l : List Oper} {a : Act} {w : World} (S : World → Prop) (s : Nat) (hm : P.follows .mixedOrders = true)
    (h : wpAnyG P .any l.toArray Q S s l.toArray.size (Array.replicate l.toArray.size false) a w.drew) : (Code.region id l.toArray true).wp P Q a w :=
  wp_region_any hm (wpAny_of_G _ _ _ _ h)
end
end HeldTo
end Go.Proofs.YtninglnchengeaaGreatDoor

/-
  HeldTo, where two operations may come up: a call or a store. No program's function.
-/
namespace Go.Proofs.YtninglnchengeaaGreatDoor
open Go.RowKit
set_option linter.unusedVariables false
namespace HeldTo

section
variable {P : Program} {ops : Array Oper} {Q : Exit → Act → World → Prop} {md : Region.Mode} {S : World → Prop} {s : Nat}

def Nx (P : Program) (md : Region.Mode) (ops : Array Oper) (Q : Exit → Act → World → Prop) (S : World → Prop) (s fuel : Nat) (listed : Array Bool) (i : Nat) (a : Act) (w : World) : Prop :=
  ((listed.setIfInBounds i true).getD s true = false → S w) ∧ wpAnyG P md ops Q S s fuel (listed.setIfInBounds i true) a w

/-- Either of two may come up. -/
theorem two {i j : Nat} {fuel : Nat} {listed : Array Bool} {a : Act} {w : World} (hr : Region.ready md ops listed = [i, j])
    (h1 : wpOp P ops Q i (Nx P md ops Q S s fuel listed i) a w) (h2 : wpOp P ops Q j (Nx P md ops Q S s fuel listed j) a w) : wpAnyG P md ops Q S s (fuel + 1) listed a w := by
  refine ⟨fun h0 => absurd (hr ▸ h0) (by simp), ?_⟩
  rw [hr]
  intro k hk
  simp only [List.mem_cons, List.not_mem_nil, or_false] at hk
  rcases hk with rfl | rfl
  · exact h1
  · exact h2
/-- One alone may come up. -/
theorem one {i : Nat} {fuel : Nat} {listed : Array Bool} {a : Act} {w : World} (hr : Region.ready md ops listed = [i])
    (h1 : wpOp P ops Q i (Nx P md ops Q S s fuel listed i) a w) : wpAnyG P md ops Q S s (fuel + 1) listed a w := by
  refine ⟨fun h0 => absurd (hr ▸ h0) (by simp), ?_⟩
  rw [hr]
  intro k hk
  simp only [List.mem_cons, List.not_mem_nil, or_false] at hk
  subst hk
  exact h1

/-- A call. -/
theorem opCall {i : Nat} {oi : Oper} {d : Option Tmp} {fuel : Nat} {listed : Array Bool} {a : Act} {w : World} {f : FuncId} {args : Array Value} {R : Value → World → Prop} (hi : ops[i]? = some oi) (hd : oi.dst = d)
    (hw : Region.wanted oi (yielded ops a.tmps) = true) (hv : (execOp a.eval oi).run P w = .ok (.enter f args) w) (hc : Calls P f args w (fun e w'' => ∃ v, e = .returned v ∧ R v w''))
    (h : ∀ v w', R v w' → S w' ∧ wpAnyG P md ops Q S s fuel (listed.setIfInBounds i true) (a.put d v) w') : wpOp P ops Q i (Nx P md ops Q S s fuel listed i) a w := by
  subst hd
  unfold wpOp
  simp only [hi, hw, if_true]
  refine .inl ?_
  unfold Oper.wp
  rw [hv]
  simp only [Oper.upon]
  refine hc.mono fun e w'' ⟨v, he, hR⟩ => ?_
  subst he
  exact ⟨fun _ => (h v w'' hR).1, (h v w'' hR).2⟩

/-- A value. -/
theorem opVal {i : Nat} {oi : Oper} {d : Option Tmp} {v : Value} {fuel : Nat} {listed : Array Bool} {a : Act} {w w2 : World} (hi : ops[i]? = some oi) (hd : oi.dst = d)
    (hw : Region.wanted oi (yielded ops a.tmps) = true) (hv : (execOp a.eval oi).run P w = .ok (.value v) w2) (hS : S w2)
    (h : wpAnyG P md ops Q S s fuel (listed.setIfInBounds i true) (a.put d v) w2) : wpOp P ops Q i (Nx P md ops Q S s fuel listed i) a w := by
  subst hd
  unfold wpOp
  simp only [hi, hw, if_true]
  refine .inl ?_
  unfold Oper.wp
  rw [hv]
  simp only [Oper.upon]
  exact ⟨fun _ => hS, h⟩

/-- A store. -/
theorem opStore {i : Nat} {oi : Oper} {d : Option Tmp} {fuel : Nat} {listed : Array Bool} {a : Act} {w w2 : World} (hi : ops[i]? = some oi) (hd : oi.dst = d)
    (hw : Region.wanted oi (yielded ops a.tmps) = true) (hv : (execOp a.eval oi).run P w = .ok .skip w2) (hS : S w2)
    (h : wpAnyG P md ops Q S s fuel (listed.setIfInBounds i true) (a.put d undef) w2) : wpOp P ops Q i (Nx P md ops Q S s fuel listed i) a w := by
  subst hd
  unfold wpOp
  simp only [hi, hw, if_true]
  refine .inl ?_
  unfold Oper.wp
  rw [hv]
  simp only [Oper.upon]
  exact ⟨fun _ => hS, h⟩
end
end HeldTo
end Go.Proofs.YtninglnchengeaaGreatDoor

/-
  append(append([]T{}, l...), x): its two makings and two appends, in whatever order they come: their runs. No program's function.
-/
namespace Go.Proofs.YtninglnchengeaaGreatDoor
open Go.RowKit Base
set_option linter.unusedVariables false
set_option linter.unusedSimpArgs false
namespace App2

theorem shape {w : World} {B : Nat} {e : TypeId} {k : Nat} {v : Value} {n : Nat} {xs : List Value} (h : w.ownsRow B e k v n xs) : ∃ a c, v = .slice a n c := by
  rcases h.2 with ⟨rfl, rfl⟩ | ⟨g, cap, cur, rfl, _⟩
  · exact ⟨none, 0, rfl⟩
  · exact ⟨_, _, rfl⟩

/-- append of a slice to a row of one's own: its run. -/
theorem runV {P : Program} {e t : TypeId} {k bytes : Nat} {z : Value} (ty : TypeId) (hk : 0 < k) (hinfo : (P.info? e).map (fun i => (i.zero, i.size, i.bytes)) = some (some z, k, bytes)) (ht : P.underlying t = some (.slice e)) (hzs : z.cells.size = k)
    (V : World) (B : Nat) (hB : B ≤ V.heap.size) (v : Value) (n : Nat) (vs : List (List Value)) (hown : V.ownsRow B e k v n vs.flatten) (ao : Option Addr) (m c : Nat) (us : List (List Value)) (hsl : SlT V k ao m c us) (hur : ∀ r ∈ us, r.length = k)
    (hu : ∀ u ∈ us.flatten, u.oneCell' = true) (hn : (n + m) * bytes ≤ 140737488355328) (hn' : n + m ≤ 9223372036854775807) :
    ∃ a' c' w1, (Builtin.append_ #[t, t] ty #[v, .slice ao m c]).run P V = .ok (.slice a' (n + m) c') w1 ∧ w1.ownsRow B e k (.slice a' (n + m) c') (n + m) (vs ++ us).flatten ∧ V.grownBy w1 v.ownBlock := by
  obtain ⟨i, hi, hz0, hz1, hz2⟩ := info_parts hinfo
  cases ao with
  | none =>
    obtain ⟨rfl, rfl⟩ := hsl.bare rfl
    have hus : us = [] := List.eq_nil_of_length_eq_zero hsl.len
    subst hus
    obtain ⟨a', c', rfl⟩ := shape hown
    exact ⟨a', c', V, run_append_owned_none (P := P) (w := V) B t ty e i k ht hi _ n _ hown, by simpa using hown, ⟨rfl, rfl, rfl, Nat.le_refl _, fun _ _ _ => rfl⟩⟩
  | some ad =>
    have hl : us.flatten.length = m * k := by rw [flat_len hur, hsl.len]
    obtain ⟨v', w1, hr, hown', hgrow, _, _⟩ := run_append_own_at (P := P) V B t ty e i z k bytes ht hi hz0 hz1 hz2 hzs hk v n vs.flatten hown ad m c us.flatten hl (hsl.flat hk) hu (by unfold maxLen; omega) hn hB
    obtain ⟨a', c', rfl⟩ := shape hown'
    exact ⟨a', c', w1, hr, by rw [List.flatten_append]; exact hown', hgrow⟩

theorem sl_grown {w w' : World} {k n c : Nat} {vs : List (List Value)} {g : Nat} (h : SlT w k (some ⟨g, 0, none⟩) n c vs) {ob : Option Nat} (hg : w.grownBy w' ob) (hne : some g ≠ ob) : SlT w' k (some ⟨g, 0, none⟩) n c vs :=
  ⟨h.len, h.cap, h.big, h.bare, fun i r hi => by
    obtain ⟨hl, b, o, ha, hs, hc⟩ := h.cell i r hi
    simp only [Option.some.injEq, Addr.mk.injEq] at ha
    obtain ⟨rfl, rfl, _⟩ := ha
    exact ⟨hl, g, 0, rfl, Nat.lt_of_lt_of_le hs hg.size, fun j x hx => (World.cell?_of_block (w := w) (a := ⟨g, 0 + i * k + j, none⟩) (hg.block g hs hne)).trans (hc j x hx)⟩⟩

theorem sl_one (w : World) (N : List Value) (e : TypeId) (k : Nat) (hN : N.length = k) : SlT (w.alloc (.cells N.toArray e)) k (some ⟨w.heap.size, 0, none⟩) 1 1 [N] :=
  ⟨rfl, Nat.le_refl _, by omega, fun h => (by cases h), fun i r hi => by
    obtain ⟨hi0, rfl⟩ := List.getElem?_eq_some_iff.1 hi
    have hi1 : i = 0 := by simp at hi0; omega
    subst hi1
    refine ⟨hN, w.heap.size, 0, rfl, by simp, fun j x hx => ?_⟩
    rw [World.cell?_alloc_new]
    simp at hx ⊢
    exact hx⟩

theorem exec_append {P : Program} {w : World} {o : Oper} {a : Act} {s x : Operand} {t : TypeId} {v vx v' : Value} {w' : World}
    (ho : o.op = .call { callee := .builtin .append, args := #[s, x], argTypes := #[t, t] }) (hs : a.eval s = v) (hx : a.eval x = vx)
    (hr : (Builtin.append_ #[t, t] o.type #[v, vx]).run P w = .ok v' w') : (execOp a.eval o).run P w = .ok (.value v') w' := by
  unfold execOp
  simp only [ho, resolve, invoke, builtin, Sem.run_bind, Sem.run_pure, Result.andThen_ok, List.map_toArray, List.map_cons, List.map_nil, hs, hx, hr]

def Good (U w : World) (B : Nat) (e : TypeId) (k m : Nat) (rows : List (List Value)) (A : Option Addr) (C : Nat) : Prop :=
  w.ownsRow B e k (.slice A (m + 1) C) (m + 1) rows.flatten ∧ Below B U w

theorem app2 {P : Program} {e t : TypeId} {k bytes : Nat} {z : Value} (ty : TypeId) (hk : 0 < k) (hinfo : (P.info? e).map (fun i => (i.zero, i.size, i.bytes)) = some (some z, k, bytes)) (ht : P.underlying t = some (.slice e)) (hzs : z.cells.size = k)
    (U : World) (ao : Option Addr) (m c : Nat) (us : List (List Value)) (hsl : SlT U k ao m c us) (hur : ∀ r ∈ us, r.length = k) (hu : ∀ u ∈ us.flatten, u.oneCell' = true)
    (N : List Value) (hN : N.length = k) (hN1 : ∀ u ∈ N, u.oneCell' = true) (hn : (m + 1) * bytes ≤ 140737488355328) (hn' : m + 1 ≤ 9223372036854775807) :
    (∃ A1 C1 w2, (Builtin.append_ #[t, t] ty #[.slice (some ⟨U.heap.size, 0, none⟩) 0 0, .slice ao m c]).run P (U.alloc (.cells #[] e)) = .ok (.slice A1 m C1) w2 ∧ Below U.heap.size U w2 ∧
      ∃ A2 C2 w4, (Builtin.append_ #[t, t] ty #[.slice A1 m C1, .slice (some ⟨w2.heap.size, 0, none⟩) 1 1]).run P (w2.alloc (.cells N.toArray e)) = .ok (.slice A2 (m + 1) C2) w4 ∧ Good U w4 U.heap.size e k m (us ++ [N]) A2 C2) ∧
    (∃ A1 C1 w2, (Builtin.append_ #[t, t] ty #[.slice (some ⟨U.heap.size, 0, none⟩) 0 0, .slice ao m c]).run P ((U.alloc (.cells #[] e)).alloc (.cells N.toArray e)) = .ok (.slice A1 m C1) w2 ∧ Below U.heap.size U w2 ∧
      ∃ A2 C2 w4, (Builtin.append_ #[t, t] ty #[.slice A1 m C1, .slice (some ⟨U.heap.size + 1, 0, none⟩) 1 1]).run P w2 = .ok (.slice A2 (m + 1) C2) w4 ∧ Good U w4 U.heap.size e k m (us ++ [N]) A2 C2) ∧
    (∃ A1 C1 w2, (Builtin.append_ #[t, t] ty #[.slice (some ⟨U.heap.size + 1, 0, none⟩) 0 0, .slice ao m c]).run P ((U.alloc (.cells N.toArray e)).alloc (.cells #[] e)) = .ok (.slice A1 m C1) w2 ∧ Below U.heap.size U w2 ∧
      ∃ A2 C2 w4, (Builtin.append_ #[t, t] ty #[.slice A1 m C1, .slice (some ⟨U.heap.size, 0, none⟩) 1 1]).run P w2 = .ok (.slice A2 (m + 1) C2) w4 ∧ Good U w4 U.heap.size e k m (us ++ [N]) A2 C2) := by
  have hm : (0 + m) * bytes ≤ 140737488355328 := by
    rw [Nat.zero_add]; exact Nat.le_trans (Nat.mul_le_mul_right _ (Nat.le_succ m)) hn
  have s1 : (U.alloc (.cells #[] e)).heap.size = U.heap.size + 1 := by simp
  have s2 : (U.alloc (.cells N.toArray e)).heap.size = U.heap.size + 1 := by simp
  have b1 : Below U.heap.size U (U.alloc (.cells #[] e)) := (Below.refl _ _).alloc (Nat.le_refl _) _
  have b2 : Below U.heap.size U (U.alloc (.cells N.toArray e)) := (Below.refl _ _).alloc (Nat.le_refl _) _
  have hone : ∀ u ∈ [N].flatten, u.oneCell' = true := fun u hu' => hN1 u (by simpa using hu')
  have hrow : ∀ r ∈ [N], r.length = k := fun r hr => by rw [List.mem_singleton.1 hr]; exact hN
  have o1 : (U.alloc (.cells #[] e)).ownsRow U.heap.size e k (.slice (some ⟨U.heap.size, 0, none⟩) 0 0) 0 ([] : List (List Value)).flatten :=
    World.ownsRow_lit U #[] 0 (Nat.le_refl _) (by unfold maxLen; omega) (by simp)
  have e1 : ∀ (v : Value) (ws : List (List Value)) (w : World), w.ownsRow U.heap.size e k v (0 + m) ([] ++ ws).flatten → w.ownsRow U.heap.size e k v m ws.flatten := fun v ws w h => by simpa using h
  refine ⟨?_, ?_, ?_⟩
  · obtain ⟨A1, C1, w2, r1, own1, g1⟩ := runV (P := P) ty hk hinfo ht hzs _ U.heap.size (by omega) _ 0 [] o1 ao m c us (hsl.next b1) hur hu hm (by omega)
    rw [Nat.zero_add] at r1 own1
    have bw2 : Below U.heap.size U w2 := b1.grown g1 (by omega) fun q hq => by simp [Value.ownBlock] at hq; omega
    have o2 : w2.ownsRow U.heap.size e k (.slice A1 m C1) m us.flatten := by simpa using own1
    obtain ⟨A2, C2, w4, r2, own2, g2⟩ := runV (P := P) ty hk hinfo ht hzs (w2.alloc (.cells N.toArray e)) U.heap.size (by simp; have := bw2.size; omega) _ m us (o2.alloc _) (some ⟨w2.heap.size, 0, none⟩) 1 1 [N] (sl_one w2 N e k hN) hrow hone hn hn'
    exact ⟨A1, C1, w2, r1, bw2, A2, C2, w4, r2, own2, (bw2.alloc bw2.size _).grown g2 (by simp; have := bw2.size; omega) fun q hq => (o2.lt q hq).1⟩
  · have o1' := o1.alloc (.cells N.toArray e)
    have hs2 : SlT ((U.alloc (.cells #[] e)).alloc (.cells N.toArray e)) k (some ⟨U.heap.size + 1, 0, none⟩) 1 1 [N] := by
      have h := sl_one (U.alloc (.cells #[] e)) N e k hN
      rw [s1] at h; exact h
    have b12 : Below U.heap.size U ((U.alloc (.cells #[] e)).alloc (.cells N.toArray e)) := b1.alloc (by omega) _
    obtain ⟨A1, C1, w2, r1, own1, g1⟩ := runV (P := P) ty hk hinfo ht hzs _ U.heap.size b12.size _ 0 [] o1' ao m c us (hsl.next b12) hur hu hm (by omega)
    rw [Nat.zero_add] at r1 own1
    have bw2 : Below U.heap.size U w2 := b12.grown g1 b12.size fun q hq => by simp [Value.ownBlock] at hq; omega
    have o2 : w2.ownsRow U.heap.size e k (.slice A1 m C1) m us.flatten := by simpa using own1
    have hs3 := sl_grown hs2 g1 (by simp [Value.ownBlock])
    obtain ⟨A2, C2, w4, r2, own2, g2⟩ := runV (P := P) ty hk hinfo ht hzs w2 U.heap.size bw2.size _ m us o2 (some ⟨U.heap.size + 1, 0, none⟩) 1 1 [N] hs3 hrow hone hn hn'
    exact ⟨A1, C1, w2, r1, bw2, A2, C2, w4, r2, own2, bw2.grown g2 bw2.size fun q hq => (o2.lt q hq).1⟩
  · have o1' : ((U.alloc (.cells N.toArray e)).alloc (.cells #[] e)).ownsRow U.heap.size e k (.slice (some ⟨U.heap.size + 1, 0, none⟩) 0 0) 0 ([] : List (List Value)).flatten := by
      have h := World.ownsRow_lit (base := U.heap.size) (size := k) (e := e) (U.alloc (.cells N.toArray e)) #[] 0 (by omega) (by unfold maxLen; omega) (by simp)
      rw [s2] at h; exact h
    have hs2 : SlT ((U.alloc (.cells N.toArray e)).alloc (.cells #[] e)) k (some ⟨U.heap.size, 0, none⟩) 1 1 [N] := (sl_one U N e k hN).next ((Below.refl _ _).alloc (Nat.le_refl _) _)
    have b12 : Below U.heap.size U ((U.alloc (.cells N.toArray e)).alloc (.cells #[] e)) := b2.alloc (by omega) _
    obtain ⟨A1, C1, w2, r1, own1, g1⟩ := runV (P := P) ty hk hinfo ht hzs _ U.heap.size b12.size _ 0 [] o1' ao m c us (hsl.next b12) hur hu hm (by omega)
    rw [Nat.zero_add] at r1 own1
    have bw2 : Below U.heap.size U w2 := b12.grown g1 b12.size fun q hq => by simp [Value.ownBlock] at hq; omega
    have o2 : w2.ownsRow U.heap.size e k (.slice A1 m C1) m us.flatten := by simpa using own1
    have hs3 := sl_grown hs2 g1 (by simp [Value.ownBlock])
    obtain ⟨A2, C2, w4, r2, own2, g2⟩ := runV (P := P) ty hk hinfo ht hzs w2 U.heap.size bw2.size _ m us o2 (some ⟨U.heap.size, 0, none⟩) 1 1 [N] hs3 hrow hone hn hn'
    exact ⟨A1, C1, w2, r1, bw2, A2, C2, w4, r2, own2, bw2.grown g2 bw2.size fun q hq => (o2.lt q hq).1⟩
/-- Elements of one cell. -/
theorem sl_t1 {w : World} {a : Option Addr} {n c : Nat} {vs : List Value} (h : Sl w a n c vs) : SlT w 1 a n c (vs.map fun v => [v]) :=
  ⟨by rw [List.length_map]; exact h.len, h.cap, h.big, h.bare, fun i r hi => by
    rw [List.getElem?_map, Option.map_eq_some_iff] at hi
    obtain ⟨v, hv, rfl⟩ := hi
    obtain ⟨b, o, ha, hs, hc⟩ := h.cell i v hv
    refine ⟨rfl, b, o, ha, hs, fun j x hx => ?_⟩
    have hj : j = 0 := by have := (List.getElem?_eq_some_iff.1 hx).1; simp at this; omega
    subst hj
    simp only [List.getElem?_cons_zero, Option.some.injEq] at hx
    subst hx
    rw [Nat.mul_one, Nat.add_zero]
    exact hc⟩
theorem flat1 (vs : List Value) : (vs.map fun v => [v]).flatten = vs := by
  induction vs with
  | nil => rfl
  | cons x r ih => rw [List.map_cons, List.flatten_cons, ih]; rfl
end App2
end Go.Proofs.YtninglnchengeaaGreatDoor

/-
  coi.Spread (written by spread2.py).
-/
namespace Go.Proofs.YtninglnchengeaaGreatDoor
open Go.RowKit Base
set_option linter.unusedVariables false
set_option linter.unusedSimpArgs false
namespace Spr
open Circuit StrashP

def firstB (t : Tri) : UInt8 := if t.2.2 = 1 then 49 else 48
def firstL (x : Circ) : List UInt8 := x.lats.map firstB
structure FirstI (x : Circ) (k : Nat) (R : List UInt8) : Prop where
  len : R.length = x.lats.length
  now : ∀ i, i < k → R[i]? = (x.lats[i]?).map firstB
  old : ∀ i, k ≤ i → i < x.lats.length → R[i]? = some 48
theorem first_start (x : Circ) : FirstI x 0 (List.replicate x.lats.length 48) := ⟨by simp, fun i h => by omega, fun i _ h => by rw [List.getElem?_replicate, if_pos h]⟩
theorem first_no {x : Circ} {k : Nat} {R : List UInt8} (h : FirstI x k R) (hk : k < x.lats.length) (h1 : x.lats[k].2.2 ≠ 1) : FirstI x (k + 1) R :=
  ⟨h.len, fun i hi => by
    by_cases e : i = k
    · subst e
      rw [h.old i (Nat.le_refl _) hk, List.getElem?_eq_getElem hk]
      show _ = some (firstB _)
      unfold firstB
      rw [if_neg h1]
    · exact h.now i (by omega), fun i hi hl => h.old i (by omega) hl⟩
theorem first_yes {x : Circ} {k : Nat} {R : List UInt8} (h : FirstI x k R) (hk : k < x.lats.length) (h1 : x.lats[k].2.2 = 1) : FirstI x (k + 1) (R.set k 49) := by
  have get : ∀ i : Nat, (R.set k 49)[i]? = if k = i then some 49 else R[i]? := fun i => by
    rw [List.getElem?_set]
    by_cases e : k = i
    · rw [if_pos e, if_pos e, if_pos (by rw [h.len]; omega)]
    · rw [if_neg e, if_neg e]
  refine ⟨by rw [List.length_set]; exact h.len, fun i hi => ?_, fun i hi hl => ?_⟩
  · rw [get]
    by_cases e : k = i
    · subst e
      rw [if_pos rfl, List.getElem?_eq_getElem hk]
      show _ = some (firstB _)
      unfold firstB
      rw [if_pos h1]
    · rw [if_neg e]; exact h.now i (by omega)
  · rw [get, if_neg (by omega)]; exact h.old i (by omega) hl
theorem first_end {x : Circ} {k : Nat} {R : List UInt8} (h : FirstI x k R) (hk : x.lats.length ≤ k) : R = firstL x := by
  refine List.ext_getElem? fun i => ?_
  unfold firstL
  rw [List.getElem?_map]
  by_cases hi : i < k
  · exact h.now i hi
  · rw [List.getElem?_eq_none (by rw [h.len]; omega), List.getElem?_eq_none (by omega)]; rfl
def OutsI (x y : Circ) (inp outs : List ByteArray) : Prop := ∀ (i : Nat) s o, inp[i]? = some s → outs[i]? = some o → ∃ R, o = ⟨R.toArray⟩ ∧ Among x.ins y.ins s.data.toList (List.replicate x.ins.length 48) R x.ins.length
theorem right_zero {x y : Circ} {st : ByteArray} {inp : List ByteArray} (h : rightE x y st inp = 0) : CheckOk x ∧ CheckOk y ∧ partB x y = true ∧ bitsB y st inp = true := by
  unfold rightE at h
  by_cases h1 : (tt (CheckOk x) && tt (CheckOk y)) = false
  · rw [if_pos h1] at h; omega
  · rw [if_neg h1] at h
    by_cases h2 : partB x y = false
    · rw [if_pos h2] at h; omega
    · rw [if_neg h2] at h
      by_cases h3 : bitsB y st inp = false
      · rw [if_pos h3] at h; omega
      · simp at h1 h2 h3
        have key : ∀ P : Prop, tt P = true → P := fun P hp => Classical.byContradiction fun hn => by rw [tt_neg hn] at hp; cases hp
        cases hx : tt (CheckOk x)
        · rw [hx] at h1; simp at h1
        · cases hy : tt (CheckOk y)
          · rw [hx, hy] at h1; simp at h1
          · exact ⟨key _ hx, key _ hy, by simpa using h2, by simpa using h3⟩
theorem bits_size {s : ByteArray} {n : Nat} (h : RefBits.bits s.data.toList (n : Int) = true) : s.size = n := by
  unfold RefBits.bits at h
  rw [Bool.and_eq_true, decide_eq_true_eq] at h
  have e : s.data.toList.length = s.size := by rw [Array.length_toList]; rfl
  have := h.2
  omega
theorem box_grown {N : Nat} {cs : List Value} {w w' : World} (h : BoxN N cs w) {row : Option Nat} (hg : w.grownBy w' row) (hne : some N ≠ row) : BoxN N cs w' := by
  have hblk := hg.block N h.lt hne
  refine ⟨Nat.lt_of_lt_of_le h.lt hg.size, fun j u hu => ?_, fun j => ?_⟩
  · exact (World.cell?_of_block (w := w) (a := ⟨N, j, none⟩) hblk).trans (h.at' j u hu)
  · exact (World.frozen?_of_block (w := w) (a := ⟨N, j, none⟩) hblk).trans (h.fz j)
theorem info_strS : (Tryz.prog.info? 9).map (fun i => (i.zero, i.size, i.bytes)) = some (some (.string ⟨#[]⟩), 1, 16) := by kernel_rfl

set_option maxRecDepth 8000 in
set_option maxHeartbeats 4000000 in
theorem spread_no (w : World) (x : Circ) (p : At) (hin : InCirc w x p) (hw : WfC x) (y : Circ) (q : At) (hiq : InCirc w y q) (hyw : WfC y) (bad : Int) (st : ByteArray) (hst : st.size ≤ 9223372036854775807)
    (aI : Option Addr) (cI : Nat) (inp : List ByteArray) (hI : Sl w aI inp.length cI (inp.map Value.string)) (hIz : ∀ s ∈ inp, s.size ≤ 9223372036854775807) (hno : rightE x y st inp ≠ 0) :
    Calls Tryz.prog 6 #[.agg (cells x p), .agg (cells y q), .agg #[.int .i64 bad, .string st, .slice aI inp.length cI]] w fun e w' => e = .returned (.tuple #[.agg #[.int .i64 0, .string ⟨#[]⟩, .slice none 0 0], .int .i64 (rightE x y st inp)]) ∧ Below w.heap.size w w' := by
  obtain ⟨W1, hW1⟩ : ∃ U, w.alloc (.cells (cells x p) 27) = U := ⟨_, rfl⟩
  obtain ⟨hb1, hx1⟩ := cbox_new w x p W1 hW1
  obtain ⟨W2, hW2⟩ : ∃ U, W1.alloc (.cells (cells y q) 27) = U := ⟨_, rfl⟩
  obtain ⟨hb2, hx2⟩ := cbox_new W1 y q W2 hW2
  obtain ⟨W3, hW3⟩ : ∃ U, W2.alloc (.cells #[.int .i64 bad, .string st, .slice aI inp.length cI] 30) = U := ⟨_, rfl⟩
  have hb3 : Below W2.heap.size W2 W3 := by rw [← hW3]; exact (Below.refl _ _).alloc (Nat.le_refl _) _
  have hx3 : BoxN W2.heap.size [.int .i64 bad, .string st, .slice aI inp.length cI] W3 := by rw [← hW3]; exact BoxN.new W2 _ _
  obtain ⟨W4, hW4⟩ : ∃ U, W3.alloc (.cells #[.int .i64 0, .string ⟨#[]⟩, .slice none 0 0] 30) = U := ⟨_, rfl⟩
  have hb4 : Below W3.heap.size W3 W4 := by rw [← hW4]; exact (Below.refl _ _).alloc (Nat.le_refl _) _
  have hx4 : BoxN W3.heap.size [.int .i64 0, .string ⟨#[]⟩, .slice none 0 0] W4 := by rw [← hW4]; exact BoxN.new W3 _ _
  have hb24 : Below W2.heap.size W2 W4 := hb3.trans (hb4.mono hb3.size)
  have hb14 : Below W1.heap.size W1 W4 := hb2.trans (hb24.mono hb2.size)
  have hb04 : Below w.heap.size w W4 := hb1.trans (hb14.mono hb1.size)
  have HB4 := Lib.hid hb04
  have hl1 : w.heap.size < W1.heap.size := hx1.lt
  have hl2 : W1.heap.size < W2.heap.size := hx2.lt
  have hl3 : W2.heap.size < W3.heap.size := hx3.lt
  have hl4 : W3.heap.size < W4.heap.size := hx4.lt
  have HLT := Lib.hid (And.intro hl1 (And.intro hl2 (And.intro hl3 hl4)))
  have HX := Lib.hid (fun (U : World) (hU : Below W4.heap.size W4 U) => (hx1.next hb14 (Nat.le_refl _)).next hU (Nat.le_refl _))
  have HY := Lib.hid (fun (U : World) (hU : Below W4.heap.size W4 U) => (hx2.next hb24 (Nat.le_refl _)).next hU (Nat.le_refl _))
  have HW := Lib.hid (fun (U : World) (hU : Below W4.heap.size W4 U) => (hx3.next hb4 hx3.lt).next hU (Nat.lt_of_lt_of_le hx3.lt hb4.size))
  have HZ := Lib.hid (fun (U : World) (hU : Below W4.heap.size W4 U) => hx4.next hU hx4.lt)
  have HIX := Lib.hid (fun (U : World) (hU : Below W4.heap.size W4 U) => hin.next (hb04.trans (hU.mono hb04.size)))
  have HIY := Lib.hid (fun (U : World) (hU : Below W4.heap.size W4 U) => hiq.next (hb04.trans (hU.mono hb04.size)))
  have HII := Lib.hid (fun (U : World) (hU : Below W4.heap.size W4 U) => hI.next (hb04.trans (hU.mono hb04.size)))
  have HRI := right_any W4 x p (hin.next hb04) hw y q (hiq.next hb04) hyw bad st hst aI cI inp (hI.next hb04) hIz
  have hcl := hin.lats.cap
  have hgl := hin.lats.big
  have hcI := hI.cap
  have hgI := hI.big
  obtain ⟨er, her⟩ : ∃ r, rightE x y st inp = r := ⟨_, rfl⟩
  rw [her] at HRI hno ⊢
  have hne : (er != 0) = true := by simpa using hno
  obtain ⟨a1, c1, a2, c2, a3, c3, a4, c4, a5, c5, a6, c6, a7, c7⟩ := p
  obtain ⟨b1, d1, b2, d2, b3, d3, b4, d4, b5, d5, b6, d6, b7, d7⟩ := q
  simp only [cells] at hW1 hW2 HRI ⊢
  have HR := Lib.hid HRI
  clear hin hw hiq hyw hst hI hIz hb1 hx1 hb2 hx2 hb3 hx3 hb4 hx4 hb24 hb14 hb04 HRI her hno hl1 hl2 hl3 hl4
  have c := HX.out W4 (Below.refl _ _)
  have k0 := c.k0
  have k1 := c.k1
  have k2 := c.k2
  have k3 := c.k3
  have k4 := c.k4
  have k5 := c.k5
  have k6 := c.k6
  have k7 := c.k7
  have d := HY.out W4 (Below.refl _ _)
  have j0 := d.k0
  have j1 := d.k1
  have j2 := d.k2
  have j3 := d.k3
  have j4 := d.k4
  have j5 := d.k5
  have j6 := d.k6
  have j7 := d.k7
  have e := HW.out W4 (Below.refl _ _)
  have v0 := e.at' 0 _ rfl
  have v1 := e.at' 1 _ rfl
  have v2 := e.at' 2 _ rfl
  clear c d e
  try simp only at k0 k1 k2 k3 k4 k5 k6 k7 j0 j1 j2 j3 j4 j5 j6 j7
  go_enter Tryz.func6, Tryz.ntmps6
  go_wp2_with fail
  clear hW1 hW2 hW3 hW4
  with_reducible refine HR.out.mono ?_
  rintro e w5 ⟨rfl, hb5⟩
  have HB5 := Lib.hid hb5
  have hz := HZ.out w5 hb5
  have y0 := hz.at' 0 _ rfl
  have y1 := hz.at' 1 _ rfl
  have y2 := hz.at' 2 _ rfl
  have z := hz.fz
  clear k0 k1 k2 k3 k4 k5 k6 k7 j0 j1 j2 j3 j4 j5 j6 j7 v0 v1 v2
  clear hb5 hz
  go_wp2_with fail
  refine bodyPost_ret (v := .tuple #[.agg #[.int .i64 0, .string ⟨#[]⟩, .slice none 0 0], .int .i64 er]) (by simp [results, Tryz.results6, go_sem, y0, y1, y2]) rfl ?_
  refine ⟨rfl, ?_⟩
  have ob : OffB W3.heap.size w5 _ := (((OffB.refl W3.heap.size w5).set 0 (.int .i64 0)).set 1 (.string ⟨#[]⟩)).set 2 (.slice none 0 0)
  exact ob.base (HB4.out.trans (HB5.out.mono HB4.out.size)) (Nat.le_trans HB4.out.size HB5.out.size) (by have := HLT.out; omega)

set_option maxRecDepth 8000 in
set_option maxHeartbeats 16000000 in
theorem spread_ok (w : World) (x : Circ) (p : At) (hin : InCirc w x p) (hw : WfC x) (y : Circ) (q : At) (hiq : InCirc w y q) (hyw : WfC y) (bad : Int) (st : ByteArray) (hst : st.size ≤ 9223372036854775807)
    (aI : Option Addr) (cI : Nat) (inp : List ByteArray) (hI : Sl w aI inp.length cI (inp.map Value.string)) (hIz : ∀ s ∈ inp, s.size ≤ 9223372036854775807) (hIL : inp.length * 16 ≤ 140737488351232) (hok : rightE x y st inp = 0) :
    Calls Tryz.prog 6 #[.agg (cells x p), .agg (cells y q), .agg #[.int .i64 bad, .string st, .slice aI inp.length cI]] w fun e w' => ∃ (R : List UInt8) (aO : Option Addr) (cO : Nat) (outs : List ByteArray), e = .returned (.tuple #[.agg #[.int .i64 bad, .string ⟨R.toArray⟩, .slice aO inp.length cO], .int .i64 0]) ∧ Among (x.lats.map (·.1)) (y.lats.map (·.1)) st.data.toList (firstL x) R x.lats.length ∧
      outs.length = inp.length ∧ OutsI x y inp outs ∧ Sl w' aO inp.length cO (outs.map Value.string) ∧ Below w.heap.size w w' := by
  obtain ⟨W1, hW1⟩ : ∃ U, w.alloc (.cells (cells x p) 27) = U := ⟨_, rfl⟩
  obtain ⟨hb1, hx1⟩ := cbox_new w x p W1 hW1
  obtain ⟨W2, hW2⟩ : ∃ U, W1.alloc (.cells (cells y q) 27) = U := ⟨_, rfl⟩
  obtain ⟨hb2, hx2⟩ := cbox_new W1 y q W2 hW2
  obtain ⟨W3, hW3⟩ : ∃ U, W2.alloc (.cells #[.int .i64 bad, .string st, .slice aI inp.length cI] 30) = U := ⟨_, rfl⟩
  have hb3 : Below W2.heap.size W2 W3 := by rw [← hW3]; exact (Below.refl _ _).alloc (Nat.le_refl _) _
  have hx3 : BoxN W2.heap.size [.int .i64 bad, .string st, .slice aI inp.length cI] W3 := by rw [← hW3]; exact BoxN.new W2 _ _
  obtain ⟨W4, hW4⟩ : ∃ U, W3.alloc (.cells #[.int .i64 0, .string ⟨#[]⟩, .slice none 0 0] 30) = U := ⟨_, rfl⟩
  have hb4 : Below W3.heap.size W3 W4 := by rw [← hW4]; exact (Below.refl _ _).alloc (Nat.le_refl _) _
  have hx4 : BoxN W3.heap.size [.int .i64 0, .string ⟨#[]⟩, .slice none 0 0] W4 := by rw [← hW4]; exact BoxN.new W3 _ _
  have hb24 : Below W2.heap.size W2 W4 := hb3.trans (hb4.mono hb3.size)
  have hb14 : Below W1.heap.size W1 W4 := hb2.trans (hb24.mono hb2.size)
  have hb04 : Below w.heap.size w W4 := hb1.trans (hb14.mono hb1.size)
  have HB4 := Lib.hid hb04
  have hl1 : w.heap.size < W1.heap.size := hx1.lt
  have hl2 : W1.heap.size < W2.heap.size := hx2.lt
  have hl3 : W2.heap.size < W3.heap.size := hx3.lt
  have hl4 : W3.heap.size < W4.heap.size := hx4.lt
  have HLT := Lib.hid (And.intro hl1 (And.intro hl2 (And.intro hl3 hl4)))
  have HX := Lib.hid (fun (U : World) (hU : Below W4.heap.size W4 U) => (hx1.next hb14 (Nat.le_refl _)).next hU (Nat.le_refl _))
  have HY := Lib.hid (fun (U : World) (hU : Below W4.heap.size W4 U) => (hx2.next hb24 (Nat.le_refl _)).next hU (Nat.le_refl _))
  have HW := Lib.hid (fun (U : World) (hU : Below W4.heap.size W4 U) => (hx3.next hb4 hx3.lt).next hU (Nat.lt_of_lt_of_le hx3.lt hb4.size))
  have HZ := Lib.hid (fun (U : World) (hU : Below W4.heap.size W4 U) => hx4.next hU hx4.lt)
  have HIX := Lib.hid (fun (U : World) (hU : Below W4.heap.size W4 U) => hin.next (hb04.trans (hU.mono hb04.size)))
  have HIY := Lib.hid (fun (U : World) (hU : Below W4.heap.size W4 U) => hiq.next (hb04.trans (hU.mono hb04.size)))
  have HII := Lib.hid (fun (U : World) (hU : Below W4.heap.size W4 U) => hI.next (hb04.trans (hU.mono hb04.size)))
  have HRI := right_any W4 x p (hin.next hb04) hw y q (hiq.next hb04) hyw bad st hst aI cI inp (hI.next hb04) hIz
  have hcl := hin.lats.cap
  have hgl := hin.lats.big
  have hcI := hI.cap
  have hgI := hI.big
  obtain ⟨hcx, hcy, hpt, hbt⟩ := right_zero hok
  rw [hok] at HRI
  have HLX : Hid (x.lats.length ≤ 1000000) := by show _ ≤ _; have := hcx.1.2.2.2.1; omega
  have HLY : Hid (y.lats.length ≤ 1000000) := by show _ ≤ _; have := hcy.1.2.2.2.1; omega
  have HLI : Hid (x.ins.length ≤ 1000000) := by show _ ≤ _; have := hcx.1.2.2.1; omega
  have hbt1 : RefBits.bits st.data.toList (y.lats.length : Int) = true ∧ (inp.all fun s => RefBits.bits s.data.toList (y.ins.length : Int)) = true := by
    unfold bitsB at hbt
    rwa [Bool.and_eq_true] at hbt
  have HSZ : Hid (st.size = y.lats.length) := bits_size hbt1.1
  have HIL : Hid (inp.length * 16 ≤ 140737488351232) := hIL
  have HIS : Hid (∀ s ∈ inp, s.size = y.ins.length) := fun s hs => bits_size (List.all_eq_true.1 hbt1.2 s hs)
  have HWX : Hid (∀ t ∈ x.lats, Circuit.I64 t.2.2) := fun t ht => (hw.lats t ht).2.2
  have hcn := hin.ins.cap
  have hgn := hin.ins.big
  have hcm := hiq.ins.cap
  have hgm := hiq.ins.big
  obtain ⟨a1, c1, a2, c2, a3, c3, a4, c4, a5, c5, a6, c6, a7, c7⟩ := p
  obtain ⟨b1, d1, b2, d2, b3, d3, b4, d4, b5, d5, b6, d6, b7, d7⟩ := q
  simp only [cells] at hW1 hW2 HRI ⊢
  simp only at hcl hgl hcn hgn hcm hgm
  have HR := Lib.hid HRI
  clear hin hw hiq hyw hst hI hIz hb1 hx1 hb2 hx2 hb3 hx3 hb4 hx4 hb24 hb14 hb04 HRI hok hIL hl1 hl2 hl3 hl4 hcx hcy hpt hbt hbt1
  have c := HX.out W4 (Below.refl _ _)
  have k0 := c.k0
  have k1 := c.k1
  have k2 := c.k2
  have k3 := c.k3
  have k4 := c.k4
  have k5 := c.k5
  have k6 := c.k6
  have k7 := c.k7
  have d := HY.out W4 (Below.refl _ _)
  have j0 := d.k0
  have j1 := d.k1
  have j2 := d.k2
  have j3 := d.k3
  have j4 := d.k4
  have j5 := d.k5
  have j6 := d.k6
  have j7 := d.k7
  have e := HW.out W4 (Below.refl _ _)
  have v0 := e.at' 0 _ rfl
  have v1 := e.at' 1 _ rfl
  have v2 := e.at' 2 _ rfl
  clear c d e
  try simp only at k0 k1 k2 k3 k4 k5 k6 k7 j0 j1 j2 j3 j4 j5 j6 j7
  go_enter Tryz.func6, Tryz.ntmps6
  go_wp2_with fail
  clear hW1 hW2 hW3 hW4
  with_reducible refine HR.out.mono ?_
  rintro e w5 ⟨rfl, hb5⟩
  have HB5 := Lib.hid hb5
  clear k0 k1 k2 k3 k4 k5 k6 k7 j0 j1 j2 j3 j4 j5 j6 j7 v0 v1 v2
  have c := HX.out w5 hb5
  have k2 := c.k2
  try simp only at k2
  clear c hb5
  have HZN := Lib.hid (zeros_any w5 x.lats.length HLX.out)
  go_wp2_with fail
  with_reducible refine HZN.out.mono ?_
  rintro e w6 ⟨g1, rfl, hg1, hge, hb6⟩
  have HG := Lib.hid hg1
  have HG0 : Hid (W4.heap.size ≤ g1) := Nat.le_trans HB5.out.size hge
  have HB6 := Lib.hid (HB5.out.trans (hb6.mono HB5.out.size))
  have HG16 : Hid (g1 < w6.heap.size) := hg1.lt
  have hg0 : W4.heap.size ≤ g1 := HG0.out
  have c := HX.out w6 HB6.out
  clear k2
  have k2 := c.k2
  try simp only at k2
  clear c hg1 hge hb6
  have HLA := Lib.hid (fun (U : World) (hU : Below W4.heap.size W4 U) => (HIX.out U hU).lats)
  go_wp2_with fail
  go_loopw [30] (fun i wr => ∃ (k : Nat) (R : List UInt8), k ≤ x.lats.length ∧ i = .int .i64 k ∧ Hid (FirstI x k R) ∧ Hid (BoxN g1 (bytesL R) wr) ∧ Hid (Below W4.heap.size W4 wr) ∧ Hid (w6.heap.size ≤ wr.heap.size)) (fun i _ => x.lats.length - (Go.RowKit.intOf i).toNat)
  case atStart => exact ⟨0, List.replicate x.lats.length 48, Nat.zero_le _, rfl, first_start x, HG.out, HB6.out, Nat.le_refl _⟩
  case round =>
    clear HG
    obtain ⟨k, R, hk, rfl, hF, hX, hB, hS⟩ := hrel
    by_cases hlt : k < x.lats.length
    · obtain ⟨b, o, hx, hae, hbs, f0, f1, f2⟩ := (HLA.out wr hB.out).tri hlt
      try simp only at hae
      subst hae
      have HFN := Lib.hid (first_no hF.out hx)
      have HFY := Lib.hid (first_yes hF.out hx)
      have hkR : k < R.length := by rw [hF.out.len]; exact hlt
      obtain ⟨v0, hv0⟩ : ∃ v, R[k]? = some v := ⟨_, List.getElem?_eq_getElem hkR⟩
      generalize x.lats[k] = t at *
      obtain ⟨w7, hw7⟩ : ∃ U, wr.alloc (.cells #[.int .i64 t.1, .int .i64 t.2.1, .int .i64 t.2.2] 37) = U := ⟨_, rfl⟩
      have hb7 : Below wr.heap.size wr w7 := by rw [← hw7]; exact (Below.refl _ _).alloc (Nat.le_refl _) _
      have hX7 := hX.out.next hb7 hX.out.lt
      have e0 := hX7.at' k _ (bytesL_get hv0)
      have z0 := hX7.fz k
      have HX7 := Lib.hid hX7
      have HB7 := Lib.hid (hB.out.trans (hb7.mono hB.out.size))
      have HS7 : Hid (w6.heap.size ≤ w7.heap.size) := Nat.le_trans hS.out hb7.size
      have y2 : w7.cell? ⟨wr.heap.size, 2, none⟩ = some (.int .i64 t.2.2) := by rw [← hw7]; simp [go_sem]
      have HW7 := Lib.hid hw7
      clear hb7 hX7 hw7 hkR hv0
      go_upto_region 8 with fail
      try rw [HW7.out]
      by_cases h1 : t.2.2 = 1
      · have h1b : (t.2.2 == 1) = true := by simpa using h1
        have HF2 := Lib.hid (HFY.out h1)
        have HX8 : Hid (BoxN g1 (bytesL (R.set k 49)) (w7.setCell ⟨g1, k, none⟩ (.int .u8 49))) := by
          have h := HX7.out.set k (.int .u8 ((49 : UInt8).toNat : Int))
          rw [bytesL_set] at h
          exact h
        have HB8 := Lib.hid (HB7.out.setCell (p := ⟨g1, k, none⟩) hg0 (.int .u8 49))
        clear h1 HFN HFY
        go_wp2_with fail
        go_roundw
        case rel => exact ⟨k + 1, R.set k 49, by omega, by go_num, HF2.out, HX8.out, HB8.out, by show _ ≤ _; simpa [World.setCell] using HS7.out⟩
        case measure => simp [Go.RowKit.intOf]; omega
      · have h1b : (t.2.2 == 1) = false := by simpa using h1
        have HF2 := Lib.hid (HFN.out h1)
        clear h1 HFN HFY
        go_wp2_with fail
        go_roundw
        case rel => exact ⟨k + 1, R, by omega, by go_num, HF2.out, HX7.out, HB7.out, HS7.out⟩
        case measure => simp [Go.RowKit.intOf]; omega
    · have hend : R = firstL x := first_end hF.out (by omega)
      subst hend
      have HG1 : Hid (g1 < wr.heap.size) := hX.out.lt
      clear hF k2
      generalize wr = w7 at *
      go_upto_region 11 with fail
      go_cut [12] from 42 to 53 (fun u12 wx => ∃ (N : Nat) (R : List UInt8), u12 = .pointer (some ⟨N, 0, none⟩) ∧ Hid (W4.heap.size ≤ N) ∧ Hid (Among (x.lats.map (·.1)) (y.lats.map (·.1)) st.data.toList (firstL x) R x.lats.length) ∧ Hid (BoxN N [.int .i64 bad, .string ⟨R.toArray⟩, .slice none 0 0] wx) ∧ Hid (Below W4.heap.size W4 wx))
      case first =>
        have hSK : ∀ U : World, Below W4.heap.size W4 U → U.cell? ⟨w.heap.size, 0, none⟩ = some (.int .i64 x.max) ∧ U.cell? ⟨w.heap.size, 1, none⟩ = some (.slice a1 x.ins.length c1) ∧ U.cell? ⟨w.heap.size, 2, none⟩ = some (.slice a2 x.lats.length c2) ∧ U.cell? ⟨w.heap.size, 3, none⟩ = some (.slice a3 x.outs.length c3) ∧ U.cell? ⟨w.heap.size, 4, none⟩ = some (.slice a4 x.bads.length c4) ∧ U.cell? ⟨w.heap.size, 5, none⟩ = some (.slice a5 x.invs.length c5) ∧ U.cell? ⟨w.heap.size, 6, none⟩ = some (.slice a6 x.ands.length c6) ∧ U.cell? ⟨w.heap.size, 7, none⟩ = some (.slice a7 x.names.length c7) ∧ U.cell? ⟨W1.heap.size, 0, none⟩ = some (.int .i64 y.max) ∧ U.cell? ⟨W1.heap.size, 1, none⟩ = some (.slice b1 y.ins.length d1) ∧ U.cell? ⟨W1.heap.size, 2, none⟩ = some (.slice b2 y.lats.length d2) ∧ U.cell? ⟨W1.heap.size, 3, none⟩ = some (.slice b3 y.outs.length d3) ∧ U.cell? ⟨W1.heap.size, 4, none⟩ = some (.slice b4 y.bads.length d4) ∧ U.cell? ⟨W1.heap.size, 5, none⟩ = some (.slice b5 y.invs.length d5) ∧ U.cell? ⟨W1.heap.size, 6, none⟩ = some (.slice b6 y.ands.length d6) ∧ U.cell? ⟨W1.heap.size, 7, none⟩ = some (.slice b7 y.names.length d7) ∧ U.cell? ⟨W2.heap.size, 0, none⟩ = some (.int .i64 bad) ∧ U.cell? ⟨W2.heap.size, 1, none⟩ = some (.string st) ∧ U.cell? ⟨W2.heap.size, 2, none⟩ = some (.slice aI inp.length cI) := fun U hU => by
          have c := HX.out U hU
          have d := HY.out U hU
          have e := HW.out U hU
          exact ⟨c.k0, c.k1, c.k2, c.k3, c.k4, c.k5, c.k6, c.k7, d.k0, d.k1, d.k2, d.k3, d.k4, d.k5, d.k6, d.k7, e.at' 0 _ rfl, e.at' 1 _ rfl, e.at' 2 _ rfl⟩
        have bb := hB.out.trans (Below.refl _ _).drew
        have bg := hX.out.next (Below.refl _ _).drew hX.out.lt
        have hu7 : w7.heap.size ≤ w7.drew.heap.size := Nat.le_refl _
        have hS0 := hSK _ bb
        refine HeldTo.region (fun U : World => U.cell? ⟨w.heap.size, 0, none⟩ = some (.int .i64 x.max) ∧ U.cell? ⟨w.heap.size, 1, none⟩ = some (.slice a1 x.ins.length c1) ∧ U.cell? ⟨w.heap.size, 2, none⟩ = some (.slice a2 x.lats.length c2) ∧ U.cell? ⟨w.heap.size, 3, none⟩ = some (.slice a3 x.outs.length c3) ∧ U.cell? ⟨w.heap.size, 4, none⟩ = some (.slice a4 x.bads.length c4) ∧ U.cell? ⟨w.heap.size, 5, none⟩ = some (.slice a5 x.invs.length c5) ∧ U.cell? ⟨w.heap.size, 6, none⟩ = some (.slice a6 x.ands.length c6) ∧ U.cell? ⟨w.heap.size, 7, none⟩ = some (.slice a7 x.names.length c7) ∧ U.cell? ⟨W1.heap.size, 0, none⟩ = some (.int .i64 y.max) ∧ U.cell? ⟨W1.heap.size, 1, none⟩ = some (.slice b1 y.ins.length d1) ∧ U.cell? ⟨W1.heap.size, 2, none⟩ = some (.slice b2 y.lats.length d2) ∧ U.cell? ⟨W1.heap.size, 3, none⟩ = some (.slice b3 y.outs.length d3) ∧ U.cell? ⟨W1.heap.size, 4, none⟩ = some (.slice b4 y.bads.length d4) ∧ U.cell? ⟨W1.heap.size, 5, none⟩ = some (.slice b5 y.invs.length d5) ∧ U.cell? ⟨W1.heap.size, 6, none⟩ = some (.slice b6 y.ands.length d6) ∧ U.cell? ⟨W1.heap.size, 7, none⟩ = some (.slice b7 y.names.length d7) ∧ U.cell? ⟨W2.heap.size, 0, none⟩ = some (.int .i64 bad) ∧ U.cell? ⟨W2.heap.size, 1, none⟩ = some (.string st) ∧ U.cell? ⟨W2.heap.size, 2, none⟩ = some (.slice aI inp.length cI)) 12 (by kernel_rfl) ?_
        obtain ⟨u0, hu0⟩ : ∃ U, w7.drew = U := ⟨_, rfl⟩
        rw [hu0] at bb bg hu7 hS0 ⊢
        (refine HeldTo.plain (i := 0) (oi := _) (d := some 42) (v := ?_) rfl rfl (by kernel_rfl) (by kernel_rfl) (by kernel_rfl) (by kernel_rfl) (fun _ _ _ h => h) (Or.inl ⟨by rfl, ?_⟩) (fun _ => hS0) ?_; rotate_left; (focus (intro w hSw; clear hSw; go_simp; (try with_reducible rfl); done)); (try simp only [Act.put, List.setIfInBounds_toArray, List.set_cons_zero, List.set_cons_succ]))
        (refine HeldTo.take (i := 1) (oi := _) (d := some 43) (v := ?_) rfl rfl (by kernel_rfl) (by kernel_rfl) (by kernel_rfl) (by kernel_rfl) (by kernel_rfl) (by kernel_rfl) (fun _ _ _ h => h) (Or.inl ⟨by rfl, ?_⟩) hS0 ?_; rotate_left; (focus (intro w hSw; (try dsimp only at hSw); go_simp; (try with_reducible rfl); done)); (try simp only [Act.put, List.setIfInBounds_toArray, List.set_cons_zero, List.set_cons_succ]))
        (refine HeldTo.take (i := 2) (oi := _) (d := some 44) (v := ?_) rfl rfl (by kernel_rfl) (by kernel_rfl) (by kernel_rfl) (by kernel_rfl) (by kernel_rfl) (by kernel_rfl) (fun _ _ _ h => h) (Or.inl ⟨by rfl, ?_⟩) hS0 ?_; rotate_left; (focus (intro w hSw; (try dsimp only at hSw); go_simp; (try with_reducible rfl); done)); (try simp only [Act.put, List.setIfInBounds_toArray, List.set_cons_zero, List.set_cons_succ]))
        (refine HeldTo.take (i := 4) (oi := _) (d := some 46) (v := ?_) rfl rfl (by kernel_rfl) (by kernel_rfl) (by kernel_rfl) (by kernel_rfl) (by kernel_rfl) (by kernel_rfl) (fun _ _ _ h => h) (Or.inl ⟨by rfl, ?_⟩) hS0 ?_; rotate_left; (focus (intro w hSw; (try dsimp only at hSw); go_simp; (try with_reducible rfl); done)); (try simp only [Act.put, List.setIfInBounds_toArray, List.set_cons_zero, List.set_cons_succ]))
        (refine HeldTo.plain (i := 6) (oi := _) (d := some 48) (v := ?_) rfl rfl (by kernel_rfl) (by kernel_rfl) (by kernel_rfl) (by kernel_rfl) (fun _ _ _ h => h) (Or.inl ⟨by rfl, ?_⟩) (fun _ => hS0) ?_; rotate_left; (focus (intro w hSw; clear hSw; go_simp; (try with_reducible rfl); done)); (try simp only [Act.put, List.setIfInBounds_toArray, List.set_cons_zero, List.set_cons_succ]))
        (refine HeldTo.take (i := 7) (oi := _) (d := some 49) (v := ?_) rfl rfl (by kernel_rfl) (by kernel_rfl) (by kernel_rfl) (by kernel_rfl) (by kernel_rfl) (by kernel_rfl) (fun _ _ _ h => h) (Or.inl ⟨by rfl, ?_⟩) hS0 ?_; rotate_left; (focus (intro w hSw; (try dsimp only at hSw); go_simp; (try with_reducible rfl); done)); (try simp only [Act.put, List.setIfInBounds_toArray, List.set_cons_zero, List.set_cons_succ]))
        (refine HeldTo.plain (i := 8) (oi := _) (d := some 50) (v := ?_) rfl rfl (by kernel_rfl) (by kernel_rfl) (by kernel_rfl) (by kernel_rfl) (fun _ _ _ h => h) (Or.inl ⟨by rfl, ?_⟩) (fun _ => hS0) ?_; rotate_left; (focus (intro w hSw; clear hSw; go_simp; (try with_reducible rfl); done)); (try simp only [Act.put, List.setIfInBounds_toArray, List.set_cons_zero, List.set_cons_succ]))
        refine HeldTo.two (i := 3) (j := 11) (by kernel_rfl) ?_ ?_
        · skip
          have hll := latchLits_any u0 x ⟨a1, c1, a2, c2, a3, c3, a4, c4, a5, c5, a6, c6, a7, c7⟩ (HIX.out u0 bb) HLX.out
          simp only [cells] at hll
          refine HeldTo.opCall (i := 3) (oi := _) (d := some 45) (R := fun v w' => ∃ a c, v = .slice a x.lats.length c ∧ w'.ownsRow u0.heap.size 3 1 (.slice a x.lats.length c) x.lats.length (ints (x.lats.map (·.1))) ∧ Below u0.heap.size u0 w') rfl rfl (by rfl) (by go_simp; done) (hll.mono fun e w' h => by obtain ⟨a, c, he, ho, hb⟩ := h; exact ⟨_, he, a, c, rfl, ho, hb⟩) ?_
          rintro v u1 ⟨xa, xc, rfl, xo, su⟩
          have xo := own_mono xo hu7
          have hu7 := Nat.le_trans hu7 su.size
          have bb := bb.trans (su.mono bb.size)
          have bg := bg.next su bg.lt
          refine ⟨hSK _ bb, ?_⟩
          (try simp only [Act.put, List.setIfInBounds_toArray, List.set_cons_zero, List.set_cons_succ])
          have hS0 := hSK _ bb
          clear su hll
          refine HeldTo.two (i := 5) (j := 11) (by kernel_rfl) ?_ ?_
          · skip
            have hll := latchLits_any u1 y ⟨b1, d1, b2, d2, b3, d3, b4, d4, b5, d5, b6, d6, b7, d7⟩ (HIY.out u1 bb) HLY.out
            simp only [cells] at hll
            refine HeldTo.opCall (i := 5) (oi := _) (d := some 47) (R := fun v w' => ∃ a c, v = .slice a y.lats.length c ∧ w'.ownsRow u1.heap.size 3 1 (.slice a y.lats.length c) y.lats.length (ints (y.lats.map (·.1))) ∧ Below u1.heap.size u1 w') rfl rfl (by rfl) (by go_simp; done) (hll.mono fun e w' h => by obtain ⟨a, c, he, ho, hb⟩ := h; exact ⟨_, he, a, c, rfl, ho, hb⟩) ?_
            rintro v u2 ⟨ya, yc, rfl, yo, su⟩
            have yo := own_mono yo hu7
            have hu7 := Nat.le_trans hu7 su.size
            have bb := bb.trans (su.mono bb.size)
            have bg := bg.next su bg.lt
            have xo := own_next xo su
            refine ⟨hSK _ bb, ?_⟩
            (try simp only [Act.put, List.setIfInBounds_toArray, List.set_cons_zero, List.set_cons_succ])
            have hS0 := hSK _ bb
            clear su hll
            refine HeldTo.two (i := 9) (j := 11) (by kernel_rfl) ?_ ?_
            · skip
              have hsp := spread_any u2 xa xc (x.lats.map (·.1)) (by rw [List.length_map]; exact own_sl' xo) ya yc (y.lats.map (·.1)) (by rw [List.length_map]; exact own_sl' yo) st (by rw [List.length_map]; exact HSZ.out) g1 (firstL x) bg (by simp [firstL]) (fun b o e _ => by have := (xo.lt b (by rw [e]; rfl)).1; have := HG1.out; omega) (fun b o e _ => by have := (yo.lt b (by rw [e]; rfl)).1; have := HG1.out; omega) (by rw [List.length_map]; exact HLX.out)
              simp only [List.length_map] at hsp
              refine HeldTo.opCall (i := 9) (oi := _) (d := some 51) (R := fun v w' => ∃ R, v = .string ⟨R.toArray⟩ ∧ Among (x.lats.map (·.1)) (y.lats.map (·.1)) st.data.toList (firstL x) R x.lats.length ∧ OffB g1 u2 w') rfl rfl (by rfl) (by go_simp; done) (hsp.mono fun e w' h => by obtain ⟨R, he, h1, h2⟩ := h; exact ⟨_, he, R, rfl, h1, h2⟩) ?_
              rintro v u3 ⟨R9, rfl, hAm, ob⟩
              have bb0 := bb.size
              have bb := ob.base bb bb0 HG0.out
              have hu7 := Nat.le_trans hu7 ob.size
              refine ⟨hSK _ bb, ?_⟩
              (try simp only [Act.put, List.setIfInBounds_toArray, List.set_cons_zero, List.set_cons_succ])
              have hS0 := hSK _ bb
              clear ob hsp bb0 xo yo bg
              (refine HeldTo.take (i := 10) (oi := _) (d := some 52) (v := ?_) rfl rfl (by kernel_rfl) (by kernel_rfl) (by kernel_rfl) (by kernel_rfl) (by kernel_rfl) (by kernel_rfl) (fun _ _ _ h => h) (Or.inl ⟨by rfl, ?_⟩) hS0 ?_; rotate_left; (focus (intro w hSw; clear hSw; go_simp; (try with_reducible rfl); done)); (try simp only [Act.put, List.setIfInBounds_toArray, List.set_cons_zero, List.set_cons_succ]))
              refine HeldTo.one (i := 11) (by kernel_rfl) ?_
              obtain ⟨u4, hv⟩ : ∃ V, u3.alloc (.cells #[.int .i64 0, .string ⟨#[]⟩, .slice none 0 0] 30) = V := ⟨_, rfl⟩
              have su : Below u3.heap.size u3 u4 := by rw [← hv]; exact (Below.refl _ _).alloc (Nat.le_refl _) _
              have bn : BoxN u3.heap.size [.int .i64 0, .string ⟨#[]⟩, .slice none 0 0] u4 := by rw [← hv]; exact BoxN.new u3 _ _
              have hN9 : W4.heap.size ≤ u3.heap.size := bb.size
              have hNg : u3.heap.size ≠ g1 := by have := HG1.out; omega
              refine HeldTo.opVal (i := 11) (oi := _) (d := some 12) (v := .pointer (some ⟨u3.heap.size, 0, none⟩)) (w2 := u4) rfl rfl (by rfl) (by rw [← hv]; go_simp; done) (hSK _ (bb.trans (su.mono bb.size))) ?_
              (try simp only [Act.put, List.setIfInBounds_toArray, List.set_cons_zero, List.set_cons_succ])
              have hu7 := Nat.le_trans hu7 su.size
              have bb := bb.trans (su.mono bb.size)
              generalize hNN : u3.heap.size = N9 at bn hN9 hNg ⊢
              have hS0 := hSK _ bb
              clear su hNN hv
              have y0 := bn.at' 0 _ rfl
              have y1 := bn.at' 1 _ rfl
              have y2 := bn.at' 2 _ rfl
              have z := bn.fz
              refine HeldTo.store (i := 12) (oi := _) (d := none) (w2 := ((u4.setCell ⟨N9, 0, none⟩ (.int .i64 bad)).setCell ⟨N9, 1, none⟩ (.string ⟨R9.toArray⟩)).setCell ⟨N9, 2, none⟩ (.slice none 0 0)) rfl rfl (by kernel_rfl) (by kernel_rfl) (by rfl) (by go_simp; done) ?_
              (try simp only [Act.put, List.setIfInBounds_toArray, List.set_cons_zero, List.set_cons_succ])
              refine HeldTo.done (by kernel_rfl) ?_ _
              (try go_wp2_with fail)
              go_meet
              exact ⟨N9, R9, rfl, hN9, hAm, ((bn.set 0 (.int .i64 bad)).set 1 (.string ⟨R9.toArray⟩)).set 2 (.slice none 0 0), ((bb.setCell (p := ⟨N9, 0, none⟩) hN9 _).setCell (p := ⟨N9, 1, none⟩) hN9 _).setCell (p := ⟨N9, 2, none⟩) hN9 _⟩
            · skip
              obtain ⟨u5, hv⟩ : ∃ V, u2.alloc (.cells #[.int .i64 0, .string ⟨#[]⟩, .slice none 0 0] 30) = V := ⟨_, rfl⟩
              have su : Below u2.heap.size u2 u5 := by rw [← hv]; exact (Below.refl _ _).alloc (Nat.le_refl _) _
              have bn : BoxN u2.heap.size [.int .i64 0, .string ⟨#[]⟩, .slice none 0 0] u5 := by rw [← hv]; exact BoxN.new u2 _ _
              have hN9 : W4.heap.size ≤ u2.heap.size := bb.size
              have hNg : u2.heap.size ≠ g1 := by have := HG1.out; omega
              refine HeldTo.opVal (i := 11) (oi := _) (d := some 12) (v := .pointer (some ⟨u2.heap.size, 0, none⟩)) (w2 := u5) rfl rfl (by rfl) (by rw [← hv]; go_simp; done) (hSK _ (bb.trans (su.mono bb.size))) ?_
              (try simp only [Act.put, List.setIfInBounds_toArray, List.set_cons_zero, List.set_cons_succ])
              have hu7 := Nat.le_trans hu7 su.size
              have bb := bb.trans (su.mono bb.size)
              have bg := bg.next su bg.lt
              have xo := own_next xo su
              have yo := own_next yo su
              generalize hNN : u2.heap.size = N9 at bn hN9 hNg ⊢
              have hS0 := hSK _ bb
              clear su hNN hv
              refine HeldTo.one (i := 9) (by kernel_rfl) ?_
              have hsp := spread_any u5 xa xc (x.lats.map (·.1)) (by rw [List.length_map]; exact own_sl' xo) ya yc (y.lats.map (·.1)) (by rw [List.length_map]; exact own_sl' yo) st (by rw [List.length_map]; exact HSZ.out) g1 (firstL x) bg (by simp [firstL]) (fun b o e _ => by have := (xo.lt b (by rw [e]; rfl)).1; have := HG1.out; omega) (fun b o e _ => by have := (yo.lt b (by rw [e]; rfl)).1; have := HG1.out; omega) (by rw [List.length_map]; exact HLX.out)
              simp only [List.length_map] at hsp
              refine HeldTo.opCall (i := 9) (oi := _) (d := some 51) (R := fun v w' => ∃ R, v = .string ⟨R.toArray⟩ ∧ Among (x.lats.map (·.1)) (y.lats.map (·.1)) st.data.toList (firstL x) R x.lats.length ∧ OffB g1 u5 w') rfl rfl (by rfl) (by go_simp; done) (hsp.mono fun e w' h => by obtain ⟨R, he, h1, h2⟩ := h; exact ⟨_, he, R, rfl, h1, h2⟩) ?_
              rintro v u6 ⟨R9, rfl, hAm, ob⟩
              have bb0 := bb.size
              have bb := ob.base bb bb0 HG0.out
              have bn := ob.box bn hNg
              have hu7 := Nat.le_trans hu7 ob.size
              refine ⟨hSK _ bb, ?_⟩
              (try simp only [Act.put, List.setIfInBounds_toArray, List.set_cons_zero, List.set_cons_succ])
              have hS0 := hSK _ bb
              clear ob hsp bb0 xo yo bg
              (refine HeldTo.take (i := 10) (oi := _) (d := some 52) (v := ?_) rfl rfl (by kernel_rfl) (by kernel_rfl) (by kernel_rfl) (by kernel_rfl) (by kernel_rfl) (by kernel_rfl) (fun _ _ _ h => h) (Or.inl ⟨by rfl, ?_⟩) hS0 ?_; rotate_left; (focus (intro w hSw; clear hSw; go_simp; (try with_reducible rfl); done)); (try simp only [Act.put, List.setIfInBounds_toArray, List.set_cons_zero, List.set_cons_succ]))
              have y0 := bn.at' 0 _ rfl
              have y1 := bn.at' 1 _ rfl
              have y2 := bn.at' 2 _ rfl
              have z := bn.fz
              refine HeldTo.store (i := 12) (oi := _) (d := none) (w2 := ((u6.setCell ⟨N9, 0, none⟩ (.int .i64 bad)).setCell ⟨N9, 1, none⟩ (.string ⟨R9.toArray⟩)).setCell ⟨N9, 2, none⟩ (.slice none 0 0)) rfl rfl (by kernel_rfl) (by kernel_rfl) (by rfl) (by go_simp; done) ?_
              (try simp only [Act.put, List.setIfInBounds_toArray, List.set_cons_zero, List.set_cons_succ])
              refine HeldTo.done (by kernel_rfl) ?_ _
              (try go_wp2_with fail)
              go_meet
              exact ⟨N9, R9, rfl, hN9, hAm, ((bn.set 0 (.int .i64 bad)).set 1 (.string ⟨R9.toArray⟩)).set 2 (.slice none 0 0), ((bb.setCell (p := ⟨N9, 0, none⟩) hN9 _).setCell (p := ⟨N9, 1, none⟩) hN9 _).setCell (p := ⟨N9, 2, none⟩) hN9 _⟩
          · skip
            obtain ⟨u7, hv⟩ : ∃ V, u1.alloc (.cells #[.int .i64 0, .string ⟨#[]⟩, .slice none 0 0] 30) = V := ⟨_, rfl⟩
            have su : Below u1.heap.size u1 u7 := by rw [← hv]; exact (Below.refl _ _).alloc (Nat.le_refl _) _
            have bn : BoxN u1.heap.size [.int .i64 0, .string ⟨#[]⟩, .slice none 0 0] u7 := by rw [← hv]; exact BoxN.new u1 _ _
            have hN9 : W4.heap.size ≤ u1.heap.size := bb.size
            have hNg : u1.heap.size ≠ g1 := by have := HG1.out; omega
            refine HeldTo.opVal (i := 11) (oi := _) (d := some 12) (v := .pointer (some ⟨u1.heap.size, 0, none⟩)) (w2 := u7) rfl rfl (by rfl) (by rw [← hv]; go_simp; done) (hSK _ (bb.trans (su.mono bb.size))) ?_
            (try simp only [Act.put, List.setIfInBounds_toArray, List.set_cons_zero, List.set_cons_succ])
            have hu7 := Nat.le_trans hu7 su.size
            have bb := bb.trans (su.mono bb.size)
            have bg := bg.next su bg.lt
            have xo := own_next xo su
            generalize hNN : u1.heap.size = N9 at bn hN9 hNg ⊢
            have hS0 := hSK _ bb
            clear su hNN hv
            refine HeldTo.one (i := 5) (by kernel_rfl) ?_
            have hll := latchLits_any u7 y ⟨b1, d1, b2, d2, b3, d3, b4, d4, b5, d5, b6, d6, b7, d7⟩ (HIY.out u7 bb) HLY.out
            simp only [cells] at hll
            refine HeldTo.opCall (i := 5) (oi := _) (d := some 47) (R := fun v w' => ∃ a c, v = .slice a y.lats.length c ∧ w'.ownsRow u7.heap.size 3 1 (.slice a y.lats.length c) y.lats.length (ints (y.lats.map (·.1))) ∧ Below u7.heap.size u7 w') rfl rfl (by rfl) (by go_simp; done) (hll.mono fun e w' h => by obtain ⟨a, c, he, ho, hb⟩ := h; exact ⟨_, he, a, c, rfl, ho, hb⟩) ?_
            rintro v u8 ⟨ya, yc, rfl, yo, su⟩
            have yo := own_mono yo hu7
            have hu7 := Nat.le_trans hu7 su.size
            have bb := bb.trans (su.mono bb.size)
            have bg := bg.next su bg.lt
            have xo := own_next xo su
            have bn := bn.next su bn.lt
            refine ⟨hSK _ bb, ?_⟩
            (try simp only [Act.put, List.setIfInBounds_toArray, List.set_cons_zero, List.set_cons_succ])
            have hS0 := hSK _ bb
            clear su hll
            refine HeldTo.one (i := 9) (by kernel_rfl) ?_
            have hsp := spread_any u8 xa xc (x.lats.map (·.1)) (by rw [List.length_map]; exact own_sl' xo) ya yc (y.lats.map (·.1)) (by rw [List.length_map]; exact own_sl' yo) st (by rw [List.length_map]; exact HSZ.out) g1 (firstL x) bg (by simp [firstL]) (fun b o e _ => by have := (xo.lt b (by rw [e]; rfl)).1; have := HG1.out; omega) (fun b o e _ => by have := (yo.lt b (by rw [e]; rfl)).1; have := HG1.out; omega) (by rw [List.length_map]; exact HLX.out)
            simp only [List.length_map] at hsp
            refine HeldTo.opCall (i := 9) (oi := _) (d := some 51) (R := fun v w' => ∃ R, v = .string ⟨R.toArray⟩ ∧ Among (x.lats.map (·.1)) (y.lats.map (·.1)) st.data.toList (firstL x) R x.lats.length ∧ OffB g1 u8 w') rfl rfl (by rfl) (by go_simp; done) (hsp.mono fun e w' h => by obtain ⟨R, he, h1, h2⟩ := h; exact ⟨_, he, R, rfl, h1, h2⟩) ?_
            rintro v u9 ⟨R9, rfl, hAm, ob⟩
            have bb0 := bb.size
            have bb := ob.base bb bb0 HG0.out
            have bn := ob.box bn hNg
            have hu7 := Nat.le_trans hu7 ob.size
            refine ⟨hSK _ bb, ?_⟩
            (try simp only [Act.put, List.setIfInBounds_toArray, List.set_cons_zero, List.set_cons_succ])
            have hS0 := hSK _ bb
            clear ob hsp bb0 xo yo bg
            (refine HeldTo.take (i := 10) (oi := _) (d := some 52) (v := ?_) rfl rfl (by kernel_rfl) (by kernel_rfl) (by kernel_rfl) (by kernel_rfl) (by kernel_rfl) (by kernel_rfl) (fun _ _ _ h => h) (Or.inl ⟨by rfl, ?_⟩) hS0 ?_; rotate_left; (focus (intro w hSw; clear hSw; go_simp; (try with_reducible rfl); done)); (try simp only [Act.put, List.setIfInBounds_toArray, List.set_cons_zero, List.set_cons_succ]))
            have y0 := bn.at' 0 _ rfl
            have y1 := bn.at' 1 _ rfl
            have y2 := bn.at' 2 _ rfl
            have z := bn.fz
            refine HeldTo.store (i := 12) (oi := _) (d := none) (w2 := ((u9.setCell ⟨N9, 0, none⟩ (.int .i64 bad)).setCell ⟨N9, 1, none⟩ (.string ⟨R9.toArray⟩)).setCell ⟨N9, 2, none⟩ (.slice none 0 0)) rfl rfl (by kernel_rfl) (by kernel_rfl) (by rfl) (by go_simp; done) ?_
            (try simp only [Act.put, List.setIfInBounds_toArray, List.set_cons_zero, List.set_cons_succ])
            refine HeldTo.done (by kernel_rfl) ?_ _
            (try go_wp2_with fail)
            go_meet
            exact ⟨N9, R9, rfl, hN9, hAm, ((bn.set 0 (.int .i64 bad)).set 1 (.string ⟨R9.toArray⟩)).set 2 (.slice none 0 0), ((bb.setCell (p := ⟨N9, 0, none⟩) hN9 _).setCell (p := ⟨N9, 1, none⟩) hN9 _).setCell (p := ⟨N9, 2, none⟩) hN9 _⟩
        · skip
          obtain ⟨u10, hv⟩ : ∃ V, u0.alloc (.cells #[.int .i64 0, .string ⟨#[]⟩, .slice none 0 0] 30) = V := ⟨_, rfl⟩
          have su : Below u0.heap.size u0 u10 := by rw [← hv]; exact (Below.refl _ _).alloc (Nat.le_refl _) _
          have bn : BoxN u0.heap.size [.int .i64 0, .string ⟨#[]⟩, .slice none 0 0] u10 := by rw [← hv]; exact BoxN.new u0 _ _
          have hN9 : W4.heap.size ≤ u0.heap.size := bb.size
          have hNg : u0.heap.size ≠ g1 := by have := HG1.out; omega
          refine HeldTo.opVal (i := 11) (oi := _) (d := some 12) (v := .pointer (some ⟨u0.heap.size, 0, none⟩)) (w2 := u10) rfl rfl (by rfl) (by rw [← hv]; go_simp; done) (hSK _ (bb.trans (su.mono bb.size))) ?_
          (try simp only [Act.put, List.setIfInBounds_toArray, List.set_cons_zero, List.set_cons_succ])
          have hu7 := Nat.le_trans hu7 su.size
          have bb := bb.trans (su.mono bb.size)
          have bg := bg.next su bg.lt
          generalize hNN : u0.heap.size = N9 at bn hN9 hNg ⊢
          have hS0 := hSK _ bb
          clear su hNN hv
          refine HeldTo.one (i := 3) (by kernel_rfl) ?_
          have hll := latchLits_any u10 x ⟨a1, c1, a2, c2, a3, c3, a4, c4, a5, c5, a6, c6, a7, c7⟩ (HIX.out u10 bb) HLX.out
          simp only [cells] at hll
          refine HeldTo.opCall (i := 3) (oi := _) (d := some 45) (R := fun v w' => ∃ a c, v = .slice a x.lats.length c ∧ w'.ownsRow u10.heap.size 3 1 (.slice a x.lats.length c) x.lats.length (ints (x.lats.map (·.1))) ∧ Below u10.heap.size u10 w') rfl rfl (by rfl) (by go_simp; done) (hll.mono fun e w' h => by obtain ⟨a, c, he, ho, hb⟩ := h; exact ⟨_, he, a, c, rfl, ho, hb⟩) ?_
          rintro v u11 ⟨xa, xc, rfl, xo, su⟩
          have xo := own_mono xo hu7
          have hu7 := Nat.le_trans hu7 su.size
          have bb := bb.trans (su.mono bb.size)
          have bg := bg.next su bg.lt
          have bn := bn.next su bn.lt
          refine ⟨hSK _ bb, ?_⟩
          (try simp only [Act.put, List.setIfInBounds_toArray, List.set_cons_zero, List.set_cons_succ])
          have hS0 := hSK _ bb
          clear su hll
          refine HeldTo.one (i := 5) (by kernel_rfl) ?_
          have hll := latchLits_any u11 y ⟨b1, d1, b2, d2, b3, d3, b4, d4, b5, d5, b6, d6, b7, d7⟩ (HIY.out u11 bb) HLY.out
          simp only [cells] at hll
          refine HeldTo.opCall (i := 5) (oi := _) (d := some 47) (R := fun v w' => ∃ a c, v = .slice a y.lats.length c ∧ w'.ownsRow u11.heap.size 3 1 (.slice a y.lats.length c) y.lats.length (ints (y.lats.map (·.1))) ∧ Below u11.heap.size u11 w') rfl rfl (by rfl) (by go_simp; done) (hll.mono fun e w' h => by obtain ⟨a, c, he, ho, hb⟩ := h; exact ⟨_, he, a, c, rfl, ho, hb⟩) ?_
          rintro v u12 ⟨ya, yc, rfl, yo, su⟩
          have yo := own_mono yo hu7
          have hu7 := Nat.le_trans hu7 su.size
          have bb := bb.trans (su.mono bb.size)
          have bg := bg.next su bg.lt
          have xo := own_next xo su
          have bn := bn.next su bn.lt
          refine ⟨hSK _ bb, ?_⟩
          (try simp only [Act.put, List.setIfInBounds_toArray, List.set_cons_zero, List.set_cons_succ])
          have hS0 := hSK _ bb
          clear su hll
          refine HeldTo.one (i := 9) (by kernel_rfl) ?_
          have hsp := spread_any u12 xa xc (x.lats.map (·.1)) (by rw [List.length_map]; exact own_sl' xo) ya yc (y.lats.map (·.1)) (by rw [List.length_map]; exact own_sl' yo) st (by rw [List.length_map]; exact HSZ.out) g1 (firstL x) bg (by simp [firstL]) (fun b o e _ => by have := (xo.lt b (by rw [e]; rfl)).1; have := HG1.out; omega) (fun b o e _ => by have := (yo.lt b (by rw [e]; rfl)).1; have := HG1.out; omega) (by rw [List.length_map]; exact HLX.out)
          simp only [List.length_map] at hsp
          refine HeldTo.opCall (i := 9) (oi := _) (d := some 51) (R := fun v w' => ∃ R, v = .string ⟨R.toArray⟩ ∧ Among (x.lats.map (·.1)) (y.lats.map (·.1)) st.data.toList (firstL x) R x.lats.length ∧ OffB g1 u12 w') rfl rfl (by rfl) (by go_simp; done) (hsp.mono fun e w' h => by obtain ⟨R, he, h1, h2⟩ := h; exact ⟨_, he, R, rfl, h1, h2⟩) ?_
          rintro v u13 ⟨R9, rfl, hAm, ob⟩
          have bb0 := bb.size
          have bb := ob.base bb bb0 HG0.out
          have bn := ob.box bn hNg
          have hu7 := Nat.le_trans hu7 ob.size
          refine ⟨hSK _ bb, ?_⟩
          (try simp only [Act.put, List.setIfInBounds_toArray, List.set_cons_zero, List.set_cons_succ])
          have hS0 := hSK _ bb
          clear ob hsp bb0 xo yo bg
          (refine HeldTo.take (i := 10) (oi := _) (d := some 52) (v := ?_) rfl rfl (by kernel_rfl) (by kernel_rfl) (by kernel_rfl) (by kernel_rfl) (by kernel_rfl) (by kernel_rfl) (fun _ _ _ h => h) (Or.inl ⟨by rfl, ?_⟩) hS0 ?_; rotate_left; (focus (intro w hSw; clear hSw; go_simp; (try with_reducible rfl); done)); (try simp only [Act.put, List.setIfInBounds_toArray, List.set_cons_zero, List.set_cons_succ]))
          have y0 := bn.at' 0 _ rfl
          have y1 := bn.at' 1 _ rfl
          have y2 := bn.at' 2 _ rfl
          have z := bn.fz
          refine HeldTo.store (i := 12) (oi := _) (d := none) (w2 := ((u13.setCell ⟨N9, 0, none⟩ (.int .i64 bad)).setCell ⟨N9, 1, none⟩ (.string ⟨R9.toArray⟩)).setCell ⟨N9, 2, none⟩ (.slice none 0 0)) rfl rfl (by kernel_rfl) (by kernel_rfl) (by rfl) (by go_simp; done) ?_
          (try simp only [Act.put, List.setIfInBounds_toArray, List.set_cons_zero, List.set_cons_succ])
          refine HeldTo.done (by kernel_rfl) ?_ _
          (try go_wp2_with fail)
          go_meet
          exact ⟨N9, R9, rfl, hN9, hAm, ((bn.set 0 (.int .i64 bad)).set 1 (.string ⟨R9.toArray⟩)).set 2 (.slice none 0 0), ((bb.setCell (p := ⟨N9, 0, none⟩) hN9 _).setCell (p := ⟨N9, 1, none⟩) hN9 _).setCell (p := ⟨N9, 2, none⟩) hN9 _⟩
      case rest =>
        obtain ⟨N, R, rfl, hN, hAm, hbx, hbN⟩ := hcut
        generalize wc = w8 at *
        have HN1 : Hid (N < w8.heap.size) := hbx.out.lt
        have HNW : Hid (W4.heap.size ≤ N) := hN.out
        have HAM := Lib.hid hAm.out
        have e9 := HW.out w8 hbN.out
        have v2 := e9.at' 2 _ rfl
        have hnI : Hid (∀ (a : Option Addr) (xs : List Int) (n c : Nat), Sl W4 a n c (ints xs) → ∀ b o, a = some ⟨b, o, none⟩ → xs ≠ [] → b < W4.heap.size) := fun a xs n c h b o e hne => by
          cases xs with
          | nil => exact absurd rfl hne
          | cons v r =>
            obtain ⟨b2, o2, ha, hs, _⟩ := h.cell 0 (.int .i64 v) rfl
            rw [e] at ha
            injection ha with ha
            injection ha with ha _
            omega
        have HX8 := hbx
        have HB8 := hbN
        clear hN hAm hbx hbN e9
        go_wp2_with fail
        go_loopw [56] (fun i wr => ∃ (k : Nat) (aO : Option Addr) (cO : Nat) (outs : List ByteArray), k ≤ inp.length ∧ i = .int .i64 k ∧ Hid (outs.length = k) ∧ Hid (OutsI x y inp outs) ∧ Hid (BoxN N [.int .i64 bad, .string ⟨R.toArray⟩, .slice aO k cO] wr) ∧ Hid (wr.ownsRow w8.heap.size 9 1 (.slice aO k cO) k (outs.map Value.string)) ∧ Hid (Below W4.heap.size W4 wr) ∧ Hid (w8.heap.size ≤ wr.heap.size)) (fun i _ => inp.length - (Go.RowKit.intOf i).toNat)
        case atStart => exact ⟨0, none, 0, [], Nat.zero_le _, rfl, rfl, (fun i s o _ h => by simp at h), HX8.out, World.ownsRow_nil _ _ _ _, HB8.out, Nat.le_refl _⟩
        case round =>
          clear HX8 HB8 v2
          obtain ⟨k, aO, cO, outs, hk, rfl, hol, hOI, hX, hO, hB, hS⟩ := hrel
          by_cases hlt : k < inp.length
          · obtain ⟨b, o, ha, hbs, d0⟩ := (HII.out wr hB.out).cell k (.string inp[k]) (by rw [List.getElem?_map, List.getElem?_eq_getElem hlt]; rfl)
            subst ha
            have HSI : Hid (inp[k].size = y.ins.length) := HIS.out _ (List.getElem_mem hlt)
            have HSK : Hid (inp[k]? = some inp[k]) := List.getElem?_eq_getElem hlt
            have hltI : (k : Int) < (inp.length : Int) := by omega
            generalize inp[k] = s at *
            have hSK : ∀ U : World, Below W4.heap.size W4 U → BoxN N [.int .i64 bad, .string ⟨R.toArray⟩, .slice aO k cO] U → U.cell? ⟨w.heap.size, 1, none⟩ = some (.slice a1 x.ins.length c1) ∧ U.cell? ⟨W1.heap.size, 1, none⟩ = some (.slice b1 y.ins.length d1) ∧ U.cell? ⟨N, 2, none⟩ = some (.slice aO k cO) := fun U hU hn => ⟨(HX.out U hU).k1, (HY.out U hU).k1, hn.at' 2 _ rfl⟩
            have bb := hB.out.trans (Below.refl _ _).drew
            have bn := hX.out.next (Below.refl _ _).drew hX.out.lt
            have ro := own_next hO.out (Below.refl _ _).drew
            have hu8 : w8.heap.size ≤ wr.drew.heap.size := hS.out
            have hS0 := hSK _ bb bn
            go_upto_region 15 with fail
            refine HeldTo.region (fun U : World => U.cell? ⟨w.heap.size, 1, none⟩ = some (.slice a1 x.ins.length c1) ∧ U.cell? ⟨W1.heap.size, 1, none⟩ = some (.slice b1 y.ins.length d1) ∧ U.cell? ⟨N, 2, none⟩ = some (.slice aO k cO)) 15 (by kernel_rfl) ?_
            obtain ⟨u0, hu0⟩ : ∃ U, wr.drew = U := ⟨_, rfl⟩
            rw [hu0] at bb bn ro hu8 hS0 ⊢
            (refine HeldTo.plain (i := 0) (oi := _) (d := some 60) (v := ?_) rfl rfl (by kernel_rfl) (by kernel_rfl) (by kernel_rfl) (by kernel_rfl) (fun _ _ _ h => h) (Or.inl ⟨by rfl, ?_⟩) (fun _ => hS0) ?_; rotate_left; (focus (intro w hSw; clear hSw; go_simp; (try with_reducible rfl); done)); (try simp only [Act.put, List.setIfInBounds_toArray, List.set_cons_zero, List.set_cons_succ]))
            (refine HeldTo.take (i := 1) (oi := _) (d := some 61) (v := ?_) rfl rfl (by kernel_rfl) (by kernel_rfl) (by kernel_rfl) (by kernel_rfl) (by kernel_rfl) (by kernel_rfl) (fun _ _ _ h => h) (Or.inl ⟨by rfl, ?_⟩) hS0 ?_; rotate_left; (focus (intro w hSw; (try dsimp only at hSw); go_simp; (try with_reducible rfl); done)); (try simp only [Act.put, List.setIfInBounds_toArray, List.set_cons_zero, List.set_cons_succ]))
            (refine HeldTo.plain (i := 2) (oi := _) (d := some 62) (v := ?_) rfl rfl (by kernel_rfl) (by kernel_rfl) (by kernel_rfl) (by kernel_rfl) (fun _ _ _ h => h) (Or.inl ⟨by rfl, ?_⟩) (fun _ => hS0) ?_; rotate_left; (focus (intro w hSw; clear hSw; go_simp; (try with_reducible rfl); done)); (try simp only [Act.put, List.setIfInBounds_toArray, List.set_cons_zero, List.set_cons_succ]))
            (refine HeldTo.take (i := 3) (oi := _) (d := some 63) (v := ?_) rfl rfl (by kernel_rfl) (by kernel_rfl) (by kernel_rfl) (by kernel_rfl) (by kernel_rfl) (by kernel_rfl) (fun _ _ _ h => h) (Or.inl ⟨by rfl, ?_⟩) hS0 ?_; rotate_left; (focus (intro w hSw; (try dsimp only at hSw); go_simp; (try with_reducible rfl); done)); (try simp only [Act.put, List.setIfInBounds_toArray, List.set_cons_zero, List.set_cons_succ]))
            (refine HeldTo.plain (i := 4) (oi := _) (d := some 64) (v := ?_) rfl rfl (by kernel_rfl) (by kernel_rfl) (by kernel_rfl) (by kernel_rfl) (fun _ _ _ h => h) (Or.inl ⟨by rfl, ?_⟩) (fun _ => hS0) ?_; rotate_left; (focus (intro w hSw; clear hSw; go_simp; (try with_reducible rfl); done)); (try simp only [Act.put, List.setIfInBounds_toArray, List.set_cons_zero, List.set_cons_succ]))
            (refine HeldTo.take (i := 5) (oi := _) (d := some 65) (v := ?_) rfl rfl (by kernel_rfl) (by kernel_rfl) (by kernel_rfl) (by kernel_rfl) (by kernel_rfl) (by kernel_rfl) (fun _ _ _ h => h) (Or.inl ⟨by rfl, ?_⟩) hS0 ?_; rotate_left; (focus (intro w hSw; (try dsimp only at hSw); go_simp; (try with_reducible rfl); done)); (try simp only [Act.put, List.setIfInBounds_toArray, List.set_cons_zero, List.set_cons_succ]))
            (refine HeldTo.plain (i := 6) (oi := _) (d := some 66) (v := ?_) rfl rfl (by kernel_rfl) (by kernel_rfl) (by kernel_rfl) (by kernel_rfl) (fun _ _ _ h => h) (Or.inl ⟨by rfl, ?_⟩) (fun _ => hS0) ?_; rotate_left; (focus (intro w hSw; clear hSw; go_simp; (try with_reducible rfl); done)); (try simp only [Act.put, List.setIfInBounds_toArray, List.set_cons_zero, List.set_cons_succ]))
            (refine HeldTo.plain (i := 7) (oi := _) (d := some 67) (v := ?_) rfl rfl (by kernel_rfl) (by kernel_rfl) (by kernel_rfl) (by kernel_rfl) (fun _ _ _ h => h) (Or.inl ⟨by rfl, ?_⟩) (fun _ => hS0) ?_; rotate_left; (focus (intro w hSw; clear hSw; go_simp; (try with_reducible rfl); done)); (try simp only [Act.put, List.setIfInBounds_toArray, List.set_cons_zero, List.set_cons_succ]))
            (refine HeldTo.take (i := 8) (oi := _) (d := some 68) (v := ?_) rfl rfl (by kernel_rfl) (by kernel_rfl) (by kernel_rfl) (by kernel_rfl) (by kernel_rfl) (by kernel_rfl) (fun _ _ _ h => h) (Or.inl ⟨by rfl, ?_⟩) hS0 ?_; rotate_left; (focus (intro w hSw; (try dsimp only at hSw); go_simp; (try with_reducible rfl); done)); (try simp only [Act.put, List.setIfInBounds_toArray, List.set_cons_zero, List.set_cons_succ]))
            (refine HeldTo.plain (i := 9) (oi := _) (d := some 69) (v := ?_) rfl rfl (by kernel_rfl) (by kernel_rfl) (by kernel_rfl) (by kernel_rfl) (fun _ _ _ h => h) (Or.inl ⟨by rfl, ?_⟩) (fun _ => hS0) ?_; rotate_left; (focus (intro w hSw; clear hSw; go_simp; (try with_reducible rfl); done)); (try simp only [Act.put, List.setIfInBounds_toArray, List.set_cons_zero, List.set_cons_succ]))
            have hzz := zeros_any u0 x.ins.length HLI.out
            refine HeldTo.one (i := 10) (by kernel_rfl) ?_
            refine HeldTo.opCall (i := 10) (oi := _) (d := some 70) (R := fun v w' => ∃ g, v = .slice (some ⟨g, 0, none⟩) x.ins.length x.ins.length ∧ BoxN g (bytesL (List.replicate x.ins.length 48)) w' ∧ u0.heap.size ≤ g ∧ Below u0.heap.size u0 w') rfl rfl (by rfl) (by go_simp; done) (hzz.mono fun e w' h => by obtain ⟨g, he, h1, h2, h3⟩ := h; exact ⟨_, he, g, rfl, h1, h2, h3⟩) ?_
            rintro v u1 ⟨g2, rfl, hg2, hge2, su⟩
            have bb := bb.trans (su.mono bb.size)
            have bn := bn.next su bn.lt
            have hng : N ≠ g2 := by have := HN1.out; omega
            have hrg := own_not ro hge2
            have ro := own_next ro su
            have hu8 := Nat.le_trans hu8 su.size
            refine ⟨hSK _ bb bn, ?_⟩
            (try simp only [Act.put, List.setIfInBounds_toArray, List.set_cons_zero, List.set_cons_succ])
            have hg2W : W4.heap.size ≤ g2 := by have := HNW.out; have := HN1.out; omega
            have hsp := spread_any u1 a1 c1 x.ins (HIX.out u1 bb).ins b1 d1 y.ins (HIY.out u1 bb).ins s HSI.out g2 (List.replicate x.ins.length 48) hg2 (by simp) (fun b o e hne => by have := hnI.out _ _ _ _ (HIX.out W4 (Below.refl _ _)).ins b o e hne; omega) (fun b o e hne => by have := hnI.out _ _ _ _ (HIY.out W4 (Below.refl _ _)).ins b o e hne; omega) HLI.out
            refine HeldTo.one (i := 11) (by kernel_rfl) ?_
            refine HeldTo.opCall (i := 11) (oi := _) (d := some 71) (R := fun v w' => ∃ R, v = .string ⟨R.toArray⟩ ∧ Among x.ins y.ins s.data.toList (List.replicate x.ins.length 48) R x.ins.length ∧ OffB g2 u1 w') rfl rfl (by rfl) (by go_simp; done) (hsp.mono fun e w' h => by obtain ⟨R, he, h1, h2⟩ := h; exact ⟨_, he, R, rfl, h1, h2⟩) ?_
            rintro v u2 ⟨R2, rfl, hA2, ob⟩
            have bb0 := bb.size
            have bb := ob.base bb bb0 hg2W
            have bn := ob.box bn hng
            have ro := ob.own ro hrg
            have hu8 := Nat.le_trans hu8 ob.size
            refine ⟨hSK _ bb bn, ?_⟩
            (try simp only [Act.put, List.setIfInBounds_toArray, List.set_cons_zero, List.set_cons_succ])
            clear hzz hsp hg2 hge2 su ob bb0
            generalize hs2 : (⟨R2.toArray⟩ : ByteArray) = s2 at *
            obtain ⟨u3, hu3⟩ : ∃ V, u2.alloc (.cells #[.string s2] 9) = V := ⟨_, rfl⟩
            have su : Below u2.heap.size u2 u3 := by rw [← hu3]; exact (Below.refl _ _).alloc (Nat.le_refl _) _
            have so : SlT u3 1 (some ⟨u2.heap.size, 0, none⟩) 1 1 [[.string s2]] := by rw [← hu3]; exact App2.sl_one u2 [.string s2] 9 1 rfl
            refine HeldTo.one (i := 12) (by kernel_rfl) ?_
            refine HeldTo.opVal (i := 12) (oi := _) (d := some 72) (v := .slice (some ⟨u2.heap.size, 0, none⟩) 1 1) (w2 := u3) rfl rfl (by rfl) (by rw [← hu3]; go_simp; done) (hSK _ (bb.trans (su.mono bb.size)) (bn.next su bn.lt)) ?_
            (try simp only [Act.put, List.setIfInBounds_toArray, List.set_cons_zero, List.set_cons_succ])
            have bb := bb.trans (su.mono bb.size)
            have bn := bn.next su bn.lt
            have ro := own_next ro su
            have hu8 := Nat.le_trans hu8 su.size
            have ef : ((outs.map Value.string).map fun v => [v]).flatten = outs.map Value.string := by
              generalize outs.map Value.string = L
              induction L with
              | nil => rfl
              | cons v r ih => rw [List.map_cons, List.flatten_cons, ih]; rfl
            have ro' := ro
            rw [← ef] at ro'
            obtain ⟨A', C', u4, r1, ho4, hg4⟩ := App2.runV (P := Tryz.prog) (t := 28) 28 (by decide : 0 < 1) info_strS Tryz.underlying28 rfl u3 w8.heap.size hu8 (.slice aO k cO) k ((outs.map Value.string).map fun v => [v]) ro' (some ⟨u2.heap.size, 0, none⟩) 1 1 [[.string s2]] so (by simp) (by simp [Value.oneCell']) (by have := HIL.out; omega) (by have := HIL.out; omega)
            have hne4 : some N ≠ (Value.slice aO k cO).ownBlock := fun e => by have := (ro.lt N e.symm).1; have := HN1.out; omega
            have bn4 := box_grown bn hg4 hne4
            have bb4 := bb.grown hg4 bb.size (fun q hq => by have := (ro.lt q hq).1; have := HNW.out; have := HN1.out; omega)
            have hu84 := Nat.le_trans hu8 hg4.size
            refine HeldTo.one (i := 13) (by kernel_rfl) ?_
            refine HeldTo.opVal (i := 13) (oi := _) (d := some 73) (v := .slice A' (k + 1) C') (w2 := u4) rfl rfl (by rfl) (App2.exec_append rfl rfl rfl r1) (hSK _ bb4 bn4) ?_
            (try simp only [Act.put, List.setIfInBounds_toArray, List.set_cons_zero, List.set_cons_succ])
            have hS0 := hSK _ bb4 bn4
            (refine HeldTo.plain (i := 14) (oi := _) (d := some 74) (v := ?_) rfl rfl (by kernel_rfl) (by kernel_rfl) (by kernel_rfl) (by kernel_rfl) (fun _ _ _ h => h) (Or.inl ⟨by rfl, ?_⟩) (fun _ => hS0) ?_; rotate_left; (focus (intro w hSw; clear hSw; go_simp; (try with_reducible rfl); done)); (try simp only [Act.put, List.setIfInBounds_toArray, List.set_cons_zero, List.set_cons_succ]))
            have y2 := bn4.at' 2 _ rfl
            have z := bn4.fz 2
            refine HeldTo.store (i := 15) (oi := _) (d := none) (w2 := u4.setCell ⟨N, 2, none⟩ (.slice A' (k + 1) C')) rfl rfl (by kernel_rfl) (by kernel_rfl) (by rfl) (by go_simp; done) ?_
            (try simp only [Act.put, List.setIfInBounds_toArray, List.set_cons_zero, List.set_cons_succ])
            refine HeldTo.done (by kernel_rfl) ?_ _
            have HX9 : Hid (BoxN N [.int .i64 bad, .string ⟨R.toArray⟩, .slice A' (k + 1) C'] (u4.setCell ⟨N, 2, none⟩ (.slice A' (k + 1) C'))) := bn4.set 2 _
            have HO9 : Hid ((u4.setCell ⟨N, 2, none⟩ (.slice A' (k + 1) C')).ownsRow w8.heap.size 9 1 (.slice A' (k + 1) C') (k + 1) ((outs ++ [s2]).map Value.string)) := by
              have h := ((OffB.refl N u4).set 2 (.slice A' (k + 1) C')).own ho4 (own_not' ho4 HN1.out)
              have e : ((outs.map Value.string).map (fun v => [v]) ++ [[Value.string s2]]).flatten = (outs ++ [s2]).map Value.string := by rw [List.flatten_append, ef, List.map_append]; rfl
              rw [e] at h
              exact h
            have HB9 := Lib.hid (bb4.setCell (p := ⟨N, 2, none⟩) HNW.out (.slice A' (k + 1) C'))
            have HS9 : Hid (w8.heap.size ≤ (u4.setCell ⟨N, 2, none⟩ (.slice A' (k + 1) C')).heap.size) := by show _ ≤ _; simpa [World.setCell] using hu84
            have HL9 : Hid ((outs ++ [s2]).length = k + 1) := by show _ = _; rw [List.length_append, hol.out]; rfl
            have HOI9 : Hid (OutsI x y inp (outs ++ [s2])) := fun i s' o' h1 h2 => by
              by_cases hi : i < outs.length
              · rw [List.getElem?_append_left hi] at h2
                exact hOI.out i s' o' h1 h2
              · have hik : i = k := by
                  have h3 := (List.getElem?_eq_some_iff.1 h2).1
                  rw [List.length_append, List.length_singleton, hol.out] at h3
                  have h4 := hol.out
                  omega
                subst hik
                rw [List.getElem?_append_right (by have := hol.out; omega)] at h2
                have e0 : i - outs.length = 0 := by have := hol.out; omega
                rw [e0] at h2
                simp at h2
                rw [HSK.out] at h1
                injection h1 with h1
                subst h1
                exact ⟨R2, by rw [← h2, hs2], hA2⟩
            clear bb bn ro hS0 hSK bb4 bn4 hne4 hu84 hu8 y2 z so su ro' ho4 hg4 r1 hng hrg hg2W
            (try go_wp2_with fail)
            go_roundw
            case rel => exact ⟨k + 1, A', C', outs ++ [s2], by omega, by go_num, HL9.out, HOI9.out, HX9.out, HO9.out, HB9.out, HS9.out⟩
            case measure => simp [Go.RowKit.intOf]; omega
          · have hkn : k = inp.length := by omega
            have hx := hX.out
            have y0 := hx.at' 0 _ rfl
            have y1 := hx.at' 1 _ rfl
            have y2 := hx.at' 2 _ rfl
            have hz := HZ.out wr hB.out
            have q0 := hz.at' 0 _ rfl
            have q1 := hz.at' 1 _ rfl
            have q2 := hz.at' 2 _ rfl
            have z := hz.fz
            have HFI : Hid (Sl wr aO inp.length cO (outs.map Value.string)) := by rw [← hkn]; exact own_sl' hO.out
            rw [hkn] at y2
            clear hx hz
            go_wp2_with fail
            refine bodyPost_ret (v := .tuple #[.agg #[.int .i64 bad, .string ⟨R.toArray⟩, .slice aO inp.length cO], .int .i64 0]) (by simp [results, Tryz.results6, go_sem, q0, q1, q2]) rfl ?_
            have ob : OffB W3.heap.size wr _ := (((OffB.refl W3.heap.size wr).set 0 (.int .i64 bad)).set 1 (.string ⟨R.toArray⟩)).set 2 (.slice aO inp.length cO)
            refine ⟨R, aO, cO, outs, rfl, HAM.out, by rw [hol.out]; exact hkn, hOI.out, ?_, ob.base (HB4.out.trans (hB.out.mono HB4.out.size)) (Nat.le_trans HB4.out.size hB.out.size) (by have := HLT.out; omega)⟩
            have hnb := own_not' hO.out (N := W3.heap.size) (by have := HLT.out; have := HNW.out; have := HN1.out; omega)
            rw [hkn] at hnb
            have hO2 := hO.out
            rw [hkn] at hO2
            exact own_sl' (ob.own hO2 hnb)
end Spr
end Go.Proofs.YtninglnchengeaaGreatDoor

/-
  Plain: what literals hang on. No program's function.
-/
namespace Go.Proofs.YtninglnchengeaaGreatDoor
open Go.RowKit Base
set_option linter.unusedVariables false
set_option linter.unusedSimpArgs false
namespace Circuit

/-- A variable that literals hang on (0 among them). -/
inductive Rch (ands : List Tri) (l : List Int) : Int → Prop
  | lit {t : Int} : t ∈ l → Rch ands l (var t)
  | left {v : Int} {g : Tri} : Rch ands l v → v ≠ 0 → gate ands v = some g → Rch ands l (var g.2.1)
  | right {v : Int} {g : Tri} : Rch ands l v → v ≠ 0 → gate ands v = some g → Rch ands l (var g.2.2)

/-- What is waited for: of variable 0, met, or in the list. -/
def Waits (T M : List Int) (o : Int) : Prop := var o = 0 ∨ var o ∈ M ∨ ∃ t ∈ T, var t = var o

structure ConeInv (ands : List Tri) (l T M : List Int) : Prop where
  nodup : M.Nodup
  met : ∀ v ∈ M, v ≠ 0 ∧ Rch ands l v
  todo : ∀ t ∈ T, Rch ands l (var t)
  lits : ∀ a ∈ l, Waits T M a
  gates : ∀ v ∈ M, ∀ g, gate ands v = some g → Waits T M g.2.1 ∧ Waits T M g.2.2
  few : T.length ≤ l.length + M.length

theorem cone_start (ands : List Tri) (l : List Int) : ConeInv ands l l [] :=
  ⟨List.nodup_nil, fun v h => by simp at h, fun t ht => .lit ht, fun a ha => Or.inr (Or.inr ⟨a, ha, rfl⟩), fun v h => by simp at h, by simp⟩

theorem waits_skip {T M : List Int} {t o : Int} (h : Waits (T ++ [t]) M o) (ht : var t = 0 ∨ var t ∈ M) : Waits T M o := by
  rcases h with h | h | ⟨u, hu, he⟩
  · exact Or.inl h
  · exact Or.inr (Or.inl h)
  · rw [List.mem_append, List.mem_singleton] at hu
    rcases hu with hu | rfl
    · exact Or.inr (Or.inr ⟨u, hu, he⟩)
    · rcases ht with h0 | hm
      · exact Or.inl (by rw [← he]; exact h0)
      · exact Or.inr (Or.inl (by rw [← he]; exact hm))

theorem cone_skip {ands : List Tri} {l T M : List Int} {t : Int} (h : ConeInv ands l (T ++ [t]) M) (ht : var t = 0 ∨ var t ∈ M) : ConeInv ands l T M :=
  ⟨h.nodup, h.met, fun u hu => h.todo u (List.mem_append_left _ hu), fun a ha => waits_skip (h.lits a ha) ht, fun v hv g hg => ⟨waits_skip (h.gates v hv g hg).1 ht, waits_skip (h.gates v hv g hg).2 ht⟩, by have := h.few; rw [List.length_append] at this; omega⟩

theorem waits_meet {T M : List Int} {t o : Int} (h : Waits (T ++ [t]) M o) (E : List Int) : Waits (T ++ E) (M ++ [var t]) o := by
  rcases h with h | h | ⟨u, hu, he⟩
  · exact Or.inl h
  · exact Or.inr (Or.inl (List.mem_append_left _ h))
  · rw [List.mem_append, List.mem_singleton] at hu
    rcases hu with hu | rfl
    · exact Or.inr (Or.inr ⟨u, List.mem_append_left _ hu, he⟩)
    · exact Or.inr (Or.inl (by rw [← he]; simp))

theorem cone_meet_none {ands : List Tri} {l T M : List Int} {t : Int} (h : ConeInv ands l (T ++ [t]) M) (h0 : var t ≠ 0) (hm : var t ∉ M) (hg : gate ands (var t) = none) : ConeInv ands l T (M ++ [var t]) := by
  have ht := h.todo t (by simp)
  have wm : ∀ o, Waits (T ++ [t]) M o → Waits T (M ++ [var t]) o := fun o ho => by
    have := waits_meet ho []
    rwa [List.append_nil] at this
  refine ⟨?_, fun v hv => ?_, fun u hu => h.todo u (List.mem_append_left _ hu), fun a ha => wm a (h.lits a ha), fun v hv g hgv => ?_, ?_⟩
  · rw [List.nodup_append]
    exact ⟨h.nodup, by simp, fun a ha b hb e => by rw [List.mem_singleton] at hb; subst hb; exact hm (e ▸ ha)⟩
  · rw [List.mem_append, List.mem_singleton] at hv
    rcases hv with hv | rfl
    · exact h.met v hv
    · exact ⟨h0, ht⟩
  · rw [List.mem_append, List.mem_singleton] at hv
    rcases hv with hv | rfl
    · exact ⟨wm _ (h.gates v hv g hgv).1, wm _ (h.gates v hv g hgv).2⟩
    · rw [hg] at hgv; cases hgv
  · have := h.few
    rw [List.length_append] at *
    simp only [List.length_singleton, List.length_cons, List.length_nil] at *
    omega

theorem cone_meet_some {ands : List Tri} {l T M : List Int} {t : Int} {g : Tri} (h : ConeInv ands l (T ++ [t]) M) (h0 : var t ≠ 0) (hm : var t ∉ M) (hg : gate ands (var t) = some g) : ConeInv ands l (T ++ [g.2.1, g.2.2]) (M ++ [var t]) := by
  have ht := h.todo t (by simp)
  refine ⟨?_, fun v hv => ?_, fun u hu => ?_, fun a ha => waits_meet (h.lits a ha) _, fun v hv g' hgv => ?_, ?_⟩
  · rw [List.nodup_append]
    exact ⟨h.nodup, by simp, fun a ha b hb e => by rw [List.mem_singleton] at hb; subst hb; exact hm (e ▸ ha)⟩
  · rw [List.mem_append, List.mem_singleton] at hv
    rcases hv with hv | rfl
    · exact h.met v hv
    · exact ⟨h0, ht⟩
  · rw [List.mem_append] at hu
    rcases hu with hu | hu
    · exact h.todo u (List.mem_append_left _ hu)
    · simp only [List.mem_cons, List.not_mem_nil, or_false] at hu
      rcases hu with rfl | rfl
      · exact .left ht h0 hg
      · exact .right ht h0 hg
  · rw [List.mem_append, List.mem_singleton] at hv
    rcases hv with hv | rfl
    · exact ⟨waits_meet (h.gates v hv g' hgv).1 _, waits_meet (h.gates v hv g' hgv).2 _⟩
    · rw [hg] at hgv
      simp only [Option.some.injEq] at hgv
      subst hgv
      exact ⟨Or.inr (Or.inr ⟨g.2.1, by simp, rfl⟩), Or.inr (Or.inr ⟨g.2.2, by simp, rfl⟩)⟩
  · have := h.few
    simp only [List.length_append, List.length_cons, List.length_nil] at *
    omega

/-- At the end what is met is what literals hang on. -/
theorem cone_end {ands : List Tri} {l M : List Int} (h : ConeInv ands l [] M) (v : Int) : v ∈ M ↔ v ≠ 0 ∧ Rch ands l v := by
  have hw : ∀ o, Waits [] M o → var o ≠ 0 → var o ∈ M := fun o ho h0 => by
    rcases ho with hz | hm | ⟨u, hu, _⟩
    · exact absurd hz h0
    · exact hm
    · simp at hu
  constructor
  · exact h.met v
  · rintro ⟨h0, hr⟩
    induction hr with
    | lit ht => exact hw _ (h.lits _ ht) h0
    | left hr' hv hg ih => exact hw _ (h.gates _ (ih hv) _ hg).1 h0
    | right hr' hv hg ih => exact hw _ (h.gates _ (ih hv) _ hg).2 h0

theorem nodup_len {M C : List Int} (hn : M.Nodup) (hs : ∀ v ∈ M, v ∈ C) : M.length ≤ C.length := by
  induction M generalizing C with
  | nil => simp
  | cons x r ih =>
    rw [List.nodup_cons] at hn
    have hx := hs x List.mem_cons_self
    have := ih hn.2 (C := C.erase x) (fun v hv => (List.mem_erase_of_ne (fun e => hn.1 (by rw [← e]; exact hv))).2 (hs v (List.mem_cons_of_mem _ hv)))
    rw [List.length_erase_of_mem hx] at this
    have hc : 0 < C.length := List.length_pos_of_mem hx
    rw [List.length_cons]
    omega

/-- All that may be met. -/
def cands (ands : List Tri) (l : List Int) : List Int := l.map var ++ ands.map (fun t => var t.2.1) ++ ands.map (fun t => var t.2.2)

theorem gate_mem {ands : List Tri} {v : Int} {g : Tri} (h : gate ands v = some g) : g ∈ ands := List.mem_of_find?_eq_some h

theorem rch_cand {ands : List Tri} {l : List Int} {v : Int} (h : Rch ands l v) : v ∈ cands ands l := by
  unfold cands
  rw [List.mem_append, List.mem_append]
  cases h with
  | lit ht => exact Or.inl (Or.inl (List.mem_map.2 ⟨_, ht, rfl⟩))
  | left hr hv hg => exact Or.inl (Or.inr (List.mem_map.2 ⟨_, gate_mem hg, rfl⟩))
  | right hr hv hg => exact Or.inr (List.mem_map.2 ⟨_, gate_mem hg, rfl⟩)

theorem cone_few {ands : List Tri} {l T M : List Int} (h : ConeInv ands l T M) : M.length ≤ l.length + 2 * ands.length := by
  have := nodup_len h.nodup (fun v hv => rch_cand (h.met v hv).2)
  unfold cands at this
  simp only [List.length_append, List.length_map] at this
  omega

/-- What hangs on it hangs on no more. -/
theorem rch_again {ands : List Tri} {l vs : List Int} (h : ∀ v, v ∈ vs ↔ v ≠ 0 ∧ Rch ands l v) (hv : ∀ v ∈ vs, 0 ≤ v) (v : Int) : (v ≠ 0 ∧ Rch ands (vs.map (2 * ·)) v) ↔ v ∈ vs := by
  have hvar : ∀ u ∈ vs, var (2 * u) = u := fun u hu => by have := hv u hu; unfold var; omega
  constructor
  · rintro ⟨h0, hr⟩
    induction hr with
    | lit ht =>
      obtain ⟨u, hu, rfl⟩ := List.mem_map.1 ht
      rw [hvar u hu]
      exact hu
    | left hr' hv' hg ih => exact (h _).2 ⟨h0, .left ((h _).1 (ih hv')).2 hv' hg⟩
    | right hr' hv' hg ih => exact (h _).2 ⟨h0, .right ((h _).1 (ih hv')).2 hv' hg⟩
  · intro hm
    refine ⟨((h v).1 hm).1, ?_⟩
    rw [← hvar v hm]
    exact .lit (List.mem_map.2 ⟨v, hm, rfl⟩)

end Circuit
end Go.Proofs.YtninglnchengeaaGreatDoor

/-
  circuit.gate: a variable's and.
-/
namespace Go.Proofs.YtninglnchengeaaGreatDoor
open Go.RowKit Base
set_option linter.unusedVariables false
set_option linter.unusedSimpArgs false
namespace Circuit

set_option maxRecDepth 8000 in
set_option maxHeartbeats 8000000 in
theorem gate_any (w : World) (x : Circ) (p : At) (hin : InCirc w x p) (hw : WfT x.ands) (v : Int) :
    Calls Tryz.prog 105 #[.agg (cells x p), .int .i64 v] w (GateOut w (gate x.ands v)) := by
  have hand := hin.ands
  obtain ⟨mx, ins, lats, outs, bads, invs, ands, names⟩ := x
  obtain ⟨a1, c1, a2, c2, a3, c3, a4, c4, a5, c5, a6, c6, a7, c7⟩ := p
  simp only [cells] at *
  obtain ⟨W1, hW1⟩ : ∃ W1, w.alloc (.cells #[.int .i64 mx, .slice a1 ins.length c1, .slice a2 lats.length c2, .slice a3 outs.length c3, .slice a4 bads.length c4, .slice a5 invs.length c5, .slice a6 ands.length c6, .slice a7 names.length c7] 27) = W1 := ⟨_, rfl⟩
  obtain ⟨W2, hW2⟩ : ∃ W2, W1.alloc (.cells #[.int .i64 0, .int .i64 0, .int .i64 0] 62) = W2 := ⟨_, rfl⟩
  have h1 : Below w.heap.size w W1 := by rw [← hW1]; exact (Below.refl _ _).alloc (Nat.le_refl _) _
  have h2 : Below W1.heap.size W1 W2 := by rw [← hW2]; exact (Below.refl _ _).alloc (Nat.le_refl _) _
  have z1 : W1.heap.size = w.heap.size + 1 := by rw [← hW1]; simp
  have z2 : W2.heap.size = w.heap.size + 2 := by rw [← hW2]; simp [z1]
  have k6 : W2.cell? ⟨w.heap.size, 6, none⟩ = some (.slice a6 ands.length c6) := by rw [← hW2, ← hW1]; simp [go_sem]
  have q0 : W2.cell? ⟨w.heap.size + 1, 0, none⟩ = some (.int .i64 0) := by rw [← z1, ← hW2]; simp [go_sem]
  have q1 : W2.cell? ⟨w.heap.size + 1, 1, none⟩ = some (.int .i64 0) := by rw [← z1, ← hW2]; simp [go_sem]
  have q2 : W2.cell? ⟨w.heap.size + 1, 2, none⟩ = some (.int .i64 0) := by rw [← z1, ← hW2]; simp [go_sem]
  have f0 : W2.frozen? ⟨w.heap.size + 1, 0, none⟩ = false := by rw [← z1, ← hW2]; simp [go_sem]
  have f1 : W2.frozen? ⟨w.heap.size + 1, 1, none⟩ = false := by rw [← z1, ← hW2]; simp [go_sem]
  have f2 : W2.frozen? ⟨w.heap.size + 1, 2, none⟩ = false := by rw [← z1, ← hW2]; simp [go_sem]
  have HB2 := Lib.hid (h1.trans (h2.mono h1.size))
  have HS := Lib.hid (hand.next (h1.trans (h2.mono h1.size)))
  have hcap := hand.cap
  have hbig := hand.big
  have HW := Lib.hid hw
  clear hin hand hw h1 h2
  go_enter Tryz.func105, Tryz.ntmps105
  go_wp2_with fail
  clear hW1 hW2
  go_loopw [11] (fun s wr => ∃ k : Nat, k ≤ ands.length ∧ s = .int .i64 k ∧ Hid (gate (ands.take k) v = none) ∧ Hid (Below W2.heap.size W2 wr)) (fun s _ => ands.length - (intOf s).toNat)
  case atStart => exact ⟨0, Nat.zero_le _, rfl, rfl, Below.refl _ _⟩
  case round =>
    obtain ⟨k, hk, rfl, hI, hbr⟩ := hrel
    by_cases hlt : k < ands.length
    · obtain ⟨b, o, hx, rfl, hbs, hc0, hc1, hc2⟩ := HS.out.tri hlt
      have d0 := (hbr.out.cell (p := ⟨b, o + k * 3, none⟩) hbs).trans hc0
      have d1 := (hbr.out.cell (p := ⟨b, o + k * 3 + 1, none⟩) hbs).trans hc1
      have d2 := (hbr.out.cell (p := ⟨b, o + k * 3 + 2, none⟩) hbs).trans hc2
      have VA := Lib.hid (fun U => var_any ands[k].1 (HW.out _ (List.getElem_mem hx)).1.1 (HW.out _ (List.getElem_mem hx)).1.2 U)
      clear hc0 hc1 hc2
      have HGM := Lib.hid (fun hn => gate_more (v := v) hx hI.out hn)
      have HGH := Lib.hid (fun h0 h1 => gate_hit (v := v) hx hI.out h0 h1)
      generalize ands[k] = t at *
      obtain ⟨t0, t1, t2⟩ := t
      simp only at d0 d1 d2 VA HGM HGH
      obtain ⟨U, hU⟩ : ∃ U, wr.alloc (.cells #[.int .i64 t0, .int .i64 t1, .int .i64 t2] 62) = U := ⟨_, rfl⟩
      have hbU : Below wr.heap.size wr U := by rw [← hU]; exact (Below.refl _ _).alloc (Nat.le_refl _) _
      have u0 : U.cell? ⟨wr.heap.size, 0, none⟩ = some (.int .i64 t0) := by rw [← hU]; simp [go_sem]
      have u1 : U.cell? ⟨wr.heap.size, 1, none⟩ = some (.int .i64 t1) := by rw [← hU]; simp [go_sem]
      have u2 : U.cell? ⟨wr.heap.size, 2, none⟩ = some (.int .i64 t2) := by rw [← hU]; simp [go_sem]
      have hbW : Below W2.heap.size W2 U := hbr.out.trans (hbU.mono hbr.out.size)
      have r0 := (hbW.cell (p := ⟨w.heap.size + 1, 0, none⟩) (by show w.heap.size + 1 < W2.heap.size; omega)).trans q0
      have r1 := (hbW.cell (p := ⟨w.heap.size + 1, 1, none⟩) (by show w.heap.size + 1 < W2.heap.size; omega)).trans q1
      have r2 := (hbW.cell (p := ⟨w.heap.size + 1, 2, none⟩) (by show w.heap.size + 1 < W2.heap.size; omega)).trans q2
      have s0 := (hbW.frozen (p := ⟨w.heap.size + 1, 0, none⟩) (by show w.heap.size + 1 < W2.heap.size; omega)).trans f0
      have s1 := (hbW.frozen (p := ⟨w.heap.size + 1, 1, none⟩) (by show w.heap.size + 1 < W2.heap.size; omega)).trans f1
      have s2 := (hbW.frozen (p := ⟨w.heap.size + 1, 2, none⟩) (by show w.heap.size + 1 < W2.heap.size; omega)).trans f2
      have HBU := Lib.hid hbW
      clear hbU hbW
      by_cases hg : 0 ≤ t0
      · by_cases hv : var t0 = v
        · have HG := Lib.hid (HGH.out hg hv)
          clear HGM HGH
          subst hv
          go_wp2_with fail
          refine (VA.out U).mono ?_
          rintro e w5 ⟨rfl, rfl⟩
          go_wp2_with fail
          refine bodyPost_ret (v := .tuple #[.agg #[.int .i64 t0, .int .i64 t1, .int .i64 t2], .bool true]) (by simp [results, Tryz.results105, go_sem, r0, r1, r2]) rfl ?_
          refine ⟨?_, (((HB2.out.trans (HBU.out.mono HB2.out.size)).setCell (by show w.heap.size ≤ w.heap.size + 1; omega) _).setCell (by show w.heap.size ≤ w.heap.size + 1; omega) _).setCell (by show w.heap.size ≤ w.heap.size + 1; omega) _⟩
          rw [HG.out]
          rfl
        · have HG := Lib.hid (HGM.out (fun h => hv h.2))
          clear HGM HGH
          go_wp2_with fail
          refine (VA.out U).mono ?_
          rintro e w5 ⟨rfl, rfl⟩
          go_wp2_with fail
          go_roundw
          case rel => exact ⟨k + 1, by omega, by go_num, HG.out, HBU.out⟩
          case measure => simp [intOf]; omega
      · have HG := Lib.hid (HGM.out (fun h => hg h.1))
        clear HGM HGH
        go_wp2_with fail
        go_roundw
        case rel => exact ⟨k + 1, by omega, by go_num, HG.out, HBU.out⟩
        case measure => simp [intOf]; omega
    · have HG : Hid (gate ands v = none) := by
        have h := hI.out
        rw [List.take_of_length_le (by omega)] at h
        exact h
      have r0 := (hbr.out.cell (p := ⟨w.heap.size + 1, 0, none⟩) (by show w.heap.size + 1 < W2.heap.size; omega)).trans q0
      have r1 := (hbr.out.cell (p := ⟨w.heap.size + 1, 1, none⟩) (by show w.heap.size + 1 < W2.heap.size; omega)).trans q1
      have r2 := (hbr.out.cell (p := ⟨w.heap.size + 1, 2, none⟩) (by show w.heap.size + 1 < W2.heap.size; omega)).trans q2
      have s0 := (hbr.out.frozen (p := ⟨w.heap.size + 1, 0, none⟩) (by show w.heap.size + 1 < W2.heap.size; omega)).trans f0
      have s1 := (hbr.out.frozen (p := ⟨w.heap.size + 1, 1, none⟩) (by show w.heap.size + 1 < W2.heap.size; omega)).trans f1
      have s2 := (hbr.out.frozen (p := ⟨w.heap.size + 1, 2, none⟩) (by show w.heap.size + 1 < W2.heap.size; omega)).trans f2
      go_wp2_with fail
      refine bodyPost_ret (v := .tuple #[.agg #[.int .i64 0, .int .i64 0, .int .i64 0], .bool false]) (by simp [results, Tryz.results105, go_sem, r0, r1, r2]) rfl ?_
      refine ⟨?_, (((HB2.out.trans (hbr.out.mono HB2.out.size)).setCell (by show w.heap.size ≤ w.heap.size + 1; omega) _).setCell (by show w.heap.size ≤ w.heap.size + 1; omega) _).setCell (by show w.heap.size ≤ w.heap.size + 1; omega) _⟩
      rw [HG.out]
      rfl

end Circuit
end Go.Proofs.YtninglnchengeaaGreatDoor

/-
  slices.Sorted(maps.Keys(m)) at map[int]bool: the keys, sorted.
-/
namespace Go.Proofs.YtninglnchengeaaGreatDoor
open Go.RowKit Base
set_option linter.unusedVariables false
namespace SortedK
open Go.Maps Go.Sort Go.Shelf

def keysA_ren : Go.Shelf.Ren := ⟨fun | 7 => 106 | 10 => 126 | n => n, fun | 23 => 65 | 26 => 3 | 3 => 4 | 28 => 84 | 0 => 0 | 27 => 83 | 33 => 70 | 4 => 4 | n => n, fun | n => n⟩
theorem keysA : Go.Proofs.SlLaysZI.n7 Tryz.prog keysA_ren := {
  mixed := by kernel_rfl
  f7 := ⟨Tryz.f106.name, by decide, Tryz.func106.trans (congrArg some (by kernel_rfl))⟩
  f10 := ⟨Tryz.f126.name, by decide, Tryz.func126.trans (congrArg some (by kernel_rfl))⟩
  t0 := Tryz.underlying0
  a0 := Tryz.isAgg0
  z0 := Tryz.sizeOf0
  v0 := Tryz.zeroValue0
  t4 := Tryz.underlying4
  a4 := Tryz.isAgg4
  z4 := Tryz.sizeOf4
  v4 := Tryz.zeroValue4
  t23 := Tryz.underlying65
  a23 := Tryz.isAgg65
  z23 := Tryz.sizeOf65
  v23 := Tryz.zeroValue65
  t26 := Tryz.underlying3
  a26 := Tryz.isAgg3
  z26 := Tryz.sizeOf3
  v26 := Tryz.zeroValue3
  t27 := Tryz.underlying83
  a27 := Tryz.isAgg83
  z27 := Tryz.sizeOf83
  v27 := Tryz.zeroValue83
  t28 := Tryz.underlying84
  a28 := Tryz.isAgg84
  z28 := Tryz.sizeOf84
  v28 := Tryz.zeroValue84
  t33 := Tryz.underlying70
  a33 := Tryz.isAgg70
  z33 := Tryz.sizeOf70
  v33 := Tryz.zeroValue70 }
def sortedA_ren : Go.Shelf.Ren := ⟨fun | 6 => 41 | 8 => 68 | 9 => 69 | 11 => 87 | 13 => 89 | 12 => 88 | 23 => 116 | 24 => 117 | 14 => 107 | 15 => 108 | 16 => 109 | 17 => 110 | 18 => 111 | 19 => 112 | 20 => 113 | 21 => 114 | 22 => 115 | 25 => 127 | 26 => 128 | 27 => 129 | 28 => 130 | 29 => 131 | 30 => 132 | 31 => 138 | n => n, fun | 26 => 3 | 28 => 84 | 24 => 22 | 0 => 0 | 3 => 3 | 37 => 48 | 48 => 137 | 50 => 42 | 4 => 4 | 40 => 147 | 39 => 146 | 45 => 152 | 5 => 5 | 9 => 9 | 51 => 162 | 55 => 166 | 57 => 170 | 58 => 171 | 33 => 70 | n => n, fun | n => n⟩
theorem sortedA : Go.Proofs.SlLaysZI.n6 Tryz.prog sortedA_ren := {
  mixed := by kernel_rfl
  f6 := ⟨Tryz.f41.name, by decide, Tryz.func41.trans (congrArg some (by kernel_rfl))⟩
  f8 := ⟨Tryz.f68.name, by decide, Tryz.func68.trans (congrArg some (by kernel_rfl))⟩
  f11 := ⟨Tryz.f87.name, by decide, Tryz.func87.trans (congrArg some (by kernel_rfl))⟩
  t0 := Tryz.underlying0
  a0 := Tryz.isAgg0
  z0 := Tryz.sizeOf0
  v0 := Tryz.zeroValue0
  t24 := Tryz.underlying22
  a24 := Tryz.isAgg22
  z24 := Tryz.sizeOf22
  v24 := Tryz.zeroValue22
  t26 := Tryz.underlying3
  a26 := Tryz.isAgg3
  z26 := Tryz.sizeOf3
  v26 := Tryz.zeroValue3
  t28 := Tryz.underlying84
  a28 := Tryz.isAgg84
  z28 := Tryz.sizeOf84
  v28 := Tryz.zeroValue84
  i26 := by kernel_rfl }
def sortA_ren : Go.Shelf.Ren := ⟨fun | 5 => 69 | 8 => 89 | 7 => 88 | 19 => 116 | 20 => 117 | 10 => 107 | 11 => 108 | 12 => 109 | 13 => 110 | 14 => 111 | 15 => 112 | 16 => 113 | 17 => 114 | 18 => 115 | 30 => 127 | 31 => 128 | 32 => 129 | 33 => 130 | 34 => 131 | 35 => 132 | 40 => 138 | n => n, fun | 23 => 22 | 25 => 3 | 3 => 3 | 32 => 48 | 22 => 22 | 0 => 0 | 44 => 137 | 46 => 42 | 4 => 4 | 36 => 147 | 35 => 146 | 41 => 152 | 5 => 5 | 9 => 9 | 53 => 162 | 57 => 166 | 63 => 170 | 64 => 171 | n => n, fun | n => n⟩
theorem sortA : Go.Proofs.SlLaysM.n5 Tryz.prog sortA_ren := {
  mixed := by kernel_rfl
  f5 := ⟨Tryz.f69.name, by decide, Tryz.func69.trans (congrArg some (by kernel_rfl))⟩
  f7 := ⟨Tryz.f88.name, by decide, Tryz.func88.trans (congrArg some (by kernel_rfl))⟩
  f8 := Tryz.func89.trans (congrArg some (by kernel_rfl))
  f10 := ⟨Tryz.f107.name, by decide, Tryz.func107.trans (congrArg some (by kernel_rfl))⟩
  f11 := ⟨Tryz.f108.name, by decide, Tryz.func108.trans (congrArg some (by kernel_rfl))⟩
  f12 := ⟨Tryz.f109.name, by decide, Tryz.func109.trans (congrArg some (by kernel_rfl))⟩
  f13 := ⟨Tryz.f110.name, by decide, Tryz.func110.trans (congrArg some (by kernel_rfl))⟩
  f14 := ⟨Tryz.f111.name, by decide, Tryz.func111.trans (congrArg some (by kernel_rfl))⟩
  f15 := ⟨Tryz.f112.name, by decide, Tryz.func112.trans (congrArg some (by kernel_rfl))⟩
  f16 := ⟨Tryz.f113.name, by decide, Tryz.func113.trans (congrArg some (by kernel_rfl))⟩
  f17 := ⟨Tryz.f114.name, by decide, Tryz.func114.trans (congrArg some (by kernel_rfl))⟩
  f18 := ⟨Tryz.f115.name, by decide, Tryz.func115.trans (congrArg some (by kernel_rfl))⟩
  f19 := Tryz.func116.trans (congrArg some (by kernel_rfl))
  f20 := Tryz.func117.trans (congrArg some (by kernel_rfl))
  f30 := ⟨Tryz.f127.name, by decide, Tryz.func127.trans (congrArg some (by kernel_rfl))⟩
  f31 := Tryz.func128.trans (congrArg some (by kernel_rfl))
  f32 := Tryz.func129.trans (congrArg some (by kernel_rfl))
  f33 := ⟨Tryz.f130.name, by decide, Tryz.func130.trans (congrArg some (by kernel_rfl))⟩
  f34 := ⟨Tryz.f131.name, by decide, Tryz.func131.trans (congrArg some (by kernel_rfl))⟩
  f35 := ⟨Tryz.f132.name, by decide, Tryz.func132.trans (congrArg some (by kernel_rfl))⟩
  f40 := ⟨Tryz.f138.name, by decide, Tryz.func138.trans (congrArg some (by kernel_rfl))⟩
  t0 := Tryz.underlying0
  a0 := Tryz.isAgg0
  z0 := Tryz.sizeOf0
  v0 := Tryz.zeroValue0
  t3 := Tryz.underlying3
  a3 := Tryz.isAgg3
  z3 := Tryz.sizeOf3
  v3 := Tryz.zeroValue3
  t4 := Tryz.underlying4
  a4 := Tryz.isAgg4
  z4 := Tryz.sizeOf4
  v4 := Tryz.zeroValue4
  t5 := Tryz.underlying5
  a5 := Tryz.isAgg5
  z5 := Tryz.sizeOf5
  v5 := Tryz.zeroValue5
  t9 := Tryz.underlying9
  a9 := Tryz.isAgg9
  z9 := Tryz.sizeOf9
  v9 := Tryz.zeroValue9
  t22 := Tryz.underlying22
  a22 := Tryz.isAgg22
  z22 := Tryz.sizeOf22
  v22 := Tryz.zeroValue22
  t23 := Tryz.underlying22
  a23 := Tryz.isAgg22
  z23 := Tryz.sizeOf22
  v23 := Tryz.zeroValue22
  t25 := Tryz.underlying3
  a25 := Tryz.isAgg3
  z25 := Tryz.sizeOf3
  v25 := Tryz.zeroValue3
  t32 := Tryz.underlying48
  a32 := Tryz.isAgg48
  z32 := Tryz.sizeOf48
  v32 := Tryz.zeroValue48
  t35 := Tryz.underlying146
  a35 := Tryz.isAgg146
  z35 := Tryz.sizeOf146
  v35 := Tryz.zeroValue146
  t36 := Tryz.underlying147
  a36 := Tryz.isAgg147
  z36 := Tryz.sizeOf147
  v36 := Tryz.zeroValue147
  t41 := Tryz.underlying152
  a41 := Tryz.isAgg152
  z41 := Tryz.sizeOf152
  v41 := Tryz.zeroValue152
  t44 := Tryz.underlying137
  a44 := Tryz.isAgg137
  z44 := Tryz.sizeOf137
  v44 := Tryz.zeroValue137
  t46 := Tryz.underlying42
  a46 := Tryz.isAgg42
  z46 := Tryz.sizeOf42
  v46 := Tryz.zeroValue42
  t53 := Tryz.underlying162
  a53 := Tryz.isAgg162
  z53 := Tryz.sizeOf162
  v53 := Tryz.zeroValue162
  t57 := Tryz.underlying166
  a57 := Tryz.isAgg166
  z57 := Tryz.sizeOf166
  v57 := Tryz.zeroValue166
  t63 := Tryz.underlying170
  a63 := Tryz.isAgg170
  z63 := Tryz.sizeOf170
  v63 := Tryz.zeroValue170
  t64 := Tryz.underlying171
  a64 := Tryz.isAgg171
  z64 := Tryz.sizeOf171
  v64 := Tryz.zeroValue171 }

theorem sortsA (m : Nat) : AnyZI.SortsIn Tryz.prog sortedA_ren Fence.wide m :=
  ⟨fun blk off cap ss W hH hblk hsz => callsIn_wide.2 (AnyM.slices_Sort_int sortA blk off cap ss W hH hblk hsz),
   fun p cap W => callsIn_wide.2 (AnyM.slices_Sort_int_none sortA p cap W)⟩

theorem keys_any (mb : Option Nat) (w : World) : Calls Tryz.prog 106 #[.map mb] w fun e w' => e = .returned (.func (.func 126) #[] #[.pointer (some ⟨w.heap.size, 0, none⟩)]) ∧ w' = w.alloc (.cells #[.map mb] 65) :=
  (callsIn_wide (n := 5)).1 (AnyZI.keys_in keysA Fence.wide 5 trivial rfl mb w)

set_option maxHeartbeats 1000000 in
theorem sorted_any {H : Type} (b nn : Nat) (D0 : DataW H) (R : Value → Option (DataW H × List MemPlace)) (w : World) (hown : w.ownsMap Tryz.prog 3 R b nn D0) (hmax : Maps.size D0 ≤ maxLen) (hbytes : Maps.size D0 * 8 ≤ 140737488355328) :
    Calls Tryz.prog 41 #[.func (.func 126) #[] #[.pointer (some ⟨w.heap.size, 0, none⟩)]] (w.alloc (.cells #[.map (some b)] 65)) fun e w' => ∃ (v : Value) (ss : List Int), e = .returned v ∧ ss.Perm (intKeys D0) ∧
      w'.ownsRow w.heap.size 3 1 v ss.length ((ss.mergeSort (fun x y => decide (x ≤ y))).map encZ) ∧ (v = .slice none 0 0 ↔ ss = []) ∧ Below w.heap.size w w' := by
  refine (callsIn_wide (n := 5)).1 ?_
  have hbl := hown.lt
  have hseq : SeqGives Fence.wide 2 Tryz.prog 126 #[.pointer (some ⟨w.heap.size, 0, none⟩)] encZ (fun ss => ss.Perm (intKeys D0)) (Maps.size D0) (w.alloc (.cells #[.map (some b)] 65)) :=
    AnyZI.keys_gives (ρ := keysA_ren) { keysA with } Fence.wide _ trivial rfl (by omega) w.heap.size b nn D0 _ (by simp) (by simp) (by
      obtain ⟨es, clock, hb, Ft, hs, hD⟩ := hown
      exact ⟨es, clock, (Below.heap_alloc _ _ b hbl).trans hb, Ft, hs, hD⟩)
  have cS := AnyZI.sorted_in sortedA Fence.wide 5 trivial trivial trivial trivial rfl (by omega) (sortsA _) (enters_of Tryz.func69 (by kernel_rfl) rfl) 126 #[.pointer (some ⟨w.heap.size, 0, none⟩)] trivial (enters_of Tryz.func126 (by kernel_rfl) rfl) _ _ hmax hbytes _ hseq
  refine cS.mono ?_
  rintro e w' ⟨v, ss, he, hS, hrow, hnil, hb⟩
  exact ⟨v, ss, he, hS, ownsRow_base_a hrow (by simp), hnil, ((Below.refl _ w).alloc (Nat.le_refl _) _).trans (hb.mono (by simp))⟩

end SortedK
end Go.Proofs.YtninglnchengeaaGreatDoor

/-
  slices.Clone at one instance (elements of one cell): a slice of its own with the same elements; of nil nil.
-/
namespace Go.Proofs.YtninglnchengeaaGreatDoor
open Go.RowKit Base
set_option linter.unusedVariables false
namespace CloneI

theorem info : (Tryz.prog.info? 3).map (fun i => (i.zero, i.size, i.bytes)) = some (some (.int .i64 0), 1, 8) := by kernel_rfl

set_option maxHeartbeats 1000000 in
theorem clone (w : World) (a : Option Addr) (n c : Nat) (vs : List Value) (hsl : Sl w a n c vs) (h1 : ∀ u ∈ vs, u.oneCell' = true) (hn : n * 8 ≤ 140737488355328) :
    Calls Tryz.prog 25 #[.slice a n c] w fun e w' => ∃ a' c', e = .returned (.slice a' n c') ∧ w'.ownsRow w.heap.size 3 1 (.slice a' n c') n vs ∧ Below w.heap.size w w' := by
  have heq := fun (W : World) (x : Option Addr) => Lib.run_eql_slice_nil (P := Tryz.prog) W 22 3 x n c 0 0 Tryz.underlying22
  cases a with
  | none =>
    obtain ⟨rfl, rfl⟩ := hsl.bare rfl
    have hv : vs = [] := List.eq_nil_of_length_eq_zero hsl.len
    subst hv
    go_enter Tryz.func25, Tryz.ntmps25
    go_wp2_with fail
    go_ret
    exact ⟨none, 0, rfl, World.ownsRow_nil _ _ _ _, Below.refl _ _⟩
  | some ad =>
    have hal : Below w.heap.size w (w.alloc (.cells #[] 3)) := (Below.refl _ _).alloc (Nat.le_refl _) _
    have hsl' := hsl.next hal
    have hown : (w.alloc (.cells #[] 3)).ownsRow w.heap.size 3 1 (.slice (some ⟨w.heap.size, 0, none⟩) 0 0) 0 [] := World.ownsRow_lit w #[] 0 (Nat.le_refl _) (by unfold maxLen; omega) rfl
    have H1 := Lib.hid h1
    clear h1 hsl
    go_enter Tryz.func25, Tryz.ntmps25
    go_wp2_with ((with_reducible refine wpL_app (B := w.heap.size) (W := w) _ 0 [] _ n c vs info Tryz.underlying22 ?_ ?_ ?_ H1.out hown hsl' ?_ ?_ ?_ hal ?_); rfl; rfl; rfl; exact hal.size; omega; omega; (rw [Nat.zero_add, List.nil_append]; intro a2 c2 w2 hown2 hb2 _))
    go_ret
    exact ⟨a2, c2, rfl, hown2, hb2⟩
end CloneI
end Go.Proofs.YtninglnchengeaaGreatDoor

/-
  circuit.Cone: what literals hang on.
-/
namespace Go.Proofs.YtninglnchengeaaGreatDoor
open Go.RowKit Base Go.Maps
set_option linter.unusedVariables false
set_option linter.unusedSimpArgs false
namespace Circuit

theorem info_intC : (Tryz.prog.info? 3).map (fun i => (i.zero, i.size, i.bytes)) = some (some (.int .i64 0), 1, 8) := by kernel_rfl

/-- The set of what is met, and its keys. -/
def SetK (w : World) (b n : Nat) (M : List Int) : Prop :=
  ∃ D : DataW Unit, w.ownsMap Tryz.prog 3 (plainElem Tryz.prog 4) b n D ∧ IsMap D ∧ (∀ x, SetI.I64 x → D.atKey (.int .i64 x) (.lit (.bool false)) = .lit (.bool (SetI.inX M x))) ∧ SetI.KeysAre D M

theorem SetK.set {w : World} {b n : Nat} {M : List Int} (h : SetK w b n M) : SetI.SetIs w b n M := by
  obtain ⟨D, h1, h2, h3, _⟩ := h
  exact ⟨D, h1, h2, h3⟩
theorem SetK.next {w w' : World} {b n : Nat} {M : List Int} (h : SetK w b n M) (hb : Below w.heap.size w w') : SetK w' b n M := by
  obtain ⟨D, ⟨es, cl, hh, r⟩, hm, hat, hk⟩ := h
  exact ⟨D, ⟨es, cl, (hb.block b (Array.getElem?_eq_some_iff.1 hh).1).trans hh, r⟩, hm, hat, hk⟩

theorem _root_.Go.Proofs.YtninglnchengeaaGreatDoor.SetI.keys_size {D : DataW Unit} {X : List Int} (h : SetI.KeysAre D X) : Maps.size D = X.length := by
  obtain ⟨es, rfl, _, hp⟩ := h
  have := hp.length_eq
  unfold Go.intKeys at this
  rw [List.length_map] at this
  exact this

theorem sorted_strict {ss M : List Int} (hp : ss.Perm M) (hn : M.Nodup) : (ss.mergeSort (fun x y => decide (x ≤ y))).Pairwise (· < ·) ∧ (∀ v, v ∈ ss.mergeSort (fun x y => decide (x ≤ y)) ↔ v ∈ M) ∧ (ss.mergeSort (fun x y => decide (x ≤ y))).length = ss.length := by
  have hperm : (ss.mergeSort (fun x y => decide (x ≤ y))).Perm M := (List.mergeSort_perm _ _).trans hp
  have h1 : (ss.mergeSort (fun x y => decide (x ≤ y))).Pairwise (fun x y => decide (x ≤ y) = true) :=
    List.pairwise_mergeSort (fun a b c h1 h2 => by simp only [decide_eq_true_eq] at *; omega) (fun a b => by simp only [Bool.or_eq_true, decide_eq_true_eq]; omega) ss
  have h2 : (ss.mergeSort (fun x y => decide (x ≤ y))).Nodup := hperm.nodup_iff.2 hn
  refine ⟨?_, fun v => hperm.mem_iff, by simp⟩
  refine (h1.and h2).imp ?_
  intro a b h
  simp only [decide_eq_true_eq] at h
  omega

theorem SetK.keep {w w' : World} {b n : Nat} {M : List Int} (h : SetK w b n M) {B : Nat} (hb : Below B w w') (hB : b < B) : SetK w' b n M := by
  obtain ⟨D, ⟨es, cl, hh, r⟩, hm, hat, hk⟩ := h
  exact ⟨D, ⟨es, cl, (hb.block b hB).trans hh, r⟩, hm, hat, hk⟩

theorem pop_last {T : List Int} (h : 0 < T.length) : ∃ T' t, T = T' ++ [t] ∧ T'.length + 1 = T.length := by
  refine ⟨T.dropLast, T.getLast (by intro e; rw [e] at h; simp at h), (List.dropLast_concat_getLast _).symm, ?_⟩
  rw [List.length_dropLast]
  omega

set_option maxRecDepth 8000 in
set_option maxHeartbeats 16000000 in
theorem cone_any (w : World) (x : Circ) (p : At) (hin : InCirc w x p) (hwa : WfT x.ands) (a : Option Addr) (c : Nat) (l : List Int) (hsl : Sl w a l.length c (ints l)) (hl : ∀ y ∈ l, I64 y) (hsz : (2 * l.length + 2 * x.ands.length + 2) * 8 ≤ 140737488355328) :
    Calls Tryz.prog 85 #[.agg (cells x p), .slice a l.length c] w fun e w' => ∃ a' c' vs, e = .returned (.slice a' vs.length c') ∧ w'.ownsRow w.heap.size 3 1 (.slice a' vs.length c') vs.length (ints vs) ∧ (vs.Pairwise (· < ·)) ∧ (∀ v, v ∈ vs ↔ v ≠ 0 ∧ Rch x.ands l v) ∧ Below w.heap.size w w' := by
  obtain ⟨W1, hW1⟩ : ∃ W1, w.alloc (.cells (cells x p) 27) = W1 := ⟨_, rfl⟩
  obtain ⟨hb1, hcb⟩ := cbox_new w x p W1 hW1
  obtain ⟨W2, hW2⟩ : ∃ W2, W1.alloc (.map #[] 0) = W2 := ⟨_, rfl⟩
  have hb2 : Below W1.heap.size W1 W2 := by rw [← hW2]; exact (Below.refl _ _).alloc (Nat.le_refl _) _
  have z2 : W2.heap.size = W1.heap.size + 1 := by rw [← hW2]; simp
  have hset : SetK W2 W1.heap.size 0 [] := by rw [← hW2]; exact ⟨.map [], World.ownsMap_made _ _ _ _, ⟨_, rfl⟩, fun x _ => by simp [DataW.atKey, SetI.inX], SetI.keys_nil⟩
  have CL := CloneI.clone W2 a l.length c (ints l) (hsl.next (hb1.trans (hb2.mono hb1.size))) (fun u hu => by unfold ints at hu; obtain ⟨y, _, rfl⟩ := List.mem_map.1 hu; rfl) (by omega)
  have HCL := Lib.hid CL
  have HB1 := Lib.hid hb1
  have HB2 := Lib.hid hb2
  have HZ2 := Lib.hid z2
  have HSET := Lib.hid hset
  have KB := Lib.hid (fun (U : World) (hU : Below W1.heap.size W1 U) => hcb.next hU (Nat.le_refl _))
  have HGA := fun (U : World) (hU : Below W1.heap.size W1 U) (v : Int) => gate_any U x p ((hin.next hb1).next hU) hwa v
  have HSZ := Lib.hid hsz
  have HWA := Lib.hid hwa
  have HL := Lib.hid hl
  obtain ⟨a1, c1, a2, c2, a3, c3, a4, c4, a5, c5, a6, c6, a7, c7⟩ := p
  simp only [cells] at hW1 HGA ⊢
  have HG := Lib.hid HGA
  have hmm := @run_makeMap Tryz.prog
  clear hin hwa hsl hl hsz hb1 hcb hb2 z2 hset CL HGA
  go_enter Tryz.func85, Tryz.ntmps85
  go_wp2_with fail
  with_reducible refine HCL.out.mono ?_
  rintro e w3 ⟨a3', c3', rfl, hown3, hb3⟩
  have hset3 := HSET.out.next hb3
  have hb13 := HB2.out.trans (hb3.mono HB2.out.size)
  have hz3 := hb3.size
  have HST : Hid (∃ (T M : List Int) (a' : Option Addr) (c' n : Nat), (.slice a3' l.length c3' : Value) = .slice a' n c' ∧ Hid (T.length = n) ∧ Hid (w3.ownsRow W2.heap.size 3 1 (.slice a' n c') n (ints T)) ∧ Hid (ConeInv x.ands l T M) ∧ Hid (SetK w3 W1.heap.size M.length M) ∧ Hid (∀ t ∈ T, I64 t) ∧ Hid (l.length + 3 * (l.length + 2 * x.ands.length) = T.length + 3 * (l.length + 2 * x.ands.length - M.length)) ∧ Hid (Below W1.heap.size W1 w3) ∧ Hid (W2.heap.size ≤ w3.heap.size)) :=
    ⟨l, [], a3', c3', l.length, rfl, rfl, hown3, cone_start _ _, hset3, HL.out, by show _ = _; simp, hb13, hz3⟩
  clear hW1 hW2 hmm HCL hset3 hb13 hz3 hown3 hb3
  go_wp2_with fail
  go_loopg [6] (l.length + 3 * (l.length + 2 * x.ands.length)) (fun gk s6 wr => ∃ (T M : List Int) (a' : Option Addr) (c' n : Nat), s6 = .slice a' n c' ∧ Hid (T.length = n) ∧ Hid (wr.ownsRow W2.heap.size 3 1 (.slice a' n c') n (ints T)) ∧ Hid (ConeInv x.ands l T M) ∧ Hid (SetK wr W1.heap.size M.length M) ∧ Hid (∀ t ∈ T, I64 t) ∧ Hid (gk = T.length + 3 * (l.length + 2 * x.ands.length - M.length)) ∧ Hid (Below W1.heap.size W1 wr) ∧ Hid (W2.heap.size ≤ wr.heap.size))
  case atStart => exact HST.out
  case round =>
    clear HST
    obtain ⟨T, M, a', c', n, rfl, hn, hown, hI, hS, h64, hgk, hB, hZ⟩ := hrel
    by_cases hpos : 0 < n
    · obtain ⟨T', t, hT, hlen⟩ := pop_last (T := T) (by have := hn.out; omega)
      obtain ⟨m, rfl⟩ : ∃ m, n = m + 1 := ⟨n - 1, by omega⟩
      have hm : T'.length = m := by have := hn.out; omega
      have HTM := Lib.hid hm
      subst hT
      obtain ⟨g, rfl, hgl, hgs⟩ := own_addr hown.out hpos
      have HPOP : Hid (wr.ownsRow W2.heap.size 3 1 (.slice (some ⟨g, 0, none⟩) m c') m (ints T')) := by
        have h := hown.out
        have e : ints (T' ++ [t]) = ints T' ++ [.int .i64 t] := by unfold ints; rw [List.map_append]; rfl
        rw [e] at h
        exact ownsRow_pop (by rw [ints_len, hm, Nat.mul_one]) h
      obtain ⟨a4, c4', hae, hsl⟩ := own_sl hown.out
      simp only [Value.slice.injEq, true_and] at hae
      obtain ⟨rfl, rfl⟩ := hae
      have HGK : Hid (gk = m + 1 + 3 * (l.length + 2 * x.ands.length - M.length)) := by
        have h := hgk.out
        rw [List.length_append, hm] at h
        exact h
      have H64' : Hid (∀ u ∈ T', I64 u) := fun u hu => h64.out u (List.mem_append_left _ hu)
      obtain ⟨b, o, hx, hae2, hbs, d0⟩ := hsl.int (show m < m + 1 by omega)
      simp only [Option.some.injEq, Addr.mk.injEq, and_true] at hae2
      obtain ⟨rfl, rfl⟩ := hae2
      have het : (T' ++ [t])[m] = t := by simp [← hm]
      rw [het, Nat.zero_add] at d0
      have hcap := hsl.cap
      have hbig := hsl.big
      have ht64 := h64.out t (by simp)
      have HV := Lib.hid (fun U => var_any t ht64.1 ht64.2 U)
      have hv64 : SetI.I64 (var t) := by have := ht64; unfold I64 at this; unfold SetI.I64 var; omega
      have HLK := SetI.set_look hS.out.set hv64
      clear hsl hx het hm
      generalize hgv : var t = v at *
      have HGV := Lib.hid hgv
      clear hgv hpos
      by_cases hv0 : v = 0
      · have hv0' : (v == 0) = true := by rw [hv0]; rfl
        have HVZ := Lib.hid hv0
        clear hv0
        go_wp2_with fail
        with_reducible refine (HV.out _).mono ?_
        rintro e w5 ⟨rfl, rfl⟩
        go_wp2_with fail
        go_roundg (m + 3 * (l.length + 2 * x.ands.length - M.length))
        case measure => have := HGK.out; omega
        case rel => exact ⟨T', M, _, c', m, rfl, HTM.out, HPOP.out, cone_skip hI.out (Or.inl (HGV.out.trans HVZ.out)), hS.out, H64'.out, by show _ = _; rw [HTM.out], hB.out, hZ.out⟩
      · have hv0' : (v == 0) = false := by simpa using hv0
        have HV0 := Lib.hid hv0
        clear hv0
        cases hin : SetI.inX M v
        · rw [hin] at HLK
          have HNM : Hid (v ∉ M) := fun hm => by
            have := SetI.inX_iff.2 hm
            rw [hin] at this
            cases this
          have HIN := Lib.hid hin
          clear hin
          obtain ⟨D, hown6, hD1, hD2, hD3⟩ := hS.out
          have hfew := cone_few hI.out
          have HFEW := Lib.hid hfew
          have HML : Hid (M.length < maxLen) := by show _ < _; have := HSZ.out; unfold maxLen; omega
          have HWF := Lib.hid (SetI.wf_lit hv64)
          go_upto_region 8 with ((first | (go_at_call 60; with_reducible refine (HV.out _).mono ?_; rintro e w5 ⟨rfl, rfl⟩) | (at_mapUpdate; refine wpList_mapUpdate_own _ rfl _ _ _ 65 rfl 3 4 SetI.law Tryz.underlying65 _ W1.heap.size M.length _ rfl hown6 HML.out _ _ _ rfl rfl (keyOf_int_mk Tryz.underlying3 HWF.out) _ [] (plainElem_bool Tryz.underlying4 true) ?_; intro w6 hmap6 hgrow6)))
          have hput := SetI.set_put hD1 hD2 v
          have hS6 : SetK w6 W1.heap.size (M.length + 1) (M ++ [v]) := ⟨_, hmap6, hput.1, hput.2, SetI.keys_put hD3 HNM.out _⟩
          have hgB : g ≠ W1.heap.size := by have := HZ2.out; omega
          have hown7 := HPOP.out.kept hgrow6 (Or.inr (by simpa [Value.ownBlock] using hgB))
          have hB6 := hB.out.grown hgrow6 hB.out.size (fun q hq => by cases hq; exact Nat.le_refl _)
          have HB6 := Lib.hid hB6
          have HS6 := Lib.hid hS6
          have HO6 := Lib.hid hown7
          have HZ6 := Lib.hid (Nat.le_trans hZ.out hgrow6.size)
          have CB := KB.out w6 hB6
          have HG6 := Lib.hid (HG.out w6 hB6 v)
          have HI := Lib.hid hI.out
          clear hput hS6 hown7 hB6 hgrow6 hmap6 hown6 hD1 hD2 hD3 HLK d0 hown hS
          have m0 : w6.cell? ⟨w.heap.size, 0, none⟩ = some (.int .i64 x.max) := CB.k0
          have m1 : w6.cell? ⟨w.heap.size, 1, none⟩ = some (.slice a1 x.ins.length c1) := CB.k1
          have m2 : w6.cell? ⟨w.heap.size, 2, none⟩ = some (.slice a2 x.lats.length c2) := CB.k2
          have m3 : w6.cell? ⟨w.heap.size, 3, none⟩ = some (.slice a3 x.outs.length c3) := CB.k3
          have m4 : w6.cell? ⟨w.heap.size, 4, none⟩ = some (.slice a4 x.bads.length c4) := CB.k4
          have m5 : w6.cell? ⟨w.heap.size, 5, none⟩ = some (.slice a5 x.invs.length c5) := CB.k5
          have m6 : w6.cell? ⟨w.heap.size, 6, none⟩ = some (.slice a6 x.ands.length c6) := CB.k6
          have m7 : w6.cell? ⟨w.heap.size, 7, none⟩ = some (.slice a7 x.names.length c7) := CB.k7
          clear CB
          cases hgt : gate x.ands v
          · rw [hgt] at HG6
            have HIN := Lib.hid (cone_meet_none HI.out (by rw [HGV.out]; exact HV0.out) (by rw [HGV.out]; exact HNM.out) (by rw [HGV.out]; exact hgt))
            have HG7 : Hid (Calls Tryz.prog 105 #[.agg #[.int .i64 x.max, .slice a1 x.ins.length c1, .slice a2 x.lats.length c2, .slice a3 x.outs.length c3, .slice a4 x.bads.length c4, .slice a5 x.invs.length c5, .slice a6 x.ands.length c6, .slice a7 x.names.length c7], .int .i64 v] w6 fun e w' => e = .returned (.tuple #[.agg #[.int .i64 0, .int .i64 0, .int .i64 0], .bool false]) ∧ Below w6.heap.size w6 w') := HG6.out
            clear HG6 hgt
            go_wp2_with fail
            with_reducible refine HG7.out.mono ?_
            rintro e w7 ⟨rfl, hb7⟩
            obtain ⟨W8, hW8⟩ : ∃ W8, w7.alloc (.cells #[.int .i64 0, .int .i64 0, .int .i64 0] 62) = W8 := ⟨_, rfl⟩
            obtain ⟨hb8, htb⟩ := tbox_new w7 (0, 0, 0) 62 W8 hW8
            have f0 : W8.frozen? ⟨w7.heap.size, 0, none⟩ = false := by rw [← hW8]; simp [go_sem]
            have f1 : W8.frozen? ⟨w7.heap.size, 1, none⟩ = false := by rw [← hW8]; simp [go_sem]
            have f2 : W8.frozen? ⟨w7.heap.size, 2, none⟩ = false := by rw [← hW8]; simp [go_sem]
            have s0 : W8.setCell ⟨w7.heap.size, 0, none⟩ (.int .i64 0) = W8 := setCell_same _ _ _ htb.t0
            have s1 : W8.setCell ⟨w7.heap.size, 1, none⟩ (.int .i64 0) = W8 := setCell_same _ _ _ htb.t1
            have s2 : W8.setCell ⟨w7.heap.size, 2, none⟩ (.int .i64 0) = W8 := setCell_same _ _ _ htb.t2
            have hb68 := hb7.trans (hb8.mono hb7.size)
            have HB68 := Lib.hid hb68
            have q0 : W8.cell? ⟨w7.heap.size, 0, none⟩ = some (.int .i64 0) := htb.t0
            have q1 : W8.cell? ⟨w7.heap.size, 1, none⟩ = some (.int .i64 0) := htb.t1
            have q2 : W8.cell? ⟨w7.heap.size, 2, none⟩ = some (.int .i64 0) := htb.t2
            clear hb7 hb8 htb hb68 m0 m1 m2 m3 m4 m5 m6 m7
            go_wp2_with fail
            go_roundg (m + 3 * (l.length + 2 * x.ands.length - (M.length + 1)))
            case measure => have := HGK.out; have := cone_few HIN.out; simp only [List.length_append, List.length_singleton] at this; omega
            case rel => exact ⟨T', M ++ [v], _, c', m, rfl, HTM.out, own_next HO6.out HB68.out, by have h := HIN.out; rw [HGV.out] at h; exact h, by show SetK _ _ (M ++ [v]).length _; rw [List.length_append]; exact HS6.out.next HB68.out, H64'.out, by show _ = _; rw [HTM.out, List.length_append]; rfl, HB6.out.trans (HB68.out.mono HB6.out.size), Nat.le_trans HZ6.out HB68.out.size⟩
          · rename_i gy
            obtain ⟨y0, y1, y2⟩ := gy
            rw [hgt] at HG6
            have HIN := Lib.hid (cone_meet_some HI.out (by rw [HGV.out]; exact HV0.out) (by rw [HGV.out]; exact HNM.out) (by rw [HGV.out]; exact hgt))
            have HY := Lib.hid (HWA.out _ (gate_mem hgt))
            have HG7 : Hid (Calls Tryz.prog 105 #[.agg #[.int .i64 x.max, .slice a1 x.ins.length c1, .slice a2 x.lats.length c2, .slice a3 x.outs.length c3, .slice a4 x.bads.length c4, .slice a5 x.invs.length c5, .slice a6 x.ands.length c6, .slice a7 x.names.length c7], .int .i64 v] w6 fun e w' => e = .returned (.tuple #[.agg #[.int .i64 y0, .int .i64 y1, .int .i64 y2], .bool true]) ∧ Below w6.heap.size w6 w') := HG6.out
            clear HG6 hgt
            go_wp2_with fail
            with_reducible refine HG7.out.mono ?_
            rintro e w7 ⟨rfl, hb7⟩
            obtain ⟨W8, hW8⟩ : ∃ W8, w7.alloc (.cells #[.int .i64 y0, .int .i64 y1, .int .i64 y2] 62) = W8 := ⟨_, rfl⟩
            obtain ⟨hb8, htb⟩ := tbox_new w7 (y0, y1, y2) 62 W8 hW8
            have hb68 := hb7.trans (hb8.mono hb7.size)
            have HB68 := Lib.hid hb68
            have q0 : W8.cell? ⟨w7.heap.size, 0, none⟩ = some (.int .i64 y0) := htb.t0
            have q1 : W8.cell? ⟨w7.heap.size, 1, none⟩ = some (.int .i64 y1) := htb.t1
            have q2 : W8.cell? ⟨w7.heap.size, 2, none⟩ = some (.int .i64 y2) := htb.t2
            clear hb7 hb8 htb hb68 m0 m1 m2 m3 m4 m5 m6 m7
            go_upto_region 10 with fail
            obtain ⟨W9, hW9⟩ : ∃ W9, W8.alloc (.cells #[.int .i64 y1, .int .i64 y2] 3) = W9 := ⟨_, rfl⟩
            have hb9 : Below W8.heap.size W8 W9 := by rw [← hW9]; exact (Below.refl _ _).alloc (Nat.le_refl _) _
            have hsl9 : Sl W9 (some ⟨W8.heap.size, 0, none⟩) 2 2 [.int .i64 y1, .int .i64 y2] := by rw [← hW9]; exact sl_new W8 _ _ 2 rfl (by omega)
            have hb69 := HB68.out.trans (hb9.mono HB68.out.size)
            have HO9 := Lib.hid (own_next HO6.out hb69)
            have HZ9 := Lib.hid (Nat.le_trans HZ6.out hb69.size)
            have HB69 := Lib.hid hb69
            have HSL9 := Lib.hid hsl9
            have HAN : Hid ((m + 2) * 8 ≤ 140737488355328) := by
              show _ ≤ _
              have h1 := HI.out.few
              have h2 := cone_few HIN.out
              have h3 := HSZ.out
              have h4 := HTM.out
              rw [List.length_append, h4] at h1
              rw [List.length_append] at h2
              simp only [List.length_singleton] at h1 h2
              omega
            clear hb9 hsl9 hb69
            go_wp2_with ((with_reducible refine wpL_app W2.heap.size (.slice (some ⟨g, 0, none⟩) m c') m (ints T') (some ⟨W8.heap.size, 0, none⟩) 2 2 [.int .i64 y1, .int .i64 y2] info_intC Tryz.underlying22 rfl ?_ ?_ ?_ HO9.out HSL9.out HZ9.out HAN.out ?_ (Below.refl _ W9) ?_); rfl; rfl; (intro u hu; simp only [List.mem_cons, List.not_mem_nil, or_false] at hu; rcases hu with rfl | rfl <;> rfl); (have := HAN.out; omega); (intro a10 c10 w10 hown10 hb10 hz10))
            have hb610 : Below W2.heap.size w6 w10 := (HB69.out.mono (by have := HZ6.out; omega)).trans hb10
            have hB10 : Below W1.heap.size W1 w10 := HB6.out.trans (hb610.mono (by have := HZ2.out; omega))
            have hS10 : SetK w10 W1.heap.size (M.length + 1) (M ++ [v]) := HS6.out.keep hb610 (by have := HZ2.out; omega)
            have h10 : ∀ u ∈ T' ++ [y1, y2], I64 u := fun u hu => by
              rw [List.mem_append] at hu
              rcases hu with hu | hu
              · exact H64'.out u hu
              · simp only [List.mem_cons, List.not_mem_nil, or_false] at hu
                rcases hu with rfl | rfl
                · exact HY.out.2.1
                · exact HY.out.2.2
            have hI10 : ConeInv x.ands l (T' ++ [y1, y2]) (M ++ [v]) := by have h := HIN.out; rw [HGV.out] at h; exact h
            have hO10 : w10.ownsRow W2.heap.size 3 1 (.slice a10 (m + 2) c10) (m + 2) (ints (T' ++ [y1, y2])) := by
              have e : ints (T' ++ [y1, y2]) = ints T' ++ [.int .i64 y1, .int .i64 y2] := by unfold ints; rw [List.map_append]; rfl
              rw [e]
              exact hown10
            have HZ10 := Lib.hid (Nat.le_trans HZ9.out hz10)
            have HB10 := Lib.hid hB10
            have HS10 := Lib.hid hS10
            have H10 := Lib.hid h10
            have HI10 := Lib.hid hI10
            have HO10 := Lib.hid hO10
            clear hb610 hB10 hS10 h10 hI10 hO10 hown10 hb10 hz10 q0 q1 q2
            go_wp2_with fail
            go_roundg (m + 2 + 3 * (l.length + 2 * x.ands.length - (M.length + 1)))
            case measure => have := HGK.out; have := cone_few HI10.out; simp only [List.length_append, List.length_singleton] at this; omega
            case rel => exact ⟨T' ++ [y1, y2], M ++ [v], a10, c10, m + 2, rfl, by show (_ : List Int).length = _; rw [List.length_append, HTM.out]; rfl, HO10.out, HI10.out, by show SetK _ _ (M ++ [v]).length _; rw [List.length_append]; exact HS10.out, H10.out, by show _ = _; rw [List.length_append, List.length_append, HTM.out]; rfl, HB10.out, HZ10.out⟩
        · rw [hin] at HLK
          have HMEM := Lib.hid (SetI.inX_iff.1 hin)
          clear hin
          go_wp2_with fail
          with_reducible refine (HV.out _).mono ?_
          rintro e w5 ⟨rfl, rfl⟩
          go_wp2_with fail
          go_roundg (m + 3 * (l.length + 2 * x.ands.length - M.length))
          case measure => have := HGK.out; omega
          case rel => exact ⟨T', M, _, c', m, rfl, HTM.out, HPOP.out, cone_skip hI.out (Or.inr (by rw [HGV.out]; exact HMEM.out)), hS.out, H64'.out, by show _ = _; rw [HTM.out], hB.out, hZ.out⟩
    · have hn0 : n = 0 := by omega
      subst hn0
      have hT : T = [] := List.eq_nil_of_length_eq_zero hn.out
      subst hT
      obtain ⟨D, hown6, hD1, hD2, hD3⟩ := hS.out
      have hfew := cone_few hI.out
      have hds := SetI.keys_size hD3
      have HKS := Lib.hid (fun (U : World) => SortedK.keys_any (some W1.heap.size) U)
      have HSS := Lib.hid (SortedK.sorted_any W1.heap.size M.length D (plainElem Tryz.prog 4) wr hown6 (by rw [hds]; have := HSZ.out; unfold maxLen; omega) (by rw [hds]; have := HSZ.out; omega))
      have HD3 := Lib.hid hD3
      clear hfew hds hown6 hD1 hD2 hD3
      go_wp2_with fail
      with_reducible refine (HKS.out _).mono ?_
      rintro e w5 ⟨rfl, rfl⟩
      go_wp2_with fail
      with_reducible refine HSS.out.mono ?_
      rintro e w6 ⟨v, ss, rfl, hperm, hrow, hnil, hb⟩
      obtain ⟨a9, c9, rfl, _⟩ := own_sl hrow
      have HROW := Lib.hid hrow
      have HBB := Lib.hid hb
      clear hrow hb hnil
      go_wp2_with fail
      go_ret
      have hpm : (intKeys D).Perm M := by obtain ⟨es, rfl, _, h⟩ := HD3.out; exact h
      obtain ⟨hs1, hs2, hs3⟩ := sorted_strict (hperm.trans hpm) hI.out.nodup
      refine ⟨a9, c9, ss.mergeSort (fun x y => decide (x ≤ y)), by rw [hs3]; rfl, ?_, hs1, fun v => (hs2 v).trans (cone_end hI.out v), ?_⟩
      · rw [hs3]
        exact own_mono HROW.out (by have h1 := hB.out.size; have h2 := HB1.out.size; omega)
      · exact (HB1.out.trans (hB.out.mono HB1.out.size)).trans (HBB.out.mono (by have h1 := hB.out.size; have h2 := HB1.out.size; omega))
end Circuit
end Go.Proofs.YtninglnchengeaaGreatDoor

/-
  Plain: what is said of a key, the latest first.
-/
namespace Go.Proofs.YtninglnchengeaaGreatDoor
namespace GetI

/-- The latest that is said of a key. -/
def getI {α : Type} [DecidableEq α] (D : List (α × Int)) (k : α) : Option Int := (D.find? fun p => decide (p.1 = k)).map (·.2)
theorem getI_nil {α : Type} [DecidableEq α] (k : α) : getI ([] : List (α × Int)) k = none := rfl
theorem getI_same {α : Type} [DecidableEq α] (D : List (α × Int)) (k : α) (v : Int) : getI ((k, v) :: D) k = some v := by simp [getI]
theorem getI_other {α : Type} [DecidableEq α] (D : List (α × Int)) {k k' : α} (v : Int) (h : k ≠ k') : getI ((k, v) :: D) k' = getI D k' := by simp [getI, h]
theorem getI_mem {α : Type} [DecidableEq α] {D : List (α × Int)} {k : α} {v : Int} (h : getI D k = some v) : (k, v) ∈ D := by
  unfold getI at h
  rw [Option.map_eq_some_iff] at h
  obtain ⟨p, hp, rfl⟩ := h
  have h1 := List.mem_of_find?_eq_some hp
  have h2 := List.find?_some hp
  simp only [decide_eq_true_eq] at h2
  rw [← h2]; exact h1
end GetI
end Go.Proofs.YtninglnchengeaaGreatDoor

/-
  Plain: a circuit, hashed: what stands for what, what is kept; that it does what it did. No program's function.
-/
namespace Go.Proofs.YtninglnchengeaaGreatDoor
open Go.RowKit Base
set_option linter.unusedVariables false
set_option linter.unusedSimpArgs false
namespace StrashP
open Circuit GetI

/-- A literal's opposite. -/
def notL (l : Int) : Int := if l < 0 then 1 else if l % 2 = 1 then l - 1 else l + 1
def posL (l : Int) : Int := max l 0
/-- What an and is that needs no gate. -/
def plainL (a b : Int) : Option Int :=
  if posL a = 0 ∨ posL b = 0 ∨ posL a = notL (posL b) then some 0
  else if posL a = 1 ∨ posL a = posL b then some (posL b)
  else if posL b = 1 then some (posL a) else none

structure St where
  S : List (Int × Int)
  M : List ((Int × Int) × Int)
  K : List Tri

/-- What stands for a literal. -/
def litS (S : List (Int × Int)) (l : Int) : Int :=
  match getI S (var l) with
  | some t => if neg l then notL t else t
  | none => l
def pairS (a b : Int) : Int × Int := (min a b, max a b)

def gateS (st : St) (t : Tri) : St :=
  match plainL (litS st.S t.2.1) (litS st.S t.2.2) with
  | some l => { st with S := (var t.1, l) :: st.S }
  | none => match getI st.M (pairS (litS st.S t.2.1) (litS st.S t.2.2)) with
    | some l => { st with S := (var t.1, l) :: st.S }
    | none => { st with M := (pairS (litS st.S t.2.1) (litS st.S t.2.2), t.1) :: st.M, K := st.K ++ [(t.1, litS st.S t.2.1, litS st.S t.2.2)] }
def foldG (ands : List Tri) : St := ands.foldl gateS ⟨[], [], []⟩
theorem foldG_snoc (A : List Tri) (t : Tri) : foldG (A ++ [t]) = gateS (foldG A) t := by unfold foldG; rw [List.foldl_append]; rfl

/-! ### Literals. -/
theorem var_not {s : Int} (h : 0 ≤ s) : var (notL s) = var s := by unfold var notL; split <;> (try split) <;> omega
theorem not_nn {s : Int} (h : 0 ≤ s) : 0 ≤ notL s := by unfold notL; split <;> (try split) <;> omega
theorem neg_not {s : Int} (h : 0 ≤ s) : neg (notL s) = !neg s := by
  unfold neg notL
  rw [if_neg (by omega)]
  by_cases h1 : s % 2 = 1
  · rw [if_pos h1, if_neg (by omega), if_neg (by omega)]
    have e1 : (s % 2 == 1) = true := by simp [h1]
    have e2 : ((s - 1) % 2 == 1) = false := by simp; omega
    rw [e1, e2]; rfl
  · rw [if_neg h1, if_neg (by omega), if_neg (by omega)]
    have e1 : (s % 2 == 1) = false := by simp; omega
    have e2 : ((s + 1) % 2 == 1) = true := by simp; omega
    rw [e1, e2]; rfl

/-- A literal's value. -/
def bitV (V : Int → Bool) (l : Int) : Bool := V (var l) != neg l
theorem bit_not (V : Int → Bool) {s : Int} (h : 0 ≤ s) : bitV V (notL s) = !bitV V s := by
  unfold bitV
  rw [var_not h, neg_not h]
  cases V (var s) <;> cases neg s <;> rfl
theorem bit_zero {V : Int → Bool} (h : V 0 = false) : bitV V 0 = false := by
  unfold bitV
  have e1 : var 0 = 0 := by decide
  have e2 : neg 0 = false := by decide
  rw [e1, e2, h]; rfl
theorem bit_one {V : Int → Bool} (h : V 0 = false) : bitV V 1 = true := by
  unfold bitV
  have e1 : var 1 = 0 := by decide
  have e2 : neg 1 = true := by decide
  rw [e1, e2, h]; rfl

theorem posL_eq {a : Int} (h : 0 ≤ a) : posL a = a := by unfold posL; omega
theorem plain_of {a b : Int} (ha : 0 ≤ a) (hb : 0 ≤ b) : plainL a b = if a = 0 ∨ b = 0 ∨ a = notL b then some 0 else if a = 1 ∨ a = b then some b else if b = 1 then some a else none := by
  unfold plainL; rw [posL_eq ha, posL_eq hb]
theorem plain_sem {V : Int → Bool} (h0 : V 0 = false) {a b r : Int} (ha : 0 ≤ a) (hb : 0 ≤ b) (h : plainL a b = some r) : bitV V r = (bitV V a && bitV V b) := by
  rw [plain_of ha hb] at h
  by_cases h1 : a = 0 ∨ b = 0 ∨ a = notL b
  · rw [if_pos h1] at h
    simp only [Option.some.injEq] at h
    subst h
    rw [bit_zero h0]
    rcases h1 with rfl | rfl | rfl
    · rw [bit_zero h0]; rfl
    · rw [bit_zero h0, Bool.and_false]
    · rw [bit_not V hb]; cases bitV V b <;> rfl
  · rw [if_neg h1] at h
    by_cases h2 : a = 1 ∨ a = b
    · rw [if_pos h2] at h
      simp only [Option.some.injEq] at h
      subst h
      rcases h2 with rfl | rfl
      · rw [bit_one h0, Bool.true_and]
      · rw [Bool.and_self]
    · rw [if_neg h2] at h
      by_cases h3 : b = 1
      · rw [if_pos h3] at h
        simp only [Option.some.injEq] at h
        subst h; subst h3
        rw [bit_one h0, Bool.and_true]
      · rw [if_neg h3] at h; cases h
theorem plain_res {a b r : Int} (ha : 0 ≤ a) (hb : 0 ≤ b) (h : plainL a b = some r) : r = 0 ∨ r = a ∨ r = b := by
  rw [plain_of ha hb] at h
  split at h
  · simp only [Option.some.injEq] at h; exact Or.inl h.symm
  · split at h
    · simp only [Option.some.injEq] at h; exact Or.inr (Or.inr h.symm)
    · split at h
      · simp only [Option.some.injEq] at h; exact Or.inr (Or.inl h.symm)
      · cases h
theorem notL_of {a : Int} (ha : 0 ≤ a) : notL a = if a % 2 = 1 then a - 1 else a + 1 := by unfold notL; rw [if_neg (by omega)]
theorem not_eq_iff {a b : Int} (ha : 0 ≤ a) (hb : 0 ≤ b) : a = notL b ↔ b = notL a := by
  rw [notL_of ha, notL_of hb]
  split <;> split <;> omega
theorem plain_comm {a b : Int} (ha : 0 ≤ a) (hb : 0 ≤ b) : plainL a b = plainL b a := by
  rw [plain_of ha hb, plain_of hb ha]
  by_cases h1 : a = 0 ∨ b = 0 ∨ a = notL b
  · have h2 : b = 0 ∨ a = 0 ∨ b = notL a := by
      rcases h1 with h | h | h
      · exact Or.inr (Or.inl h)
      · exact Or.inl h
      · exact Or.inr (Or.inr ((not_eq_iff ha hb).1 h))
    simp only [if_pos h1, if_pos h2]
  · have h2 : ¬ (b = 0 ∨ a = 0 ∨ b = notL a) := by
      rintro (h | h | h)
      · exact h1 (Or.inr (Or.inl h))
      · exact h1 (Or.inl h)
      · exact h1 (Or.inr (Or.inr ((not_eq_iff ha hb).2 h)))
    simp only [if_neg h1, if_neg h2]
    by_cases e : a = b
    · subst e; rfl
    · have e' : ¬ b = a := fun h => e h.symm
      by_cases e1 : a = 1
      · by_cases e2 : b = 1
        · exact absurd (e1.trans e2.symm) e
        · simp only [e1, e2, true_or, if_true]
          have : ¬ b = 1 := e2
          subst e1
          simp [e']
      · by_cases e2 : b = 1
        · subst e2
          simp [e1, e]
        · simp [e1, e2, e, e']
theorem pair_comm (a b : Int) : pairS a b = pairS b a := by unfold pairS; rw [Int.min_comm, Int.max_comm]

/-! ### The fold's invariant. -/
/-- The values are those of the gates. -/
def Sat (V : Int → Bool) (A : List Tri) : Prop := ∀ t ∈ A, V (var t.1) = (bitV V t.2.1 && bitV V t.2.2)
theorem Sat.left {V : Int → Bool} {A B : List Tri} (h : Sat V (A ++ B)) : Sat V A := fun t ht => h t (List.mem_append_left _ ht)

/-- A gate of rising literals. -/
def Fine (t : Tri) : Prop := 2 ≤ t.1 ∧ t.1 % 2 = 0 ∧ 0 ≤ t.2.1 ∧ t.2.1 < t.1 ∧ 0 ≤ t.2.2 ∧ t.2.2 < t.1
structure Ord (A : List Tri) : Prop where
  rise : A.Pairwise fun a b => a.1 < b.1
  fine : ∀ t ∈ A, Fine t

structure Inv (B : Int → Prop) (A : List Tri) (st : St) : Prop where
  dom : ∀ u s, getI st.S u = some s → (∃ t ∈ A, var t.1 = u) ∧ 0 ≤ s ∧ var s < u ∧ getI st.S (var s) = none ∧ (B (var s) ∨ ∃ k ∈ st.K, var k.1 = var s)
  kept : ∀ k ∈ st.K, Fine k ∧ getI st.S (var k.1) = none ∧ (getI st.S (var k.2.1) = none ∧ (B (var k.2.1) ∨ ∃ k' ∈ st.K, var k'.1 = var k.2.1)) ∧ (getI st.S (var k.2.2) = none ∧ (B (var k.2.2) ∨ ∃ k' ∈ st.K, var k'.1 = var k.2.2)) ∧
    plainL k.2.1 k.2.2 = none ∧ getI st.M (pairS k.2.1 k.2.2) = some k.1
  met : ∀ p l, getI st.M p = some l → ∃ k ∈ st.K, k.1 = l ∧ p = pairS k.2.1 k.2.2
  sub : (st.K.map (·.1)).Sublist (A.map (·.1))
  all : ∀ t ∈ A, (∃ s, getI st.S (var t.1) = some s) ∨ ∃ k ∈ st.K, k.1 = t.1
  at' : ∀ t ∈ A, (∀ r, plainL (litS st.S t.2.1) (litS st.S t.2.2) = some r → litS st.S t.1 = r) ∧
    (plainL (litS st.S t.2.1) (litS st.S t.2.2) = none → getI st.M (pairS (litS st.S t.2.1) (litS st.S t.2.2)) = some (litS st.S t.1))
  sem : ∀ V : Int → Bool, V 0 = false → Sat V A → (∀ u s, getI st.S u = some s → bitV V s = V u) ∧ Sat V st.K

theorem inv_nil (B : Int → Prop) : Inv B [] ⟨[], [], []⟩ :=
  ⟨fun u s h => (by cases h), fun k h => (by cases h), fun p l h => (by cases h), List.Sublist.refl _, fun t h => (by cases h), fun t h => (by cases h), fun V _ _ => ⟨fun u s h => (by cases h), fun k h => (by cases h)⟩⟩

theorem fine_neg {t : Tri} (h : Fine t) : neg t.1 = false := by
  unfold neg
  rw [if_neg (by have := h.1; omega)]
  have := h.2.1
  simp; omega

/-- What stands for a literal: it stands for itself. -/
theorem lit_facts {B : Int → Prop} {A : List Tri} {st : St} (h : Inv B A st) {l : Int} (hl : 0 ≤ l) (hb : B (var l) ∨ ∃ t ∈ A, var t.1 = var l) (hA : ∀ t ∈ A, Fine t) :
    0 ≤ litS st.S l ∧ var (litS st.S l) ≤ var l ∧ getI st.S (var (litS st.S l)) = none ∧ (B (var (litS st.S l)) ∨ ∃ k ∈ st.K, var k.1 = var (litS st.S l)) := by
  unfold litS
  cases hg : getI st.S (var l) with
  | none =>
    simp only
    refine ⟨hl, Int.le_refl _, hg, ?_⟩
    rcases hb with hb | ⟨t, ht, he⟩
    · exact Or.inl hb
    · rcases h.all t ht with ⟨s, hs⟩ | ⟨k, hk, hk1⟩
      · rw [he, hg] at hs; cases hs
      · exact Or.inr ⟨k, hk, by rw [hk1, he]⟩
  | some s =>
    simp only
    obtain ⟨_, h0, hv, hn, hbk⟩ := h.dom _ _ hg
    split
    · exact ⟨not_nn h0, by rw [var_not h0]; omega, by rw [var_not h0]; exact hn, by rw [var_not h0]; exact hbk⟩
    · exact ⟨h0, by omega, hn, hbk⟩

theorem lit_sem {B : Int → Prop} {A : List Tri} {st : St} (h : Inv B A st) {V : Int → Bool} (h0 : V 0 = false) (hs : Sat V A) (l : Int) : bitV V (litS st.S l) = bitV V l := by
  unfold litS
  cases hg : getI st.S (var l) with
  | none => rfl
  | some s =>
    simp only
    have h1 := (h.sem V h0 hs).1 _ _ hg
    have h2 := (h.dom _ _ hg).2.1
    cases hn : neg l
    · simp only [Bool.false_eq_true, if_false]
      rw [h1]; unfold bitV; rw [hn]; simp
    · simp only [if_true]
      rw [bit_not V h2, h1]; unfold bitV; rw [hn]; simp

theorem var_lt {t : Tri} (h : Fine t) {l : Int} (h0 : 0 ≤ l) (hl : l < t.1) : var l < var t.1 := by
  unfold var; have := h.1; have := h.2.1; omega
theorem lt_of_var {t : Tri} (h : Fine t) {l : Int} (h0 : 0 ≤ l) (hl : var l < var t.1) : l < t.1 := by
  unfold var at hl; have := h.1; have := h.2.1; omega

/-- A literal is as before, where one more variable is said of. -/
theorem lit_more (S : List (Int × Int)) (u s : Int) {l : Int} (h : var l ≠ u) : litS ((u, s) :: S) l = litS S l := by
  unfold litS
  rw [getI_other S s (fun e => h e.symm)]

theorem inv_stands {B : Int → Prop} {A : List Tri} {st : St} (h : Inv B A st) {t : Tri} (ht : Fine t) (hlt : ∀ t' ∈ A, t'.1 < t.1) (hA : ∀ t' ∈ A, Fine t') (hB : ¬ B (var t.1))
    (hl : B (var t.2.1) ∨ ∃ t' ∈ A, var t'.1 = var t.2.1) (hr : B (var t.2.2) ∨ ∃ t' ∈ A, var t'.1 = var t.2.2) (s : Int) (hs0 : 0 ≤ s) (hsv : var s < var t.1) (hsn : getI st.S (var s) = none) (hsb : B (var s) ∨ ∃ k ∈ st.K, var k.1 = var s)
    (hat : (∀ r, plainL (litS st.S t.2.1) (litS st.S t.2.2) = some r → s = r) ∧ (plainL (litS st.S t.2.1) (litS st.S t.2.2) = none → getI st.M (pairS (litS st.S t.2.1) (litS st.S t.2.2)) = some s))
    (hsem : ∀ V : Int → Bool, V 0 = false → Sat V A → bitV V s = (bitV V (litS st.S t.2.1) && bitV V (litS st.S t.2.2))) : Inv B (A ++ [t]) { st with S := (var t.1, s) :: st.S } := by
  have hvA : ∀ t' ∈ A, var t'.1 < var t.1 := fun t' h' => var_lt ht (by have := (hA t' h').1; omega) (hlt t' h')
  have hvl : var t.2.1 < var t.1 := var_lt ht ht.2.2.1 ht.2.2.2.1
  have hvr : var t.2.2 < var t.1 := var_lt ht ht.2.2.2.2.1 ht.2.2.2.2.2
  have hkA : ∀ k ∈ st.K, ∃ t' ∈ A, t'.1 = k.1 := fun k hk => by
    have := h.sub.subset (List.mem_map.2 ⟨k, hk, rfl⟩)
    obtain ⟨t', h1, h2⟩ := List.mem_map.1 this
    exact ⟨t', h1, h2⟩
  have hkv : ∀ k ∈ st.K, var k.1 < var t.1 := fun k hk => by
    obtain ⟨t', h1, h2⟩ := hkA k hk
    rw [← h2]; exact hvA t' h1
  have keep : ∀ u, u < var t.1 → getI ((var t.1, s) :: st.S) u = getI st.S u := fun u hu => getI_other _ _ (by omega)
  refine ⟨?_, ?_, h.met, ?_, ?_, ?_, ?_⟩
  · intro u s' hg
    by_cases hu : var t.1 = u
    · subst hu
      simp only at hg
      rw [getI_same] at hg
      simp only [Option.some.injEq] at hg
      subst hg
      exact ⟨⟨t, by simp, rfl⟩, hs0, hsv, by simp only; rw [keep _ hsv]; exact hsn, hsb⟩
    · simp only at hg
      rw [getI_other _ _ hu] at hg
      obtain ⟨⟨t', h1, h2⟩, h3, h4, h5, h6⟩ := h.dom u s' hg
      have := hvA t' h1
      exact ⟨⟨t', List.mem_append_left _ h1, h2⟩, h3, h4, by simp only; rw [keep _ (by omega)]; exact h5, h6⟩
  · intro k hk
    obtain ⟨h1, h2, ⟨h3, h4⟩, ⟨h5, h6⟩, h7, h8⟩ := h.kept k hk
    have hv := hkv k hk
    have hv1 := var_lt h1 h1.2.2.1 h1.2.2.2.1
    have hv2 := var_lt h1 h1.2.2.2.2.1 h1.2.2.2.2.2
    exact ⟨h1, by simp only; rw [keep _ hv]; exact h2, ⟨by simp only; rw [keep _ (by omega)]; exact h3, h4⟩, ⟨by simp only; rw [keep _ (by omega)]; exact h5, h6⟩, h7, h8⟩
  · rw [List.map_append]
    exact h.sub.trans (List.sublist_append_left _ _)
  · intro t' ht'
    rcases List.mem_append.1 ht' with h1 | h1
    · rcases h.all t' h1 with ⟨s', hs'⟩ | hk
      · exact Or.inl ⟨s', by simp only; rw [keep _ (hvA t' h1)]; exact hs'⟩
      · exact Or.inr hk
    · rw [List.mem_singleton] at h1
      subst h1
      exact Or.inl ⟨s, getI_same _ _ _⟩
  · intro t' ht'
    simp only
    rcases List.mem_append.1 ht' with h1 | h1
    · have hf := hA t' h1
      have hv := hvA t' h1
      have hv1 := var_lt hf hf.2.2.1 hf.2.2.2.1
      have hv2 := var_lt hf hf.2.2.2.2.1 hf.2.2.2.2.2
      rw [lit_more st.S _ _ (by omega), lit_more st.S _ _ (by omega), lit_more st.S _ _ (by omega)]
      exact h.at' t' h1
    · rw [List.mem_singleton] at h1
      subst h1
      rw [lit_more st.S _ _ (by omega), lit_more st.S _ _ (by omega)]
      have e : litS ((var t'.1, s) :: st.S) t'.1 = s := by
        unfold litS
        rw [getI_same]
        simp only [fine_neg ht, Bool.false_eq_true, if_false]
      rw [e]
      exact hat
  · intro V h0 hsat
    have hsA := hsat.left
    obtain ⟨g1, g2⟩ := h.sem V h0 hsA
    refine ⟨?_, g2⟩
    intro u s' hg
    by_cases hu : var t.1 = u
    · subst hu
      simp only at hg
      rw [getI_same] at hg
      simp only [Option.some.injEq] at hg
      subst hg
      rw [hsem V h0 hsA, lit_sem h h0 hsA, lit_sem h h0 hsA]
      exact (hsat t (by simp)).symm
    · simp only at hg
      rw [getI_other _ _ hu] at hg
      exact g1 u s' hg

theorem inv_kept {B : Int → Prop} {A : List Tri} {st : St} (h : Inv B A st) {t : Tri} (ht : Fine t) (hlt : ∀ t' ∈ A, t'.1 < t.1) (hA : ∀ t' ∈ A, Fine t') (hB : ¬ B (var t.1))
    (hl : B (var t.2.1) ∨ ∃ t' ∈ A, var t'.1 = var t.2.1) (hr : B (var t.2.2) ∨ ∃ t' ∈ A, var t'.1 = var t.2.2)
    (hp : plainL (litS st.S t.2.1) (litS st.S t.2.2) = none) (hm : getI st.M (pairS (litS st.S t.2.1) (litS st.S t.2.2)) = none) :
    Inv B (A ++ [t]) { st with M := (pairS (litS st.S t.2.1) (litS st.S t.2.2), t.1) :: st.M, K := st.K ++ [(t.1, litS st.S t.2.1, litS st.S t.2.2)] } := by
  have hvA : ∀ t' ∈ A, var t'.1 < var t.1 := fun t' h' => var_lt ht (by have := (hA t' h').1; omega) (hlt t' h')
  have hvl : var t.2.1 < var t.1 := var_lt ht ht.2.2.1 ht.2.2.2.1
  have hvr : var t.2.2 < var t.1 := var_lt ht ht.2.2.2.2.1 ht.2.2.2.2.2
  obtain ⟨a0, a1, a2, a3⟩ := lit_facts h ht.2.2.1 hl hA
  obtain ⟨b0, b1, b2, b3⟩ := lit_facts h ht.2.2.2.2.1 hr hA
  have hself : getI st.S (var t.1) = none := by
    cases hg : getI st.S (var t.1) with
    | none => rfl
    | some s =>
      obtain ⟨⟨t', h1, h2⟩, _⟩ := h.dom _ _ hg
      have := hvA t' h1
      omega
  have hkA : ∀ k ∈ st.K, ∃ t' ∈ A, t'.1 = k.1 := fun k hk => by
    have := h.sub.subset (List.mem_map.2 ⟨k, hk, rfl⟩)
    obtain ⟨t', h1, h2⟩ := List.mem_map.1 this
    exact ⟨t', h1, h2⟩
  have hmore : ∀ v, (B v ∨ ∃ k ∈ st.K, var k.1 = v) → (B v ∨ ∃ k ∈ st.K ++ [(t.1, litS st.S t.2.1, litS st.S t.2.2)], var k.1 = v) := by
    rintro v (hb | ⟨k, hk, he⟩)
    · exact Or.inl hb
    · exact Or.inr ⟨k, List.mem_append_left _ hk, he⟩
  have hkeep : ∀ p l, getI st.M p = some l → getI ((pairS (litS st.S t.2.1) (litS st.S t.2.2), t.1) :: st.M) p = some l := by
    intro p l hg
    rw [getI_other _ _ (by rintro rfl; rw [hm] at hg; cases hg)]
    exact hg
  refine ⟨?_, ?_, ?_, ?_, ?_, ?_, ?_⟩
  · intro u s' hg
    obtain ⟨⟨t', h1, h2⟩, h3, h4, h5, h6⟩ := h.dom u s' hg
    exact ⟨⟨t', List.mem_append_left _ h1, h2⟩, h3, h4, h5, hmore _ h6⟩
  · intro k hk
    rcases List.mem_append.1 hk with h1 | h1
    · obtain ⟨g1, g2, ⟨g3, g4⟩, ⟨g5, g6⟩, g7, g8⟩ := h.kept k h1
      exact ⟨g1, g2, ⟨g3, hmore _ g4⟩, ⟨g5, hmore _ g6⟩, g7, hkeep _ _ g8⟩
    · rw [List.mem_singleton] at h1
      subst h1
      have q1 : litS st.S t.2.1 < t.1 := lt_of_var ht a0 (by omega)
      have q2 : litS st.S t.2.2 < t.1 := lt_of_var ht b0 (by omega)
      exact ⟨⟨ht.1, ht.2.1, a0, q1, b0, q2⟩, hself, ⟨a2, hmore _ a3⟩, ⟨b2, hmore _ b3⟩, hp, getI_same _ _ _⟩
  · intro p l hg
    simp only at hg
    by_cases he : pairS (litS st.S t.2.1) (litS st.S t.2.2) = p
    · subst he
      rw [getI_same] at hg
      simp only [Option.some.injEq] at hg
      exact ⟨(t.1, litS st.S t.2.1, litS st.S t.2.2), by simp, hg, rfl⟩
    · rw [getI_other _ _ he] at hg
      obtain ⟨k, hk, g1, g2⟩ := h.met p l hg
      exact ⟨k, List.mem_append_left _ hk, g1, g2⟩
  · rw [List.map_append, List.map_append]
    exact h.sub.append (List.Sublist.refl _)
  · intro t' ht'
    rcases List.mem_append.1 ht' with h1 | h1
    · rcases h.all t' h1 with hs | ⟨k, hk, he⟩
      · exact Or.inl hs
      · exact Or.inr ⟨k, List.mem_append_left _ hk, he⟩
    · rw [List.mem_singleton] at h1
      subst h1
      exact Or.inr ⟨_, List.mem_append_right _ (List.mem_singleton.2 rfl), rfl⟩
  · intro t' ht'
    simp only
    rcases List.mem_append.1 ht' with h1 | h1
    · exact ⟨(h.at' t' h1).1, fun hn => hkeep _ _ ((h.at' t' h1).2 hn)⟩
    · rw [List.mem_singleton] at h1
      subst h1
      refine ⟨fun r hr' => (by rw [hp] at hr'; cases hr'), fun _ => ?_⟩
      rw [getI_same]
      unfold litS
      rw [hself]
  · intro V h0 hsat
    have hsA := hsat.left
    obtain ⟨g1, g2⟩ := h.sem V h0 hsA
    refine ⟨g1, fun k hk => ?_⟩
    rcases List.mem_append.1 hk with h1 | h1
    · exact g2 k h1
    · rw [List.mem_singleton] at h1
      subst h1
      show V (var t.1) = (bitV V (litS st.S t.2.1) && bitV V (litS st.S t.2.2))
      rw [lit_sem h h0 hsA, lit_sem h h0 hsA]
      exact hsat t (by simp)

theorem inv_gate {B : Int → Prop} {A : List Tri} {st : St} (hB0 : B 0) (h : Inv B A st) {t : Tri} (ht : Fine t) (hlt : ∀ t' ∈ A, t'.1 < t.1) (hA : ∀ t' ∈ A, Fine t') (hB : ¬ B (var t.1))
    (hl : B (var t.2.1) ∨ ∃ t' ∈ A, var t'.1 = var t.2.1) (hr : B (var t.2.2) ∨ ∃ t' ∈ A, var t'.1 = var t.2.2) : Inv B (A ++ [t]) (gateS st t) := by
  have hvl : var t.2.1 < var t.1 := var_lt ht ht.2.2.1 ht.2.2.2.1
  have hvr : var t.2.2 < var t.1 := var_lt ht ht.2.2.2.2.1 ht.2.2.2.2.2
  obtain ⟨a0, a1, a2, a3⟩ := lit_facts h ht.2.2.1 hl hA
  obtain ⟨b0, b1, b2, b3⟩ := lit_facts h ht.2.2.2.2.1 hr hA
  unfold gateS
  cases hp : plainL (litS st.S t.2.1) (litS st.S t.2.2) with
  | some r =>
    simp only
    have hz : getI st.S (0 : Int) = none := by
      cases hg : getI st.S (0 : Int) with
      | none => rfl
      | some s =>
        obtain ⟨⟨t', h1, h2⟩, _⟩ := h.dom _ _ hg
        have := (hA t' h1).1
        unfold var at h2
        omega
    have hv0 : var (0 : Int) = 0 := by decide
    have hpos : 0 < var t.1 := by have := ht.1; unfold var; omega
    have hres : 0 ≤ r ∧ var r < var t.1 ∧ getI st.S (var r) = none ∧ (B (var r) ∨ ∃ k ∈ st.K, var k.1 = var r) := by
      rcases plain_res a0 b0 hp with rfl | rfl | rfl
      · rw [hv0]; exact ⟨Int.le_refl _, hpos, hz, Or.inl hB0⟩
      · exact ⟨a0, by omega, a2, a3⟩
      · exact ⟨b0, by omega, b2, b3⟩
    exact inv_stands h ht hlt hA hB hl hr r hres.1 hres.2.1 hres.2.2.1 hres.2.2.2 ⟨fun r' hr' => by rw [hp] at hr'; simpa using hr', fun hn => (by rw [hp] at hn; cases hn)⟩
      (fun V h0 _ => plain_sem h0 a0 b0 hp)
  | none =>
    simp only
    cases hm : getI st.M (pairS (litS st.S t.2.1) (litS st.S t.2.2)) with
    | some l =>
      simp only
      obtain ⟨k, hk, rfl, hpk⟩ := h.met _ _ hm
      obtain ⟨g1, g2, ⟨g3, g4⟩, ⟨g5, g6⟩, g7, g8⟩ := h.kept k hk
      have hkA : ∃ t' ∈ A, t'.1 = k.1 := by
        have := h.sub.subset (List.mem_map.2 ⟨k, hk, rfl⟩)
        obtain ⟨t', h1, h2⟩ := List.mem_map.1 this
        exact ⟨t', h1, h2⟩
      obtain ⟨t', h1, h2⟩ := hkA
      refine inv_stands h ht hlt hA hB hl hr k.1 (by have := g1.1; omega) (by rw [← h2]; exact var_lt ht (by have := (hA t' h1).1; omega) (hlt t' h1)) g2 (Or.inr ⟨k, hk, rfl⟩)
        ⟨fun r' hr' => (by rw [hp] at hr'; cases hr'), fun _ => hm⟩ ?_
      intro V h0 hsA
      have hsk := (h.sem V h0 hsA).2 k hk
      have e1 : bitV V k.1 = V (var k.1) := by unfold bitV; rw [fine_neg g1]; simp
      rw [e1, hsk]
      unfold pairS at hpk
      simp only [Prod.mk.injEq] at hpk
      have hor : (litS st.S t.2.1 = k.2.1 ∧ litS st.S t.2.2 = k.2.2) ∨ (litS st.S t.2.1 = k.2.2 ∧ litS st.S t.2.2 = k.2.1) := by omega
      rcases hor with ⟨e1, e2⟩ | ⟨e1, e2⟩
      · rw [e1, e2]
      · rw [e1, e2, Bool.and_comm]
    | none => exact inv_kept h ht hlt hA hB hl hr hp hm

/-- All operands are something: a base's variable or a gate's ahead. -/
def Known (B : Int → Prop) (A : List Tri) : Prop := ∀ t ∈ A, (B (var t.2.1) ∨ ∃ t' ∈ A, var t'.1 = var t.2.1) ∧ (B (var t.2.2) ∨ ∃ t' ∈ A, var t'.1 = var t.2.2)

theorem inv_fold {B : Int → Prop} (hB0 : B 0) : ∀ (n : Nat) (A : List Tri), A.length = n → Ord A → (∀ t ∈ A, ¬ B (var t.1)) → Known B A → Inv B A (foldG A)
  | 0, A, hn, _, _, _ => by
    have : A = [] := List.eq_nil_of_length_eq_zero hn
    subst this
    exact inv_nil B
  | n + 1, A, hn, ho, hb, hk => by
    obtain ⟨A', t, rfl⟩ : ∃ A' t, A = A' ++ [t] := by
      rcases List.eq_nil_or_concat A with rfl | ⟨A', t, h⟩
      · simp at hn
      · exact ⟨A', t, by rw [h, List.concat_eq_append]⟩
    have hrise := List.pairwise_append.1 ho.rise
    have hlt : ∀ t' ∈ A', t'.1 < t.1 := fun t' ht' => hrise.2.2 t' ht' t (by simp)
    have hft := ho.fine t (by simp)
    have hA : ∀ t' ∈ A', Fine t' := fun t' ht' => ho.fine t' (List.mem_append_left _ ht')
    have hback : ∀ {l : Int}, 0 ≤ l → (u : Tri) → u ∈ A' ++ [t] → Fine u → l < u.1 → (B (var l) ∨ ∃ t' ∈ A' ++ [t], var t'.1 = var l) → (B (var l) ∨ ∃ t' ∈ A', var t'.1 = var l) := by
      intro l h0 u hu hfu hlu h
      rcases h with h | ⟨t', ht', he⟩
      · exact Or.inl h
      · rcases List.mem_append.1 ht' with h1 | h1
        · exact Or.inr ⟨t', h1, he⟩
        · rw [List.mem_singleton] at h1
          subst h1
          have h2 := var_lt hfu h0 hlu
          have h3 : var u.1 ≤ var t'.1 := by
            rcases List.mem_append.1 hu with h4 | h4
            · have := var_lt hft (by have := (hA u h4).1; omega) (hlt u h4); omega
            · rw [List.mem_singleton] at h4; rw [h4]; exact Int.le_refl _
          omega
    have hk' : Known B A' := fun t' ht' => by
      have hf := hA t' ht'
      obtain ⟨h1, h2⟩ := hk t' (List.mem_append_left _ ht')
      exact ⟨hback hf.2.2.1 t' (List.mem_append_left _ ht') hf hf.2.2.2.1 h1, hback hf.2.2.2.2.1 t' (List.mem_append_left _ ht') hf hf.2.2.2.2.2 h2⟩
    have ih := inv_fold hB0 n A' (by simp at hn; omega) ⟨hrise.1, hA⟩ (fun t' ht' => hb t' (List.mem_append_left _ ht')) hk'
    obtain ⟨h1, h2⟩ := hk t (by simp)
    rw [foldG_snoc]
    exact inv_gate hB0 ih hft hlt hA (hb t (by simp)) (hback hft.2.2.1 t (by simp) hft hft.2.2.2.1 h1) (hback hft.2.2.2.2.1 t (by simp) hft hft.2.2.2.2.2 h2)
end StrashP
end Go.Proofs.YtninglnchengeaaGreatDoor
