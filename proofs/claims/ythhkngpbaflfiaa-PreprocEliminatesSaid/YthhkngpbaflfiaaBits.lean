/-
  formula.bits: a number's bits as a text, the highest first.
-/
import Derived.Test.YthhkngpbaflfiaaBack
import Derived.Laws.IdiomStrings
namespace Go.Proofs.Ythhkngpbaflfiaa
open Go.RowKit Go.Shelf Base
set_option linter.unusedVariables false
set_option linter.unusedSimpArgs false
attribute [local go_sem] Oper.semAt_some
namespace Back

theorem wpLIn_make {F : Fence} {n : Nat} {P : Program} {w : World} {ops : Array Oper} {rest : List Oper} {dst : Option Tmp} {ty : TypeId} {pos : String} {af : Array Edge} {a : Act} {Q : Exit → Act → World → Prop}
    {l c : Operand} {t e : TypeId} {z : Value} {bytes : Nat} (m : Nat) {L C : Int}
    (hinfo : (P.info? e).map (fun i => (i.zero, i.size, i.bytes)) = some (some z, 1, bytes)) (ht : P.underlying t = some (.slice e)) (hzs : z.cells = #[z])
    (hl : a.eval l = .int .i64 L) (hc : a.eval c = .int .i64 C) (hL : L = (m : Int)) (hC : C = (m : Int)) (hn : bytes * m ≤ 281474976710656) (hn' : m ≤ 9223372036854775807)
    (hK : ∀ g w1, w1.ownsRow w.heap.size e 1 (.slice (some ⟨g, 0, none⟩) m m) m (List.replicate m z) → Below w.heap.size w w1 → g = w.heap.size → g < w1.heap.size → wpListIn F n P ops Q rest (a.put dst (.slice (some ⟨g, 0, none⟩) m m)) w1) :
    wpListIn F n P ops Q (⟨dst, .makeSlice t l c, ty, pos, af, none⟩ :: rest) a w := by
  obtain ⟨i, hi, hz0, hz1, hz2⟩ := info_parts hinfo
  refine wpListIn_plain rfl fun K hK' => ?_
  obtain ⟨w1, hrun, hown, hg⟩ := run_make_full (P := P) w w.heap.size t e i z 1 ht hi hz0 hz1 .i64 .i64 m (by rw [hz2]; exact hn) (by unfold maxLen; omega) (Nat.le_refl _)
  subst hL
  subst hC
  rw [hzs, Nat.mul_one, toList_madeCells_one] at hown
  have hlt := hown.lt w.heap.size rfl
  unfold Oper.wpIn
  refine ⟨?_, ?_⟩
  · simp [Oper.about]
  · rw [Oper.semAt_plain F _ _ (by intro c hc'; cases hc')]
    simp [execOp, hl, hc, hrun, Result.andThen]
    exact hK' _ _ (hK w.heap.size w1 hown ((Below.refl _ _).grown hg (Nat.le_refl _) (fun k hk => by cases hk)) rfl hlt.2)

theorem info_u8 : (Try.prog.info? 5).map (fun i => (i.zero, i.size, i.bytes)) = some (some (.int .u8 0), 1, 1) := by kernel_rfl

/-- The text so far, and what is left of the number. -/
def step (p : List UInt8 × Nat) (i : Nat) : List UInt8 × Nat := (p.1.set i (UInt8.ofNat (48 + p.2 % 2)), p.2 / 2)
def st (V N : Nat) (pre : List Nat) : List UInt8 × Nat := pre.foldl step (List.replicate V 0, N)
theorem st_snoc (V N : Nat) (pre : List Nat) (i : Nat) : st V N (pre ++ [i]) = step (st V N pre) i := by unfold st; rw [List.foldl_append]; rfl
theorem st_le (V N : Nat) (pre : List Nat) : (st V N pre).2 ≤ N := by
  unfold st
  suffices h : ∀ (p : List UInt8 × Nat), p.2 ≤ N → (pre.foldl step p).2 ≤ N from h _ (Nat.le_refl _)
  induction pre with
  | nil => intro p h; exact h
  | cons i r ih => intro p h; exact ih _ (Nat.le_trans (Nat.div_le_self _ _) h)
theorem st_len (V N : Nat) (pre : List Nat) : (st V N pre).1.length = V := by
  unfold st
  suffices h : ∀ (p : List UInt8 × Nat), p.1.length = V → (pre.foldl step p).1.length = V from h _ (by simp)
  induction pre with
  | nil => intro p h; exact h
  | cons i r ih => intro p h; exact ih _ (by unfold step; simpa using h)
theorem and1 (m : Nat) (h : m ≤ 1073741824) : bits BinOp.and IntKind.i64 (m : Int) 1 = ((m % 2 : Nat) : Int) := by
  unfold bits
  show IntKind.i64.wrap (((BitVec.ofInt 64 (m : Int)) &&& (BitVec.ofInt 64 1)).toNat : Int) = _
  have e : ((BitVec.ofInt 64 (m : Int)) &&& (BitVec.ofInt 64 1)).toNat = m % 2 := by
    rw [BitVec.toNat_and]
    have h1 : (BitVec.ofInt 64 (m : Int)).toNat = m := by simp; omega
    have h2 : (BitVec.ofInt 64 1).toNat = 1 := rfl
    rw [h1, h2, Nat.and_one_is_mod]
  rw [e]
  have : m % 2 = 0 ∨ m % 2 = 1 := by omega
  rcases this with h | h <;> rw [h] <;> rfl
def vals (l : List UInt8) : List Value := l.map fun b => .int .u8 (b.toNat : Int)

theorem backward_any (w : World) (a : Option Addr) (len cap : Nat) (F : Fence) (n : Nat) (hf : F.fn 58) (hro : F.round = none) :
    CallsIn F n Try.prog 58 #[.slice a len cap] w fun e w' => e = .returned (.func (.func 76) #[] #[.pointer (some ⟨w.heap.size, 0, none⟩)]) ∧ w' = w.alloc (.cells #[.slice a len cap] 72) := by
  refine callsIn_of_wp Try.func58 rfl hf ?_ hro
  simp only [Try.ntmps58, List.size_toArray, List.length_cons, List.length_nil, Nat.reduceAdd, Nat.reduceSub, Array.replicate_succ, Array.replicate_zero, List.push_toArray, List.append_toArray, List.nil_append, List.cons_append]
  gi_wp2
  go_ret
  exact ⟨rfl, rfl⟩

theorem back_stops (F : Fence) (n : Nat) (hf : F.fn 76) (hro : F.round = none) (hn : 1 ≤ n) (Bx g len cap : Nat) (hlen : len ≤ 1073741824) (w : World) (hBx : Bx < w.heap.size) (hg : g < w.heap.size)
    (hc : w.cell? ⟨Bx, 0, none⟩ = some (.slice (some ⟨g, 0, none⟩) len cap)) (hb : ∀ j, j < len → ∃ v, w.cell? ⟨g, j, none⟩ = some (.int .u8 v)) :
    SeqStopsK F n Try.prog 76 #[.pointer (some ⟨Bx, 0, none⟩)] (encs len) (Kp Bx g len) (fun ys => ys.map (·.1.1) = down len len) (fun _ => True) len w :=
  fun l J Jx W hW _ _ hY h0 => back1_in F n hf hro hn l Bx g len cap hlen J Jx hY W ((hW.cell (p := ⟨Bx, 0, none⟩) hBx).trans hc) (fun j hj => by
    obtain ⟨v, hv⟩ := hb j hj
    exact ⟨v, (hW.cell (p := ⟨g, j, none⟩) hg).trans hv⟩) h0

theorem own_kept {X Y : World} {row : Option Nat} {base : Nat} {e : TypeId} {size : Nat} {v : Value} {k : Nat} {xs : List Value} (h : X.ownsRow base e size v k xs) (hg : X.grownBy Y row) (hrow : ∀ r, row = some r → ∃ o : Obj, X.heap[r]? = some o ∧ o.isCells = false) : Y.ownsRow base e size v k xs := by
  refine h.kept hg ?_
  rcases h.2 with ⟨rfl, _⟩ | ⟨g, cap, cur, rfl, _, hgb, _⟩
  · exact .inl rfl
  · refine .inr fun e' => ?_
    obtain ⟨o, ho, hc⟩ := hrow g e'.symm
    rw [hgb] at ho
    cases ho
    cases hc

set_option maxRecDepth 100000 in
set_option maxHeartbeats 2000000 in
theorem bits_in (F : Fence) (n : Nat) (h0 : F.fn 38) (h1 : F.fn 58) (h2 : F.fn 76) (hro : F.round = none) (hn : 3 ≤ n) (N V : Nat) (hN : N ≤ 1073741824) (hV : V ≤ 1073741824) (w : World) :
    CallsIn F n Try.prog 38 #[.int .i64 N, .int .i64 V] w fun e w' => e = .returned (.string ⟨(st V N (down V V)).1.toArray⟩) ∧ Below w.heap.size w w' := by
  have hn1 : 1 ≤ n := by omega
  refine callsIn_of_wp_marks Try.func38 rfl h0 ?_ hro
  simp only [Try.ntmps38, List.size_toArray, List.length_cons, List.length_nil, Nat.reduceAdd, Nat.reduceSub, Array.replicate_succ, Array.replicate_zero, List.push_toArray, List.append_toArray, List.nil_append, List.cons_append]
  gi_wp2_with (first | ((with_reducible refine wpLIn_make V (L := (V : Int)) (C := (V : Int)) info_u8 Try.underlying72 ?_ ?_ ?_ ?_ ?_ ?_ ?_ ?_); rfl; rfl; rfl; rfl; rfl; omega; omega; (intro g w3 hown3 hb3 hg hg')) | (gi_at_call 58; refine (backward_any _ _ _ _ F (n - 1) h1 hro).mono ?_; rintro e w' ⟨rfl, rfl⟩))
  have hs1 : (w.alloc (.cells #[.int .i64 N] 3)).heap.size = w.heap.size + 1 := by simp
  rw [hs1] at hown3 hb3 hg
  subst hg
  have hs5 : ((w3.alloc (.cells #[.slice (some ⟨w.heap.size + 1, 0, none⟩) V V] 72)).alloc (.cells #[.slice (some ⟨w.heap.size + 1, 0, none⟩) V V] 72)).heap.size = w3.heap.size + 1 + 1 := by simp
  have hB1 : Below w.heap.size w (w.alloc (.cells #[.int .i64 N] 3)) := (Below.refl _ _).alloc (Nat.le_refl _) _
  have hB3 : Below w.heap.size w w3 := hB1.trans (hb3.mono (by omega))
  have hB5 : Below w.heap.size w ((w3.alloc (.cells #[.slice (some ⟨w.heap.size + 1, 0, none⟩) V V] 72)).alloc (.cells #[.slice (some ⟨w.heap.size + 1, 0, none⟩) V V] 72)) := (hB3.alloc (by omega) _).alloc (by simp; omega) _
  have hn3 : w3.cell? ⟨w.heap.size, 0, none⟩ = some (.int .i64 N) := (hb3.cell (p := ⟨w.heap.size, 0, none⟩) (Nat.lt_succ_self _)).trans (by simp)
  have hz3 : w3.frozen? ⟨w.heap.size, 0, none⟩ = false := (hb3.frozen (p := ⟨w.heap.size, 0, none⟩) (Nat.lt_succ_self _)).trans (by simp [go_sem])
  have hown5 := (hown3.alloc (.cells #[.slice (some ⟨w.heap.size + 1, 0, none⟩) V V] 72)).alloc (.cells #[.slice (some ⟨w.heap.size + 1, 0, none⟩) V V] 72)
  have c5 : ((w3.alloc (.cells #[.slice (some ⟨w.heap.size + 1, 0, none⟩) V V] 72)).alloc (.cells #[.slice (some ⟨w.heap.size + 1, 0, none⟩) V V] 72)).cell? ⟨w.heap.size, 0, none⟩ = some (.int .i64 N) := (World.cell?_alloc_past _ _ _ (by simp; omega)).trans ((World.cell?_alloc_past _ _ _ (by omega)).trans hn3)
  have z5 : ((w3.alloc (.cells #[.slice (some ⟨w.heap.size + 1, 0, none⟩) V V] 72)).alloc (.cells #[.slice (some ⟨w.heap.size + 1, 0, none⟩) V V] 72)).frozen? ⟨w.heap.size, 0, none⟩ = false := by
    have h := (((Below.refl w3.heap.size w3).alloc (Nat.le_refl _) (.cells #[.slice (some ⟨w.heap.size + 1, 0, none⟩) V V] 72)).alloc (by simp) (.cells #[.slice (some ⟨w.heap.size + 1, 0, none⟩) V V] 72)).frozen (p := ⟨w.heap.size, 0, none⟩) (by show w.heap.size < _; omega)
    exact h.trans hz3
  have b5 : ((w3.alloc (.cells #[.slice (some ⟨w.heap.size + 1, 0, none⟩) V V] 72)).alloc (.cells #[.slice (some ⟨w.heap.size + 1, 0, none⟩) V V] 72)).cell? ⟨w3.heap.size, 0, none⟩ = some (.slice (some ⟨w.heap.size + 1, 0, none⟩) V V) := by simp
  have x5 : ((w3.alloc (.cells #[.slice (some ⟨w.heap.size + 1, 0, none⟩) V V] 72)).alloc (.cells #[.slice (some ⟨w.heap.size + 1, 0, none⟩) V V] 72)).cell? ⟨w3.heap.size + 1, 0, none⟩ = some (.slice (some ⟨w.heap.size + 1, 0, none⟩) V V) := by simp
  generalize (w3.alloc (.cells #[.slice (some ⟨w.heap.size + 1, 0, none⟩) V V] 72)).alloc (.cells #[.slice (some ⟨w.heap.size + 1, 0, none⟩) V V] 72) = W5 at *
  refine wpIn_rangeFunc_ownF hro hn1 (gf := 76) (lb := #[.pointer (some ⟨w3.heap.size + 1, 0, none⟩)]) rfl h2 (enters_of Try.func76 (by kernel_rfl) rfl)
    (back_stops F (n - 1) h2 hro (by omega) (w3.heap.size + 1) (w.heap.size + 1) V V hV W5 (by omega) (by omega) x5 (fun j hj => ⟨0, by have h := hown5.cellAt j (by omega); rw [h]; simp [hj]⟩))
    (fun h k => h.trans k) (fun W l o o' _ h hc _ => Kp.put W l o o' h hc) (Below.refl _ _) (fun _ => rfl)
    (fun pre W => (W.cell? ⟨w.heap.size, 0, none⟩ = some (.int .i64 ((st V N (pre.map (·.1.1))).2 : Nat)) ∧ W.frozen? ⟨w.heap.size, 0, none⟩ = false ∧ W.cell? ⟨w3.heap.size, 0, none⟩ = some (.slice (some ⟨w.heap.size + 1, 0, none⟩) V V) ∧
      W.ownsRow (w.heap.size + 1) 5 1 (.slice (some ⟨w.heap.size + 1, 0, none⟩) V V) V (vals (st V N (pre.map (·.1.1))).1)) ∧ Below w.heap.size w W)
    (fun _ _ _ => False)
    (OwnFrom.and (Own.from (fun s A B row hs hg hr => ⟨cell_kept hs.1 hg hr, (frozen_kept hs.1 hg hr).trans hs.2.1, cell_kept hs.2.2.1 hg hr, own_kept hs.2.2.2 hg hr⟩) _) (ownFrom_below (Nat.le_refl _) (by omega)))
    (fun _ _ _ _ _ hs _ _ => hs)
    ⟨⟨c5, z5, b5, (by
      show W5.ownsRow _ _ _ _ _ (vals (st V N []).1)
      have e : vals (st V N []).1 = List.replicate V (.int .u8 0) := by simp [vals, st]
      rw [e]
      exact hown5)⟩, hB5⟩
    (fun x => { tmps := #[.int .i64 N, .int .i64 V, .pointer (some ⟨w.heap.size, 0, none⟩), undef, .string ⟨#[]⟩, .pointer (some ⟨w3.heap.size, 0, none⟩), .int .i64 (x.1.1 : Int), .int .i64 V, .slice (some ⟨w.heap.size + 1, 0, none⟩) V V, .slice (some ⟨w.heap.size + 1, 0, none⟩) V V,
      .func (.func 76) #[] #[.pointer (some ⟨w3.heap.size + 1, 0, none⟩)], .int .i64 (x.1.1 : Int), .int .u8 x.1.2, undef, undef, undef, undef, undef, undef, undef, undef, undef, undef, undef], defers := [] }) ?assign ?body ?done ?stop
  case assign =>
    intro l x W K hK
    dsimp only [encs]
    gi_wp2
    exact hK
  case body =>
    rintro l pre ⟨⟨i, v⟩, hi⟩ W ⟨⟨hc, hf, hbb, hro'⟩, hB⟩ hlt
    have hnum := st_le V N (pre.map (·.1.1))
    have harr := st_len V N (pre.map (·.1.1))
    have HSN : Hid (st V N ((pre ++ [(⟨(i, v), hi⟩ : Hand V)]).map (·.1.1)) = step (st V N (pre.map (·.1.1))) i) := by
      show _ = _
      rw [List.map_append]
      exact st_snoc V N _ i
    generalize st V N (pre.map (·.1.1)) = p at *
    obtain ⟨arr, num⟩ := p
    have hnum' : num ≤ 1073741824 := by have := hnum; simp only at this; omega
    have hiv : i < V := hi
    have hci := hro'.cellAt i (by omega)
    have hfi := hro'.frozenAt i
    have hgt : i < arr.length := by simp only at harr; omega
    have hci2 : W.cell? ⟨w.heap.size + 1, i, none⟩ = some (.int .u8 (arr[i].toNat : Int)) := by rw [hci]; unfold vals; simp [hgt]
    have hand := and1 num hnum'
    have hm2 : num % 2 < 2 := Nat.mod_lt _ (by decide)
    have HSZ := Lib.hid harr
    simp only at hc
    clear hci hnum harr
    gi_wp2
    have hb48 : (48 + (num : Int) % 2) = ((UInt8.ofNat (48 + num % 2)).toNat : Int) := by
      have : (UInt8.ofNat (48 + num % 2)).toNat = 48 + num % 2 := by simp; omega
      rw [this]; omega
    rw [hb48]
    have hst := (hro'.stored i (.int .u8 ((UInt8.ofNat (48 + num % 2)).toNat : Int))).1
    refine ⟨(KeepsOthers.setCell _ _ _).trans (KeepsOthers.setCell _ _ _), ⟨fun u hu => ?_, fun j hj u hu => ?_⟩, ⟨?_, ?_, ?_, ?_⟩, ?_⟩
    · refine (World.cell?_setCell_other _ _ _ _ (fun h => by simp only [Addr.mk.injEq] at h; omega)).trans ((World.cell?_setCell_other _ _ _ _ (fun h => by simp only [Addr.mk.injEq] at h; omega)).trans hu)
    · by_cases hji : j = i
      · subst hji
        exact ⟨_, (World.cell?_setCell_other _ _ _ _ (fun h => by simp only [Addr.mk.injEq] at h; omega)).trans (World.cell?_setCell_same _ _ _ hci2)⟩
      · exact ⟨u, (World.cell?_setCell_other _ _ _ _ (fun h => by simp only [Addr.mk.injEq] at h; omega)).trans ((World.cell?_setCell_other _ _ _ _ (fun h => by simp only [Addr.mk.injEq] at h; omega)).trans hu)⟩
    · rw [HSN.out]
      have e : (((step (arr, num) i).2 : Nat) : Int) = (num : Int) / 2 := by show ((num / 2 : Nat) : Int) = _; omega
      rw [e]
      exact World.cell?_setCell_same _ _ _ ((World.cell?_setCell_other _ _ _ _ (fun h => by simp only [Addr.mk.injEq] at h; omega)).trans hc)
    · rw [World.frozen?_setCell, World.frozen?_setCell]; exact hf
    · refine (World.cell?_setCell_other _ _ _ _ (fun h => by simp only [Addr.mk.injEq] at h; omega)).trans ((World.cell?_setCell_other _ _ _ _ (fun h => by simp only [Addr.mk.injEq] at h; omega)).trans hbb)
    · rw [HSN.out]
      have e : vals (step (arr, num) i).1 = (vals arr).set i (.int .u8 ((UInt8.ofNat (48 + num % 2)).toNat : Int)) := by unfold vals step; rw [List.map_set]
      rw [e]
      exact ownsRow_setCell_below hst (a := ⟨w.heap.size, 0, none⟩) (Nat.lt_succ_self _) _
    · exact (hB.setCell (p := ⟨w.heap.size + 1, i, none⟩) (Nat.le_succ _) _).setCell (p := ⟨w.heap.size, 0, none⟩) (Nat.le_refl _) _
  case done =>
    rintro D ys W hD hS ⟨⟨hc, hf, hbb, hro'⟩, hB⟩ hK
    have hS' : ys.map (·.1.1) = down V V := hS
    rw [hS'] at hro'
    have harr := st_len V N (down V V)
    generalize hA : (st V N (down V V)).1 = arr at *
    have HA := Lib.hid hA
    clear hA
    have hconv := run_convert_bytes_back (P := Try.prog) W 72 9 5 ⟨w.heap.size + 1, 0, none⟩ V arr Try.underlying72 (by kernel_rfl) Try.underlying9 (fun j hj => by
      have h := hro'.cellAt j (by omega)
      rw [Addr.add_lit]
      simp only [Nat.zero_add]
      rw [h]
      unfold vals
      simp [hj])
    rw [harr] at hconv
    clear harr hS hS' hc hf
    gi_wp2
    refine ⟨by simp, .inl ⟨_, _, rfl, run_takeDeferred hK, ?_⟩⟩
    exact ⟨_, results_tmp rfl _ _ _, by rw [HA.out]; rfl, hB.trans (belowK_b (w := w) (Nat.le_refl _) W D _ _ (by omega) hK rfl rfl)⟩
  case stop =>
    rintro D c pre W _ _ h _
    exact h.elim
end Back
end Go.Proofs.Ythhkngpbaflfiaa
