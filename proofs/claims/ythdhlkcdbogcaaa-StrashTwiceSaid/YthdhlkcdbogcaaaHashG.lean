/-
  strash's hasher: one gate more.
-/
import Derived.Test.YthdhlkcdbogcaaaHash
import Derived.Laws.AppendOwn
import Derived.Maps.AppendAt
import Derived.Deep.RegionLaw
namespace Go.Proofs.Ythdhlkcdbogcaaa
open Go.RowKit Base
set_option linter.unusedVariables false
set_option linter.unusedSimpArgs false
namespace StrashP
open Circuit GetI MapG

theorem box_grown {N : Nat} {cs : List Value} {w w' : World} (h : BoxN N cs w) {ob : Option Nat} (hg : w.grownBy w' ob) (hne : some N ≠ ob) : BoxN N cs w' := by
  have hblk := hg.block N h.lt hne
  refine ⟨Nat.lt_of_lt_of_le h.lt hg.size, fun j u hu => ?_, fun j => ?_⟩
  · exact (World.cell?_of_block (w := w) (a := ⟨N, j, none⟩) hblk).trans (h.at' j u hu)
  · exact (World.frozen?_of_block (w := w) (a := ⟨N, j, none⟩) hblk).trans (h.fz j)
theorem own_grown {w w' : World} {B : Nat} {e : TypeId} {size : Nat} {v : Value} {n : Nat} {vs : List Value} (h : w.ownsRow B e size v n vs) {N : Nat} (hg : w.grownBy w' (some N)) (hN : N < B) : w'.ownsRow B e size v n vs := by
  refine ⟨h.1, ?_⟩
  rcases h.2 with hn | ⟨g, cap, cur, hv, hb, hh, r⟩
  · exact .inl hn
  · refine .inr ⟨g, cap, cur, hv, hb, ?_, r⟩
    rw [hg.block g (Array.getElem?_eq_some_iff.1 hh).1 (by simp; omega)]
    exact hh
theorem own_block {w : World} {B : Nat} {e : TypeId} {size : Nat} {v : Value} {n : Nat} {vs : List Value} (h : w.ownsRow B e size v n vs) {N : Nat} (hN : N < B) : some N ≠ v.ownBlock := by
  intro e
  have := (h.lt N e.symm).1
  omega

theorem info_and : (Try.prog.info? 43).map (fun i => (i.zero, i.size, i.bytes)) = some (some (.agg #[.int .i64 0, .int .i64 0, .int .i64 0]), 3, 24) := by kernel_rfl

theorem grown_allocG {w w1 : World} {o : Obj} {ob : Option Nat} (h : (w.alloc o).grownBy w1 ob) : w.grownBy w1 ob := by
  have ha : Below w.heap.size w (w.alloc o) := (Below.refl _ _).alloc (Nat.le_refl _) _
  exact ⟨h.os.trans ha.os, h.tape.trans ha.tape, h.output.trans ha.output, Nat.le_trans ha.size h.size, fun k hk hne => (h.block k (Nat.lt_of_lt_of_le hk ha.size) hne).trans (ha.block k hk)⟩
theorem cell3 (w : World) (u0 u1 u2 : Value) (e : TypeId) (j : Nat) (u : Value) (hj : [u0, u1, u2][j]? = some u) : (w.alloc (.cells #[u0, u1, u2] e)).cell? ((⟨w.heap.size, 0, none⟩ : Addr).add j) = some u := by
  have e1 : (⟨w.heap.size, 0, none⟩ : Addr).add j = ⟨w.heap.size, j, none⟩ := by simp [Addr.add]; omega
  rw [e1, World.cell?_alloc_new]
  rw [← hj]; simp
/-- append of one and, its run. -/
theorem run_push3 {P : Program} {e t : TypeId} {bytes : Nat} {z : Value} (hinfo : (P.info? e).map (fun i => (i.zero, i.size, i.bytes)) = some (some z, 3, bytes)) (hzs : z.cells.size = 3) (ht : P.underlying t = some (.slice e))
    (w : World) (B : Nat) (v : Value) (n : Nat) (vs : List Value) (hown : w.ownsRow B e 3 v n vs) (hB : B ≤ w.heap.size) (hn : (n + 1) * bytes ≤ 140737488355328) (hn' : n + 1 ≤ 9223372036854775807) (u0 u1 u2 : Value) (h0 : u0.oneCell' = true) (h1 : u1.oneCell' = true) (h2 : u2.oneCell' = true) :
    ∃ a' c' w1, (∀ ty, (Builtin.append_ #[t, t] ty #[v, .slice (some ⟨w.heap.size, 0, none⟩) 1 1]).run P (w.alloc (.cells #[u0, u1, u2] e)) = .ok (.slice a' (n + 1) c') w1) ∧
      w1.ownsRow B e 3 (.slice a' (n + 1) c') (n + 1) (vs ++ [u0, u1, u2]) ∧ w.grownBy w1 v.ownBlock := by
  obtain ⟨i, hi, hz0, hz1, hz2⟩ := info_parts hinfo
  have H := fun ty => run_append_own_at (P := P) (w.alloc (.cells #[u0, u1, u2] e)) B t ty e i z 3 bytes ht hi hz0 hz1 hz2 hzs (by decide) v n vs (hown.alloc _) ⟨w.heap.size, 0, none⟩ 1 1 [u0, u1, u2] rfl
    (fun j u hj => (cell3 w u0 u1 u2 e j u hj))
    (by intro u hu; simp only [List.mem_cons, List.not_mem_nil, or_false] at hu; rcases hu with rfl | rfl | rfl <;> assumption)
    (by unfold maxLen; omega) hn (Nat.le_trans hB ((Below.refl w.heap.size w).alloc (Nat.le_refl _) (.cells #[u0, u1, u2] e)).size)
  obtain ⟨v', w1, hr, hown', hg, _, _⟩ := H 3
  obtain ⟨g, cap, rfl⟩ : ∃ g cap, v' = .slice (some ⟨g, 0, none⟩) (n + 1) cap := by
    rcases hown'.2 with ⟨_, h0⟩ | ⟨g, cap, _, rfl, _⟩
    · omega
    · exact ⟨g, cap, rfl⟩
  exact ⟨_, _, w1, fun ty => hr, hown', grown_allocG hg⟩

theorem HsIs.stand {w w' : World} {B h n : Nat} {st : St} {bS bM : Nat} {aK : Option Addr} {cK : Nat} (H : HsIs w B h n st bS bM aK cK) {k : Nat} (hk : k ≤ n) {x v : Int} (hS : SMap w' bS (k + 1) ((x, v) :: st.S)) (hg : w.grownBy w' (some bS)) (h0 : 0 ≤ v) (h1 : v ≤ 9223372036854775807) :
    HsIs w' B h (n + 1) { st with S := (x, v) :: st.S } bS bM aK cK ∧ Below B w w' := by
  have hB : B ≤ w.heap.size := by have := H.bs; have := H.sm; have := H.mh; have := H.box.lt; omega
  have hm := H.mh
  have hs := H.sm
  refine ⟨⟨box_grown H.box hg (by simp; omega), H.bs, H.sm, H.mh, ⟨k + 1, by omega, hS⟩, H.m.imp fun _ h => ⟨by omega, h.2.kept hg (by simp; omega)⟩, own_grown H.k hg (by omega), by have := H.few; show st.K.length ≤ n + 1; omega, ⟨fun u z hz => ?_, H.wf.m⟩⟩, (Below.refl _ _).grown hg hB fun k hk => by simp at hk; subst hk; exact H.bs⟩
  by_cases e : x = u
  · subst e
    rw [getI_same] at hz
    simp only [Option.some.injEq] at hz
    subst hz
    exact ⟨h0, h1⟩
  · rw [getI_other _ _ e] at hz
    exact H.wf.s u z hz

theorem HsIs.meet {w w1 w2 w4 : World} {B h n : Nat} {st : St} {bS bM : Nat} {aK : Option Addr} {cK : Nat} (H : HsIs w B h n st bS bM aK cK) {k : Nat} (hk : k ≤ n) {p : P2} {l a b : Int} (hM : MMap w1 bM (k + 1) ((p, l) :: st.M)) (hg : w.grownBy w1 (some bM)) (h0 : 0 ≤ l) (h1 : l ≤ 9223372036854775807)
    (h12 : Below w1.heap.size w1 w2) {a' : Option Addr} {c' : Nat} (hown : w4.ownsRow (h + 1) 43 3 (.slice a' (st.K.length + 1) c') (st.K.length + 1) ((tris st.K).flatten ++ [.int .i64 l, .int .i64 a, .int .i64 b])) (hg2 : w2.grownBy w4 (Value.slice aK st.K.length cK).ownBlock) :
    HsIs (w4.setCell ⟨h, 2, none⟩ (.slice a' (st.K.length + 1) c')) B h (n + 1) { st with M := (p, l) :: st.M, K := st.K ++ [(l, a, b)] } bS bM a' c' ∧ Below B w (w4.setCell ⟨h, 2, none⟩ (.slice a' (st.K.length + 1) c')) := by
  have hB : B ≤ w.heap.size := by have := H.bs; have := H.sm; have := H.mh; have := H.box.lt; omega
  have hm := H.mh
  have hs := H.sm
  have hbs := H.bs
  have hlt := H.box.lt
  have hbox1 : BoxN h [.map (some bS), .map (some bM), .slice aK st.K.length cK] w1 := box_grown H.box hg (by simp; omega)
  have hbox2 := hbox1.next h12 hbox1.lt
  have hk2 : w2.ownsRow (h + 1) 43 3 (.slice aK st.K.length cK) st.K.length (tris st.K).flatten := own_next (own_grown H.k hg (by omega)) h12
  have hne : ∀ N, N < h + 1 → some N ≠ (Value.slice aK st.K.length cK).ownBlock := fun N hN => own_block hk2 hN
  have hbox4 := (box_grown hbox2 hg2 (hne h (by omega))).set 2 (.slice a' (st.K.length + 1) c')
  have hS : ∀ j, SMap w bS j st.S → SMap (w4.setCell ⟨h, 2, none⟩ (.slice a' (st.K.length + 1) c')) bS j st.S := fun j hj =>
    (((hj.kept hg (by simp; omega)).next h12).kept hg2 (hne bS (by omega))).same (Below.heap_setCell _ _ _ _ (by show bS ≠ h; omega))
  have hMM : MMap (w4.setCell ⟨h, 2, none⟩ (.slice a' (st.K.length + 1) c')) bM (k + 1) ((p, l) :: st.M) := ((hM.next h12).kept hg2 (hne bM (by omega))).same (Below.heap_setCell _ _ _ _ (by show bM ≠ h; omega))
  have e : (tris (st.K ++ [(l, a, b)])).flatten = (tris st.K).flatten ++ [.int .i64 l, .int .i64 a, .int .i64 b] := by simp [tris]
  have el : (st.K ++ [(l, a, b)]).length = st.K.length + 1 := by simp
  have hfew := H.few
  refine ⟨⟨?_, H.bs, H.sm, H.mh, H.s.imp fun _ h => ⟨by omega, hS _ h.2⟩, ⟨k + 1, by omega, hMM⟩, ?_, ?_, ⟨H.wf.s, fun u z hz => ?_⟩⟩, ?_⟩
  · show BoxN h [.map (some bS), .map (some bM), .slice a' (st.K ++ [(l, a, b)]).length c'] _
    rw [el]
    exact hbox4
  · show World.ownsRow _ (h + 1) 43 3 (.slice a' (st.K ++ [(l, a, b)]).length c') (st.K ++ [(l, a, b)]).length (tris (st.K ++ [(l, a, b)])).flatten
    rw [el, e]
    exact ownsRow_setCell_below hown (a := ⟨h, 2, none⟩) (Nat.lt_succ_self _) _
  · show (st.K ++ [(l, a, b)]).length ≤ n + 1
    omega
  · by_cases e : p = u
    · subst e
      rw [getI_same] at hz
      simp only [Option.some.injEq] at hz
      subst hz
      exact ⟨h0, h1⟩
    · rw [getI_other _ _ e] at hz
      exact H.wf.m u z hz
  · have b1 : Below B w w1 := (Below.refl _ _).grown hg hB fun k hk => by simp at hk; omega
    have b2 := b1.trans (h12.mono (Nat.le_trans hB b1.size))
    have b4 := b2.grown hg2 (Nat.le_trans hB b2.size) fun k hk => by have := (hk2.lt k hk).1; omega
    exact b4.setCell (p := ⟨h, 2, none⟩) (by show B ≤ h; omega) _

theorem step_runS {P : Program} {w : World} {ops : Array Oper} {o : Oper} {a : Act} {K : Act → World → Prop} {Q : Exit → Act → World → Prop} {E : Prop} (hgd : o.guard = none) {s x : Operand} {t : TypeId}
    (ho : o.op = .call { callee := .builtin .append, args := #[s, x], argTypes := #[t, t] }) {v vx v' : Value} {w' : World} (hs : a.eval s = v) (hx : a.eval x = vx)
    (hr : ∀ ty, (Builtin.append_ #[t, t] ty #[v, vx]).run P w = .ok v' w') (hK : K (a.put o.dst v') w') :
    if Region.wanted o (yielded ops a.tmps) = true then Oper.wp P o a w K Q else E := by
  have hw : Region.wanted o (yielded ops a.tmps) = true := by simp [Region.wanted, hgd]
  rw [if_pos hw]
  have hr' := hr o.type
  unfold Oper.wp execOp
  simp only [ho, resolve, invoke, builtin, Sem.run_bind, Sem.run_pure, Result.andThen_ok, List.map_toArray, List.map_cons, List.map_nil, hs, hx, hr']
  exact hK

def pushV (st : St) (t : Tri) (r : Int) : St := { st with S := (var t.1, r) :: st.S }
theorem gate_some {st : St} {t : Tri} {r : Int} (h : plainL (litS st.S t.2.1) (litS st.S t.2.2) = some r) : gateS st t = { st with S := (var t.1, r) :: st.S } := by
  unfold gateS; rw [h]
theorem gate_met {st : St} {t : Tri} {m : Int} (h : plainL (litS st.S t.2.1) (litS st.S t.2.2) = none) (hm : getI st.M (pairS (litS st.S t.2.1) (litS st.S t.2.2)) = some m) : gateS st t = { st with S := (var t.1, m) :: st.S } := by
  unfold gateS; rw [h]; simp only; rw [hm]
theorem gate_new {st : St} {t : Tri} (h : plainL (litS st.S t.2.1) (litS st.S t.2.2) = none) (hm : getI st.M (pairS (litS st.S t.2.1) (litS st.S t.2.2)) = none) :
    gateS st t = { st with M := (pairS (litS st.S t.2.1) (litS st.S t.2.2), t.1) :: st.M, K := st.K ++ [(t.1, litS st.S t.2.1, litS st.S t.2.2)] } := by
  unfold gateS; rw [h]; simp only; rw [hm]

set_option maxRecDepth 8000 in
set_option maxHeartbeats 8000000 in
theorem gate_any (w : World) {B h n : Nat} {st : St} {bS bM : Nat} {aK : Option Addr} {cK : Nat} (H : HsIs w B h n st bS bM aK cK) (l a0 b0 : Int)
    (hl0 : 0 ≤ l) (hl1 : l ≤ 9223372036854775807) (ha0 : 0 ≤ a0) (ha1 : a0 ≤ 9223372036854775807) (hb0 : 0 ≤ b0) (hb1 : b0 ≤ 9223372036854775807) (hn : (n + 1) * 24 ≤ 140737488355328) :
    Calls Try.prog 16 #[.pointer (some ⟨h, 0, none⟩), .agg #[.int .i64 l, .int .i64 a0, .int .i64 b0]] w fun e w' =>
      e = .returned (.tuple #[]) ∧ ∃ aK' cK', HsIs w' B h (n + 1) (gateS st (l, a0, b0)) bS bM aK' cK' ∧ Below B w w' := by
  obtain ⟨W1, hW1⟩ : ∃ U, w.alloc (.cells #[.int .i64 l, .int .i64 a0, .int .i64 b0] 43) = U := ⟨_, rfl⟩
  have hbw : Below w.heap.size w W1 := by rw [← hW1]; exact (Below.refl _ _).alloc (Nat.le_refl _) _
  have c0 : W1.cell? ⟨w.heap.size, 0, none⟩ = some (.int .i64 l) := by rw [← hW1, World.cell?_alloc_new]; rfl
  have c1 : W1.cell? ⟨w.heap.size, 1, none⟩ = some (.int .i64 a0) := by rw [← hW1, World.cell?_alloc_new]; rfl
  have c2 : W1.cell? ⟨w.heap.size, 2, none⟩ = some (.int .i64 b0) := by rw [← hW1, World.cell?_alloc_new]; rfl
  have hB : B ≤ w.heap.size := by have := H.bs; have := H.sm; have := H.mh; have := H.box.lt; omega
  have hB1 : Below B w W1 := hbw.mono hB
  have H1 := H.next hbw
  have h0 := H1.box.at' 0 _ rfl
  have h1 := H1.box.at' 1 _ rfl
  have h2 := H1.box.at' 2 _ rfl
  obtain ⟨A0, A1⟩ := lit_64 H.wf ha0 ha1
  obtain ⟨B0, B1⟩ := lit_64 H.wf hb0 hb1
  have HLA := Lib.hid (fun q => lit_any (W1.drewN q) (H1.next (below_drewN (Below.refl _ _) q)) a0 ha0 ha1)
  have HLB := Lib.hid (fun q => lit_any (W1.drewN q) (H1.next (below_drewN (Below.refl _ _) q)) b0 hb0 hb1)
  have VA := Lib.hid (fun U => var_any l (by omega) hl1 U)
  have hv0 : 0 ≤ var l := by unfold var; omega
  have hv1 : var l ≤ 9223372036854775807 := by unfold var; omega
  have G1 := @gate_some st (l, a0, b0)
  have G2 := @gate_met st (l, a0, b0)
  have G3 := @gate_new st (l, a0, b0)
  simp only at G1 G2 G3
  obtain ⟨G, hG⟩ : ∃ G, gateS st (l, a0, b0) = G := ⟨_, rfl⟩
  rw [hG] at G1 G2 G3
  rw [hG]
  clear hG
  generalize litS st.S a0 = a at *
  generalize litS st.S b0 = b at *
  generalize var l = v at *
  have HPL := Lib.hid (fun U => plain_nn a b A0 A1 B0 B1 U)
  have HB1 := Lib.hid hB1
  have HBW : Hid (B ≤ W1.heap.size) := Nat.le_trans hB hbw.size
  obtain ⟨kS, hkS, hS⟩ := H1.s
  obtain ⟨kM, hkM, hM⟩ := H1.m
  have hkS' : kS < 9223372036854775807 := by omega
  have hkM' : kM < 9223372036854775807 := by omega
  cases hp : plainL a b with
  | some r =>
    have hr := plain_res A0 B0 hp
    have hr0 : 0 ≤ r := by rcases hr with rfl | rfl | rfl <;> omega
    have hr1 : r ≤ 9223372036854775807 := by rcases hr with rfl | rfl | rfl <;> omega
    have HE := Lib.hid (G1 hp)
    have NP : Hid (∀ U, Calls Try.prog 14 #[.int .i64 a, .int .i64 b] U fun e w' => e = .returned (.tuple #[.int .i64 r, .bool true]) ∧ U = w') := fun U => by have h := HPL.out U; unfold plainV at h; rw [hp] at h; exact h
    obtain ⟨f, hf⟩ := Classical.skolem.1 (fun q => (hS.next (below_drewN (Below.refl _ W1) q)).store (T := 50) int_kindP Try.underlying50 Try.underlying3 hkS' (x := v) (⟨by omega, by omega⟩ : MapG.I64 v) (v := r) ⟨by omega, by omega⟩)
    have hrun := fun q => (hf q).1
    have HF := Lib.hid (fun q => (H1.next (below_drewN (Below.refl _ W1) q)).stand hkS (hf q).2.1 (hf q).2.2 hr0 hr1)
    clear hf hp hr hr0 hr1 HPL G1 G2 G3 H H1 hS hM hkS hkM hkS' hkM' A0 A1 B0 B1 hv0 hv1 hl0 hl1 ha0 ha1 hb0 hb1 hn hB hbw hB1
    go_enter Try.func16, Try.ntmps16
    go_wp2_with fail
    go_quiet ((go_at_call 18; first | with_reducible exact Calls.quiet_of (HLA.out _) | with_reducible exact Calls.quiet_of (HLB.out _)))
    go_wp2_with fail
    with_reducible refine (VA.out _).mono ?_
    rintro e w2 ⟨rfl, rfl⟩
    go_wp2_with fail
    with_reducible refine (NP.out _).mono ?_
    rintro e w2 ⟨rfl, rfl⟩
    go_wp2_with fail
    refine bodyPost_ret (v := .tuple #[]) (by simp [results, Try.results16, go_sem]) rfl ?_
    exact ⟨rfl, _, _, by rw [HE.out]; exact (HF.out _).1, (below_drewN HB1.out _).trans (HF.out _).2⟩
  | none =>
    have NP : Hid (∀ U, Calls Try.prog 14 #[.int .i64 a, .int .i64 b] U fun e w' => e = .returned (.tuple #[.int .i64 0, .bool false]) ∧ U = w') := fun U => by have h := HPL.out U; unfold plainV at h; rw [hp] at h; exact h
    have hne : a ≠ b := fun e => by rw [plain_of A0 B0] at hp; subst e; by_cases h1 : a = 0 ∨ a = 0 ∨ a = notL a <;> simp [h1] at hp
    have hpo : pairOk (pairS a b) := by unfold pairOk pairS MapG.I64; simp only; omega
    cases hm : getI st.M (pairS a b) with
    | some m =>
      -- MET
      obtain ⟨m0, m1⟩ := H1.wf.m _ _ hm
      have HE := Lib.hid (G2 hp hm)
      have hlk := fun (V : World) (hV : Below W1.heap.size W1 V) => (hM.next hV).look (T := 51) pair_kind Try.underlying51 Try.underlying3 (zeroI V) (x := pairS a b) hpo
      simp only [hm, Option.getD_some, Option.isSome_some] at hlk
      have hst := fun (V : World) (hV : Below W1.heap.size W1 V) => (hS.next hV).store (T := 50) int_kindP Try.underlying50 Try.underlying3 hkS' (x := v) (⟨by omega, by omega⟩ : MapG.I64 v) (v := m) ⟨by omega, by omega⟩
      have HSTAND := Lib.hid (fun (V : World) (hV : Below W1.heap.size W1 V) (w' : World) h1 h2 => (H1.next hV).stand hkS (x := v) (v := m) (w' := w') h1 h2 m0 m1)
      have HBX := Lib.hid (fun (V : World) (hV : Below W1.heap.size W1 V) => (H1.next hV).box)
      have HLT : Hid (w.heap.size < W1.heap.size) := by show _ < _; rw [← hW1]; simp
      have HST := Lib.hid hst
      rcases (by omega : a < b ∨ b < a) with hab | hab
      · have hba : ¬ b < a := by omega
        have hps : pairS a b = (a, b) := by unfold pairS; simp only [Prod.mk.injEq]; omega
        have HLK : Hid (∀ V, Below W1.heap.size W1 V → (Instr.lookup 51 (.map (some bM)) (.agg #[.int .i64 a, .int .i64 b]) true).run Try.prog V = .ok (.tuple #[.int .i64 m, .bool true]) V) := fun V hV => by have h := hlk V hV; rw [hps] at h; exact h

        clear hlk hst hps hp hm HPL G1 G2 G3 H H1 hS hM hkS hkM hkS' hkM' A0 A1 B0 B1 hv0 hv1 hl0 hl1 ha0 ha1 hb0 hb1 hn hB hbw hB1 hpo m0 m1
        go_enter Try.func16, Try.ntmps16
        go_wp2_with fail
        go_quiet ((go_at_call 18; first | with_reducible exact Calls.quiet_of (HLA.out _) | with_reducible exact Calls.quiet_of (HLB.out _)))
        have HQ : Hid (Below W1.heap.size W1 (W1.drewN nq)) := below_drewN (Below.refl _ _) nq
        obtain ⟨W2, hW2⟩ : ∃ U, W1.drewN nq = U := ⟨_, rfl⟩
        rw [hW2] at HQ ⊢
        have c0' := (HQ.out.cell (p := ⟨w.heap.size, 0, none⟩) HLT.out).trans c0
        clear hW2 c0 c1 c2 h0 h1 h2 hW1
        go_wp2_with fail
        with_reducible refine (VA.out _).mono ?_
        rintro e w2 ⟨rfl, rfl⟩
        go_wp2_with fail
        with_reducible refine (NP.out _).mono ?_
        rintro e w2 ⟨rfl, rfl⟩
        obtain ⟨V4, hV4⟩ : ∃ U, W2.alloc (.cells #[.int .i64 a, .int .i64 b] 74) = U := ⟨_, rfl⟩
        have hb4 : Below W2.heap.size W2 V4 := by rw [← hV4]; exact (Below.refl _ _).alloc (Nat.le_refl _) _
        have p0 : V4.cell? ⟨W2.heap.size, 0, none⟩ = some (.int .i64 a) := by rw [← hV4, World.cell?_alloc_new]; rfl
        have p1 : V4.cell? ⟨W2.heap.size, 1, none⟩ = some (.int .i64 b) := by rw [← hV4, World.cell?_alloc_new]; rfl
        have HB4 := Lib.hid (HQ.out.trans (hb4.mono HQ.out.size))
        have HLP : Hid (W2.heap.size < V4.heap.size) := by show _ < _; rw [← hV4]; simp
        have BX4 := HBX.out V4 HB4.out
        have e1 := BX4.at' 1 _ rfl
        have hl := fun q => HLK.out (V4.drewN q) (below_drewN HB4.out q)
        clear hb4 BX4
        go_wp2_with fail
        go_quiet (fail)
        have HQ5 : Hid (Below V4.heap.size V4 (V4.drewN nq)) := below_drewN (Below.refl _ _) nq
        obtain ⟨V5, hV5⟩ : ∃ U, V4.drewN nq = U := ⟨_, rfl⟩
        rw [hV5] at HQ5 ⊢
        have HB5 := Lib.hid (HB4.out.trans (HQ5.out.mono HB4.out.size))
        have BX5 := HBX.out V5 HB5.out
        clear hV5 hV4 hl e1 c0'
        have e0 := BX5.at' 0 _ rfl
        obtain ⟨V6, hrun, hM6, hg6⟩ := HST.out V5 HB5.out
        have HX6 := Lib.hid (HSTAND.out V5 HB5.out V6 hM6 hg6)
        clear hM6 hg6 BX5 p0 p1
        go_wp2_with fail
        refine bodyPost_ret (v := .tuple #[]) (by simp [results, Try.results16, go_sem]) rfl ?_
        exact ⟨rfl, _, _, by rw [HE.out]; exact HX6.out.1, (HB1.out.trans (HB5.out.mono HBW.out)).trans HX6.out.2⟩
      · have hba : ¬ a < b := by omega
        have hps : pairS a b = (b, a) := by unfold pairS; simp only [Prod.mk.injEq]; omega
        have HLK : Hid (∀ V, Below W1.heap.size W1 V → (Instr.lookup 51 (.map (some bM)) (.agg #[.int .i64 b, .int .i64 a]) true).run Try.prog V = .ok (.tuple #[.int .i64 m, .bool true]) V) := fun V hV => by have h := hlk V hV; rw [hps] at h; exact h

        clear hlk hst hps hp hm HPL G1 G2 G3 H H1 hS hM hkS hkM hkS' hkM' A0 A1 B0 B1 hv0 hv1 hl0 hl1 ha0 ha1 hb0 hb1 hn hB hbw hB1 hpo m0 m1
        go_enter Try.func16, Try.ntmps16
        go_wp2_with fail
        go_quiet ((go_at_call 18; first | with_reducible exact Calls.quiet_of (HLA.out _) | with_reducible exact Calls.quiet_of (HLB.out _)))
        have HQ : Hid (Below W1.heap.size W1 (W1.drewN nq)) := below_drewN (Below.refl _ _) nq
        obtain ⟨W2, hW2⟩ : ∃ U, W1.drewN nq = U := ⟨_, rfl⟩
        rw [hW2] at HQ ⊢
        have c0' := (HQ.out.cell (p := ⟨w.heap.size, 0, none⟩) HLT.out).trans c0
        clear hW2 c0 c1 c2 h0 h1 h2 hW1
        go_wp2_with fail
        with_reducible refine (VA.out _).mono ?_
        rintro e w2 ⟨rfl, rfl⟩
        go_wp2_with fail
        with_reducible refine (NP.out _).mono ?_
        rintro e w2 ⟨rfl, rfl⟩
        obtain ⟨V4, hV4⟩ : ∃ U, W2.alloc (.cells #[.int .i64 b, .int .i64 a] 74) = U := ⟨_, rfl⟩
        have hb4 : Below W2.heap.size W2 V4 := by rw [← hV4]; exact (Below.refl _ _).alloc (Nat.le_refl _) _
        have p0 : V4.cell? ⟨W2.heap.size, 0, none⟩ = some (.int .i64 b) := by rw [← hV4, World.cell?_alloc_new]; rfl
        have p1 : V4.cell? ⟨W2.heap.size, 1, none⟩ = some (.int .i64 a) := by rw [← hV4, World.cell?_alloc_new]; rfl
        have HB4 := Lib.hid (HQ.out.trans (hb4.mono HQ.out.size))
        have HLP : Hid (W2.heap.size < V4.heap.size) := by show _ < _; rw [← hV4]; simp
        have BX4 := HBX.out V4 HB4.out
        have e1 := BX4.at' 1 _ rfl
        have hl := fun q => HLK.out (V4.drewN q) (below_drewN HB4.out q)
        clear hb4 BX4
        go_wp2_with fail
        go_quiet (fail)
        have HQ5 : Hid (Below V4.heap.size V4 (V4.drewN nq)) := below_drewN (Below.refl _ _) nq
        obtain ⟨V5, hV5⟩ : ∃ U, V4.drewN nq = U := ⟨_, rfl⟩
        rw [hV5] at HQ5 ⊢
        have HB5 := Lib.hid (HB4.out.trans (HQ5.out.mono HB4.out.size))
        have BX5 := HBX.out V5 HB5.out
        clear hV5 hV4 hl e1 c0'
        have e0 := BX5.at' 0 _ rfl
        obtain ⟨V6, hrun, hM6, hg6⟩ := HST.out V5 HB5.out
        have HX6 := Lib.hid (HSTAND.out V5 HB5.out V6 hM6 hg6)
        clear hM6 hg6 BX5 p0 p1
        go_wp2_with fail
        refine bodyPost_ret (v := .tuple #[]) (by simp [results, Try.results16, go_sem]) rfl ?_
        exact ⟨rfl, _, _, by rw [HE.out]; exact HX6.out.1, (HB1.out.trans (HB5.out.mono HBW.out)).trans HX6.out.2⟩
      -- METEND
    | none =>
      -- NEW
      have HE := Lib.hid (G3 hp hm)
      have hlk := fun (V : World) (hV : Below W1.heap.size W1 V) => (hM.next hV).look (T := 51) pair_kind Try.underlying51 Try.underlying3 (zeroI V) (x := pairS a b) hpo
      simp only [hm, Option.getD_none, Option.isSome_none] at hlk
      have hst := fun (V : World) (hV : Below W1.heap.size W1 V) => (hM.next hV).store (T := 51) pair_kind Try.underlying51 Try.underlying3 hkM' (x := pairS a b) hpo (v := l) ⟨by omega, hl1⟩
      have HMEET := Lib.hid (fun (V : World) (hV : Below W1.heap.size W1 V) (v1 v2 v4 : World) (a' : Option Addr) (c' : Nat) h1 h2 h3 h4 h5 => (H1.next hV).meet hkM (p := pairS a b) (l := l) (a := a) (b := b) (w1 := v1) (w2 := v2) (w4 := v4) (a' := a') (c' := c') h1 h2 hl0 hl1 h3 h4 h5)
      have HBX := Lib.hid (fun (V : World) (hV : Below W1.heap.size W1 V) => (H1.next hV).box)
      have HK := Lib.hid (fun (V : World) (hV : Below W1.heap.size W1 V) => (H1.next hV).k)
      have hTX : BoxN w.heap.size [.int .i64 l, .int .i64 a0, .int .i64 b0] W1 := by
        have h := BoxN.new w #[.int .i64 l, .int .i64 a0, .int .i64 b0] 43
        rw [hW1] at h
        exact h
      have HTX := Lib.hid hTX
      have HNH : Hid (some h ≠ some bM) := by show _ ≠ _; have := H.mh; simp; omega
      have HNG : Hid (some w.heap.size ≠ some bM) := by show _ ≠ _; have := H.mh; have := H.box.lt; simp; omega
      have HMH : Hid (bM < h + 1) := by show _ < _; have := H.mh; omega
      have HN24 : Hid ((st.K.length + 1) * 24 ≤ 140737488355328) := by show _ ≤ _; have := H.few; omega
      have HN63 : Hid (st.K.length + 1 ≤ 9223372036854775807) := by show _ ≤ _; have := H.few; omega
      have HLT : Hid (w.heap.size < W1.heap.size) := by show _ < _; rw [← hW1]; simp
      rcases (by omega : a < b ∨ b < a) with hab | hab
      · have hba : ¬ b < a := by omega
        have hps : pairS a b = (a, b) := by unfold pairS; simp only [Prod.mk.injEq]; omega
        have HLK : Hid (∀ V, Below W1.heap.size W1 V → (Instr.lookup 51 (.map (some bM)) (.agg #[.int .i64 a, .int .i64 b]) true).run Try.prog V = .ok (.tuple #[.int .i64 0, .bool false]) V) := fun V hV => by have h := hlk V hV; rw [hps] at h; exact h
        have HST : Hid (∀ V, Below W1.heap.size W1 V → ∃ w', (Instr.mapUpdate 51 (.map (some bM)) (.agg #[.int .i64 a, .int .i64 b]) (.int .i64 l)).run Try.prog V = .ok () w' ∧ MMap w' bM (kM + 1) ((pairS a b, l) :: st.M) ∧ V.grownBy w' (some bM)) := fun V hV => by
          have h := hst V hV
          have e : pairV (pairS a b) = .agg #[.int .i64 a, .int .i64 b] := by rw [hps]; rfl
          rw [← e]
          exact h
        clear hlk hst hps hp hm HPL G1 G2 G3 H H1 hS hM hkS hkM hkS' hkM' A0 A1 B0 B1 hv0 hv1 hl0 hl1 ha0 ha1 hb0 hb1 hn hB hbw hB1 hpo hTX
        go_enter Try.func16, Try.ntmps16
        go_wp2_with fail
        go_quiet ((go_at_call 18; first | with_reducible exact Calls.quiet_of (HLA.out _) | with_reducible exact Calls.quiet_of (HLB.out _)))
        have HQ : Hid (Below W1.heap.size W1 (W1.drewN nq)) := below_drewN (Below.refl _ _) nq
        obtain ⟨W2, hW2⟩ : ∃ U, W1.drewN nq = U := ⟨_, rfl⟩
        rw [hW2] at HQ ⊢
        have c0' := (HQ.out.cell (p := ⟨w.heap.size, 0, none⟩) HLT.out).trans c0
        clear hW2 c0 c1 c2 h0 h1 h2 hW1
        go_wp2_with fail
        with_reducible refine (VA.out _).mono ?_
        rintro e w2 ⟨rfl, rfl⟩
        go_wp2_with fail
        with_reducible refine (NP.out _).mono ?_
        rintro e w2 ⟨rfl, rfl⟩
        obtain ⟨V4, hV4⟩ : ∃ U, W2.alloc (.cells #[.int .i64 a, .int .i64 b] 74) = U := ⟨_, rfl⟩
        have hb4 : Below W2.heap.size W2 V4 := by rw [← hV4]; exact (Below.refl _ _).alloc (Nat.le_refl _) _
        have p0 : V4.cell? ⟨W2.heap.size, 0, none⟩ = some (.int .i64 a) := by rw [← hV4, World.cell?_alloc_new]; rfl
        have p1 : V4.cell? ⟨W2.heap.size, 1, none⟩ = some (.int .i64 b) := by rw [← hV4, World.cell?_alloc_new]; rfl
        have HB4 := Lib.hid (HQ.out.trans (hb4.mono HQ.out.size))
        have HLP : Hid (W2.heap.size < V4.heap.size) := by show _ < _; rw [← hV4]; simp
        have BX4 := HBX.out V4 HB4.out
        have e1 := BX4.at' 1 _ rfl
        have hl := fun q => HLK.out (V4.drewN q) (below_drewN HB4.out q)
        clear hb4 BX4
        go_wp2_with fail
        go_quiet (fail)
        have HQ5 : Hid (Below V4.heap.size V4 (V4.drewN nq)) := below_drewN (Below.refl _ _) nq
        obtain ⟨V5, hV5⟩ : ∃ U, V4.drewN nq = U := ⟨_, rfl⟩
        rw [hV5] at HQ5 ⊢
        have HB5 := Lib.hid (HB4.out.trans (HQ5.out.mono HB4.out.size))
        have BX5 := HBX.out V5 HB5.out
        clear hV5 hV4 hl e1 c0'
        have e1 := BX5.at' 1 _ rfl
        have r0 := (HQ5.out.cell (p := ⟨W2.heap.size, 0, none⟩) HLP.out).trans p0
        have r1 := (HQ5.out.cell (p := ⟨W2.heap.size, 1, none⟩) HLP.out).trans p1
        have TX5 := HTX.out.next HB5.out HTX.out.lt
        have s0 := TX5.at' 0 _ rfl
        have HBD : Hid (Below W1.heap.size W1 V5.drew) := HB5.out.drew
        obtain ⟨V6, hrun, hM6, hg6⟩ := HST.out V5.drew HBD.out
        have BX6 := box_grown (HBX.out V5.drew HBD.out) hg6 HNH.out
        have TX6 := box_grown (HTX.out.next HBD.out HTX.out.lt) hg6 HNG.out
        have hk6 := own_grown (HK.out V5.drew HBD.out) hg6 HMH.out
        have hk6' := own_next hk6 ((Below.refl _ _).drew : Below V6.heap.size V6 V6.drew)
        obtain ⟨a', c', V7, happ, hown7, hg7⟩ := run_push3 info_and rfl Try.underlying24 V6.drew (h + 1) (.slice aK st.K.length cK) st.K.length (tris st.K).flatten hk6' BX6.lt HN24.out HN63.out (.int .i64 l) (.int .i64 a) (.int .i64 b) rfl rfl rfl
        have happ' : ∀ ty, (Builtin.append_ #[24, 24] ty #[.slice aK st.K.length cK, .slice (some ⟨V6.heap.size, 0, none⟩) 1 1]).run Try.prog (V6.alloc (.cells #[.int .i64 l, .int .i64 a, .int .i64 b] 43)).drew = .ok (.slice a' (st.K.length + 1) c') V7 := happ
        have u2 := BX6.at' 2 _ rfl
        have u2a := fun o => (World.cell?_alloc_lt (w := V6) (o := o) (a := ⟨h, 2, none⟩) BX6.lt).trans u2
        have q0 := TX6.at' 0 _ rfl
        have BX7 := box_grown (BX6.next ((Below.refl _ _).drew : Below V6.heap.size V6 V6.drew) BX6.lt) hg7 (own_block hk6' (Nat.lt_succ_self h))
        have v2 := BX7.at' 2 _ rfl
        have z2 := BX7.fz 2
        have HMT := Lib.hid (HMEET.out V5.drew HBD.out V6 V6.drew V7 a' c' hM6 hg6 ((Below.refl _ _).drew) hown7 hg7)
        clear hM6 hg6 BX5 TX5 BX6 TX6 BX7 hk6 hk6' happ hown7 hg7 p0 p1
        go_wp2_with fail
        go_region
        all_goals
          go_wp2_with fail
          go_region_law (first | (refine step_runS rfl rfl rfl rfl happ' ?_) | fail)
          all_goals
            go_wp2_with fail
            refine bodyPost_end (v := .tuple #[]) (by simp [results, Try.results16, go_sem]) rfl ?_
            exact ⟨rfl, _, _, by rw [HE.out]; exact HMT.out.1, (HB1.out.trans (HBD.out.mono HBW.out)).trans HMT.out.2⟩
      · have hba : ¬ a < b := by omega
        have hps : pairS a b = (b, a) := by unfold pairS; simp only [Prod.mk.injEq]; omega
        have HLK : Hid (∀ V, Below W1.heap.size W1 V → (Instr.lookup 51 (.map (some bM)) (.agg #[.int .i64 b, .int .i64 a]) true).run Try.prog V = .ok (.tuple #[.int .i64 0, .bool false]) V) := fun V hV => by have h := hlk V hV; rw [hps] at h; exact h
        have HST : Hid (∀ V, Below W1.heap.size W1 V → ∃ w', (Instr.mapUpdate 51 (.map (some bM)) (.agg #[.int .i64 b, .int .i64 a]) (.int .i64 l)).run Try.prog V = .ok () w' ∧ MMap w' bM (kM + 1) ((pairS a b, l) :: st.M) ∧ V.grownBy w' (some bM)) := fun V hV => by
          have h := hst V hV
          have e : pairV (pairS a b) = .agg #[.int .i64 b, .int .i64 a] := by rw [hps]; rfl
          rw [← e]
          exact h
        clear hlk hst hps hp hm HPL G1 G2 G3 H H1 hS hM hkS hkM hkS' hkM' A0 A1 B0 B1 hv0 hv1 hl0 hl1 ha0 ha1 hb0 hb1 hn hB hbw hB1 hpo hTX
        go_enter Try.func16, Try.ntmps16
        go_wp2_with fail
        go_quiet ((go_at_call 18; first | with_reducible exact Calls.quiet_of (HLA.out _) | with_reducible exact Calls.quiet_of (HLB.out _)))
        have HQ : Hid (Below W1.heap.size W1 (W1.drewN nq)) := below_drewN (Below.refl _ _) nq
        obtain ⟨W2, hW2⟩ : ∃ U, W1.drewN nq = U := ⟨_, rfl⟩
        rw [hW2] at HQ ⊢
        have c0' := (HQ.out.cell (p := ⟨w.heap.size, 0, none⟩) HLT.out).trans c0
        clear hW2 c0 c1 c2 h0 h1 h2 hW1
        go_wp2_with fail
        with_reducible refine (VA.out _).mono ?_
        rintro e w2 ⟨rfl, rfl⟩
        go_wp2_with fail
        with_reducible refine (NP.out _).mono ?_
        rintro e w2 ⟨rfl, rfl⟩
        obtain ⟨V4, hV4⟩ : ∃ U, W2.alloc (.cells #[.int .i64 b, .int .i64 a] 74) = U := ⟨_, rfl⟩
        have hb4 : Below W2.heap.size W2 V4 := by rw [← hV4]; exact (Below.refl _ _).alloc (Nat.le_refl _) _
        have p0 : V4.cell? ⟨W2.heap.size, 0, none⟩ = some (.int .i64 b) := by rw [← hV4, World.cell?_alloc_new]; rfl
        have p1 : V4.cell? ⟨W2.heap.size, 1, none⟩ = some (.int .i64 a) := by rw [← hV4, World.cell?_alloc_new]; rfl
        have HB4 := Lib.hid (HQ.out.trans (hb4.mono HQ.out.size))
        have HLP : Hid (W2.heap.size < V4.heap.size) := by show _ < _; rw [← hV4]; simp
        have BX4 := HBX.out V4 HB4.out
        have e1 := BX4.at' 1 _ rfl
        have hl := fun q => HLK.out (V4.drewN q) (below_drewN HB4.out q)
        clear hb4 BX4
        go_wp2_with fail
        go_quiet (fail)
        have HQ5 : Hid (Below V4.heap.size V4 (V4.drewN nq)) := below_drewN (Below.refl _ _) nq
        obtain ⟨V5, hV5⟩ : ∃ U, V4.drewN nq = U := ⟨_, rfl⟩
        rw [hV5] at HQ5 ⊢
        have HB5 := Lib.hid (HB4.out.trans (HQ5.out.mono HB4.out.size))
        have BX5 := HBX.out V5 HB5.out
        clear hV5 hV4 hl e1 c0'
        have e1 := BX5.at' 1 _ rfl
        have r0 := (HQ5.out.cell (p := ⟨W2.heap.size, 0, none⟩) HLP.out).trans p0
        have r1 := (HQ5.out.cell (p := ⟨W2.heap.size, 1, none⟩) HLP.out).trans p1
        have TX5 := HTX.out.next HB5.out HTX.out.lt
        have s0 := TX5.at' 0 _ rfl
        have HBD : Hid (Below W1.heap.size W1 V5.drew) := HB5.out.drew
        obtain ⟨V6, hrun, hM6, hg6⟩ := HST.out V5.drew HBD.out
        have BX6 := box_grown (HBX.out V5.drew HBD.out) hg6 HNH.out
        have TX6 := box_grown (HTX.out.next HBD.out HTX.out.lt) hg6 HNG.out
        have hk6 := own_grown (HK.out V5.drew HBD.out) hg6 HMH.out
        have hk6' := own_next hk6 ((Below.refl _ _).drew : Below V6.heap.size V6 V6.drew)
        obtain ⟨a', c', V7, happ, hown7, hg7⟩ := run_push3 info_and rfl Try.underlying24 V6.drew (h + 1) (.slice aK st.K.length cK) st.K.length (tris st.K).flatten hk6' BX6.lt HN24.out HN63.out (.int .i64 l) (.int .i64 a) (.int .i64 b) rfl rfl rfl
        have happ' : ∀ ty, (Builtin.append_ #[24, 24] ty #[.slice aK st.K.length cK, .slice (some ⟨V6.heap.size, 0, none⟩) 1 1]).run Try.prog (V6.alloc (.cells #[.int .i64 l, .int .i64 a, .int .i64 b] 43)).drew = .ok (.slice a' (st.K.length + 1) c') V7 := happ
        have u2 := BX6.at' 2 _ rfl
        have u2a := fun o => (World.cell?_alloc_lt (w := V6) (o := o) (a := ⟨h, 2, none⟩) BX6.lt).trans u2
        have q0 := TX6.at' 0 _ rfl
        have BX7 := box_grown (BX6.next ((Below.refl _ _).drew : Below V6.heap.size V6 V6.drew) BX6.lt) hg7 (own_block hk6' (Nat.lt_succ_self h))
        have v2 := BX7.at' 2 _ rfl
        have z2 := BX7.fz 2
        have HMT := Lib.hid (HMEET.out V5.drew HBD.out V6 V6.drew V7 a' c' hM6 hg6 ((Below.refl _ _).drew) hown7 hg7)
        clear hM6 hg6 BX5 TX5 BX6 TX6 BX7 hk6 hk6' happ hown7 hg7 p0 p1
        go_wp2_with fail
        go_region
        all_goals
          go_wp2_with fail
          go_region_law (first | (refine step_runS rfl rfl rfl rfl happ' ?_) | fail)
          all_goals
            go_wp2_with fail
            refine bodyPost_end (v := .tuple #[]) (by simp [results, Try.results16, go_sem]) rfl ?_
            exact ⟨rfl, _, _, by rw [HE.out]; exact HMT.out.1, (HB1.out.trans (HBD.out.mono HBW.out)).trans HMT.out.2⟩
      -- NEWEND
end StrashP
end Go.Proofs.Ythdhlkcdbogcaaa
