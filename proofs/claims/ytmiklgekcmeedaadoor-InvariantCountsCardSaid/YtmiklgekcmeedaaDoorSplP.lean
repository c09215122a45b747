/-
  Plain: a text cut at one byte; decimals read. No program.
-/
import Derived.Test.YtmiklgekcmeedaaDoorDigP
import Derived.Lib.SplitLaws
import Derived.Lib.Join
namespace Go.Proofs.YtmiklgekcmeedaaDoor.Spl
open Dig
set_option linter.unusedVariables false
set_option linter.unusedSimpArgs false

/-- A text cut at each c. -/
def spl (c : UInt8) : List UInt8 → List (List UInt8)
  | [] => [[]]
  | b :: s => if b = c then [] :: spl c s else match spl c s with | [] => [[b]] | h :: t => (b :: h) :: t
theorem spl_ne (c : UInt8) (s : List UInt8) : spl c s ≠ [] := by
  cases s with
  | nil => simp [spl]
  | cons b s =>
    unfold spl
    split
    · simp
    · split <;> simp
theorem spl_hit (c : UInt8) (s : List UInt8) : spl c (c :: s) = [] :: spl c s := by simp [spl]
theorem spl_miss {b c : UInt8} (h : b ≠ c) (s : List UInt8) : ∃ x t, spl c s = x :: t ∧ spl c (b :: s) = (b :: x) :: t := by
  cases hs : spl c s with
  | nil => exact absurd hs (spl_ne c s)
  | cons x t => exact ⟨x, t, rfl, by simp [spl, h, hs]⟩
theorem spl_pre {c : UInt8} : ∀ (p s : List UInt8), c ∉ p → spl c (p ++ c :: s) = p :: spl c s
  | [], s, _ => spl_hit c s
  | b :: p, s, h => by
    have hb : b ≠ c := fun e => h (by rw [e]; exact List.mem_cons_self)
    obtain ⟨x, t, h1, h2⟩ := spl_miss hb (p ++ c :: s)
    rw [spl_pre p s (fun hc => h (List.mem_cons_of_mem _ hc))] at h1
    injection h1 with h1 h3
    rw [List.cons_append, h2, ← h1, ← h3]
theorem spl_none {c : UInt8} : ∀ (p : List UInt8), c ∉ p → spl c p = [p]
  | [], _ => rfl
  | b :: p, h => by
    have hb : b ≠ c := fun e => h (by rw [e]; exact List.mem_cons_self)
    obtain ⟨x, t, h1, h2⟩ := spl_miss hb p
    rw [spl_none p (fun hc => h (List.mem_cons_of_mem _ hc))] at h1
    injection h1 with h1 h3
    rw [h2, ← h1, ← h3]
theorem spl_parts (c : UInt8) : ∀ (s : List UInt8), ∀ p ∈ spl c s, c ∉ p
  | [], p, hp => by simp [spl] at hp; rw [hp]; simp
  | b :: s, p, hp => by
    by_cases hb : b = c
    · subst hb
      rw [spl_hit] at hp
      rcases List.mem_cons.1 hp with rfl | hp
      · simp
      · exact spl_parts b s p hp
    · obtain ⟨x, t, h1, h2⟩ := spl_miss hb s
      rw [h2] at hp
      have ih := spl_parts c s
      rw [h1] at ih
      rcases List.mem_cons.1 hp with rfl | hp
      · intro hc
        rcases List.mem_cons.1 hc with e | hc
        · exact hb e.symm
        · exact ih x List.mem_cons_self hc
      · exact ih p (List.mem_cons_of_mem _ hp)
/-- Joined by c. -/
def jn (c : UInt8) : List (List UInt8) → List UInt8
  | [] => []
  | [p] => p
  | p :: q :: r => p ++ c :: jn c (q :: r)
theorem spl_jn {c : UInt8} : ∀ (L : List (List UInt8)), L ≠ [] → (∀ p ∈ L, c ∉ p) → spl c (jn c L) = L
  | [], h, _ => absurd rfl h
  | [p], _, h => spl_none p (h p List.mem_cons_self)
  | p :: q :: r, _, h => by
    rw [jn, spl_pre p _ (h p List.mem_cons_self), spl_jn (q :: r) (by simp) (fun x hx => h x (List.mem_cons_of_mem _ hx))]
theorem jn_spl (c : UInt8) : ∀ (s : List UInt8), jn c (spl c s) = s
  | [] => rfl
  | b :: s => by
    have ih := jn_spl c s
    by_cases hb : b = c
    · subst hb
      rw [spl_hit]
      cases hs : spl b s with
      | nil => exact absurd hs (spl_ne b s)
      | cons x t => rw [hs] at ih; rw [jn, ih]; rfl
    · obtain ⟨x, t, h1, h2⟩ := spl_miss hb s
      rw [h2]
      rw [h1] at ih
      cases t with
      | nil => rw [jn] at ih ⊢; rw [ih]
      | cons y t => rw [jn] at ih ⊢; rw [List.cons_append, ih]
theorem jn_join (c : UInt8) : ∀ (L : List (List UInt8)), jn c L = Lib.join L [c]
  | [] => rfl
  | [p] => by simp [jn, Lib.join_cons, Lib.joinTail]
  | p :: q :: r => by
    have ih := jn_join c (q :: r)
    rw [jn, ih, Lib.join_cons, Lib.join_cons]
    simp [Lib.joinTail]
/-- It is what the library's Split says. -/
theorem index_none {c : UInt8} : ∀ (s : List UInt8), c ∉ s → Lib.index s [c] = -1
  | [], _ => by simp [Lib.index]
  | b :: s, h => by
    have hb : ¬ c = b := fun e => h (by rw [e]; exact List.mem_cons_self)
    unfold Lib.index
    have ih := index_none s (fun hc => h (List.mem_cons_of_mem _ hc))
    simp [List.isPrefixOf, hb, ih]
theorem index_pre {c : UInt8} : ∀ (p s : List UInt8), c ∉ p → Lib.index (p ++ c :: s) [c] = p.length
  | [], s, _ => by simp [Lib.index, List.isPrefixOf]
  | b :: p, s, h => by
    have hb : ¬ c = b := fun e => h (by rw [e]; exact List.mem_cons_self)
    have ih := index_pre p s (fun hc => h (List.mem_cons_of_mem _ hc))
    rw [List.cons_append]
    unfold Lib.index
    rw [ih]
    have hne : ((p.length : Int) == -1) = false := by simp
    simp [List.isPrefixOf, hb, hne]
theorem split_eq (c : UInt8) : ∀ (n : Nat) (s : List UInt8), s.length ≤ n → Lib.splitK [c] 0 (Lib.count s [c]) s = spl c s := by
  intro n
  induction n with
  | zero =>
    intro s hs
    have : s = [] := List.eq_nil_of_length_eq_zero (by omega)
    subst this
    simp [Lib.count_one, Lib.splitK, spl]
  | succ n ih =>
    intro s hs
    by_cases hc : c ∈ s
    · obtain ⟨p, t, rfl, hp⟩ : ∃ p t, s = p ++ c :: t ∧ c ∉ p := by
        clear ih hs
        induction s with
        | nil => cases hc
        | cons b s ih2 =>
          by_cases hb : b = c
          · exact ⟨[], s, by rw [hb]; rfl, by simp⟩
          · obtain ⟨p, t, e, hp⟩ := ih2 ((List.mem_cons.1 hc).resolve_left (fun e => hb e.symm))
            exact ⟨b :: p, t, by rw [e]; rfl, fun h => (List.mem_cons.1 h).elim (fun e => hb e.symm) hp⟩
      have e1 : Lib.count (p ++ c :: t) [c] = Lib.count t [c] + 1 := by
        rw [Lib.count_one, Lib.count_one, List.count_append, List.count_cons_self, List.count_eq_zero.2 hp]; omega
      rw [e1, Lib.splitK, index_pre p t hp, spl_pre p t hp]
      have hne : ((p.length : Int) == -1) = false := by simp
      rw [hne]
      have e2 : (p ++ c :: t).drop ((p.length : Int).toNat + [c].length) = t := by
        rw [List.drop_append]; simp
      have e3 : (p ++ c :: t).take ((p.length : Int).toNat + 0) = p := by simp
      rw [e2, e3, ih t (by rw [List.length_append, List.length_cons] at hs; omega)]
      rfl
    · rw [Lib.count_one, List.count_eq_zero.2 hc, Lib.splitK, spl_none s hc]

/-- Decimals. -/
def isD (c : UInt8) : Bool := decide (48 ≤ c.toNat) && decide (c.toNat ≤ 57)
def formB (t : List UInt8) : Bool := decide (t ≠ []) && ((t.headD 0 != 48) || t.length == 1) && t.all isD
def numL (t : List UInt8) : Nat := t.foldl (fun n c => n * 10 + (c.toNat - 48)) 0
theorem numL_snoc (t : List UInt8) (c : UInt8) : numL (t ++ [c]) = numL t * 10 + (c.toNat - 48) := by unfold numL; rw [List.foldl_append]; rfl
theorem isD_one {n : Nat} (h : n < 10) : isD (one n) = true := by unfold isD; rw [one_nat h]; simp; omega
theorem one_of {c : UInt8} (h : isD c = true) : one (c.toNat - 48) = c := by
  unfold isD at h
  simp at h
  have : (one (c.toNat - 48)).toNat = c.toNat := by rw [one_nat (by omega)]; omega
  exact UInt8.toNat_inj.1 this
theorem dg_num (n : Nat) : numL (dg n) = n := by
  induction n using Nat.strongRecOn with
  | _ n ih =>
    by_cases h : n < 10
    · rw [dg_small h]; unfold numL; simp [one_nat h]
    · rw [dg_big h, numL_snoc, ih (n / 10) (by omega), one_nat (by omega)]; omega
theorem dg_all (n : Nat) : (dg n).all isD = true := by
  induction n using Nat.strongRecOn with
  | _ n ih =>
    by_cases h : n < 10
    · rw [dg_small h]; simp [isD_one h]
    · rw [dg_big h, List.all_append, ih (n / 10) (by omega)]; simp [isD_one (show n % 10 < 10 by omega)]
theorem dg_head {n : Nat} (h : n ≠ 0) : (dg n).headD 0 ≠ 48 := by
  induction n using Nat.strongRecOn with
  | _ n ih =>
    by_cases h1 : n < 10
    · rw [dg_small h1]
      intro e
      have : (one n).toNat = 48 := by rw [show one n = 48 from e]; rfl
      rw [one_nat h1] at this; omega
    · rw [dg_big h1]
      have hne := dg_ne (n / 10)
      have ih2 := ih (n / 10) (by omega) (by omega)
      cases hd : dg (n / 10) with
      | nil => exact absurd hd hne
      | cons a r => rw [hd] at ih2; exact ih2
theorem form_dg (n : Nat) : formB (dg n) = true := by
  unfold formB
  rw [dg_all, Bool.and_true, Bool.and_eq_true]
  refine ⟨decide_eq_true (dg_ne n), ?_⟩
  by_cases h : n = 0
  · subst h; rw [dg_small (by omega)]; rfl
  · rw [Bool.or_eq_true]; left; simpa using dg_head h
theorem dg_of_form : ∀ (k : Nat) (t : List UInt8), t.length ≤ k → formB t = true → dg (numL t) = t := by
  intro k
  induction k with
  | zero =>
    intro t hk h
    have : t = [] := List.eq_nil_of_length_eq_zero (by omega)
    subst this
    simp [formB] at h
  | succ k ih =>
    intro t hk h
    unfold formB at h
    rw [Bool.and_eq_true, Bool.and_eq_true, Bool.or_eq_true] at h
    obtain ⟨⟨h1, h2⟩, h3⟩ := h
    have hne : t ≠ [] := of_decide_eq_true h1
    have hs := List.dropLast_concat_getLast hne
    obtain ⟨p, c, rfl⟩ : ∃ p c, t = p ++ [c] := ⟨_, _, hs.symm⟩
    rw [List.all_append, Bool.and_eq_true] at h3
    have hc : isD c = true := by simpa using h3.2
    have hcn : c.toNat - 48 < 10 := by unfold isD at hc; simp at hc; omega
    cases p with
    | nil =>
      rw [List.nil_append]
      show dg (numL [c]) = [c]
      have : numL [c] = c.toNat - 48 := by unfold numL; simp
      rw [this, dg_small hcn, one_of hc]
    | cons a r =>
      have hl : (a :: r ++ [c]).length ≠ 1 := by simp
      have ha : a ≠ 48 := by
        rcases h2 with h2 | h2
        · simpa using h2
        · simp at h2
      have hf : formB (a :: r) = true := by
        unfold formB
        rw [h3.1, Bool.and_true, Bool.and_eq_true, Bool.or_eq_true]
        exact ⟨decide_eq_true (by simp), Or.inl (by simpa using ha)⟩
      have e := ih (a :: r) (by rw [List.length_append] at hk; simp at hk ⊢; omega) hf
      have hpos : 1 ≤ numL (a :: r) := by
        rcases Nat.eq_zero_or_pos (numL (a :: r)) with h0 | h0
        · rw [h0, dg_small (by omega)] at e
          injection e with e1 e2
          exact absurd e1.symm ha
        · exact h0
      rw [numL_snoc]
      have hq : ¬ numL (a :: r) * 10 + (c.toNat - 48) < 10 := by omega
      rw [dg_big hq]
      have e1 : (numL (a :: r) * 10 + (c.toNat - 48)) / 10 = numL (a :: r) := by omega
      have e2 : (numL (a :: r) * 10 + (c.toNat - 48)) % 10 = c.toNat - 48 := by omega
      rw [e1, e2, e, one_of hc]
/-- A number of a text. -/
def cutM (s : List UInt8) : List UInt8 × Bool := match s with | 45 :: t => (t, true) | s => (s, false)
def parseD (s : List UInt8) : Option Int :=
  let t := (cutM s).1
  if formB t && !((cutM s).2 && t == [48]) && decide (t.length ≤ 14) && decide (numL t ≤ 1099511627776) then some (if (cutM s).2 then -(numL t : Int) else (numL t : Int)) else none
theorem cut_other {s : List UInt8} (h : ∀ t, s ≠ 45 :: t) : cutM s = (s, false) := by
  unfold cutM
  split
  · rename_i t; exact absurd rfl (h t)
  · rfl
theorem parse_pr {s : List UInt8} {n : Int} (h : parseD s = some n) : s = pr n ∧ -1099511627776 ≤ n ∧ n ≤ 1099511627776 := by
  by_cases hm : ∃ t, s = 45 :: t
  · obtain ⟨t, rfl⟩ := hm
    have hc : cutM (45 :: t) = (t, true) := rfl
    unfold parseD at h
    simp only [hc] at h
    split at h
    case isFalse => cases h
    case isTrue hq =>
      rw [Bool.and_eq_true, Bool.and_eq_true, Bool.and_eq_true] at hq
      obtain ⟨⟨⟨h1, h2⟩, h3⟩, h4⟩ := hq
      have h4 := of_decide_eq_true h4
      have e := dg_of_form _ _ (Nat.le_refl _) h1
      injection h with h
      have h' : n = -(numL t : Int) := by rw [← h]; rfl
      have hn : numL t ≠ 0 := fun h0 => by
        rw [h0, dg_small (by omega)] at e
        rw [← e] at h2
        exact absurd h2 (by decide)
      refine ⟨?_, by omega, by omega⟩
      unfold pr
      rw [if_pos (by omega)]
      have : n.natAbs = numL t := by omega
      rw [this, e]
  · have hc := cut_other (s := s) (fun t e => hm ⟨t, e⟩)
    unfold parseD at h
    simp only [hc] at h
    split at h
    case isFalse => cases h
    case isTrue hq =>
      rw [Bool.and_eq_true, Bool.and_eq_true, Bool.and_eq_true] at hq
      obtain ⟨⟨⟨h1, h2⟩, h3⟩, h4⟩ := hq
      have h4 := of_decide_eq_true h4
      have e := dg_of_form _ _ (Nat.le_refl _) h1
      injection h with h
      have h' : n = (numL s : Int) := by rw [← h]; rfl
      refine ⟨?_, by omega, by omega⟩
      unfold pr
      rw [if_neg (by omega)]
      have : n.natAbs = numL s := by omega
      rw [this, e]
theorem dg_no45 (n : Nat) (t : List UInt8) : dg n ≠ 45 :: t := fun e => by
  have h := dg_all n
  rw [e] at h
  simp [isD] at h
theorem parse_of {n : Int} (h : -1099511627776 ≤ n) (h' : n ≤ 1099511627776) : parseD (pr n) = some n := by
  have hl : (dg n.natAbs).length ≤ 14 := dg_len 13 _ (by omega)
  unfold pr
  by_cases hn : n < 0
  · rw [if_pos hn]
    unfold parseD cutM
    simp only [form_dg, dg_num, decide_eq_true hl]
    have h48 : (dg n.natAbs == [48]) = false := by
      rw [Bool.eq_false_iff]
      intro e
      have e := eq_of_beq e
      have := dg_num n.natAbs
      rw [e] at this
      unfold numL at this
      simp at this
      omega
    rw [h48, decide_eq_true (show n.natAbs ≤ 1099511627776 by omega)]
    simp
    omega
  · rw [if_neg hn]
    have hb : cutM (dg n.natAbs) = (dg n.natAbs, false) := by
      unfold cutM
      split
      · rename_i t e; exact absurd e (dg_no45 _ t)
      · rfl
    unfold parseD
    simp only [hb, form_dg, dg_num, decide_eq_true hl]
    rw [decide_eq_true (show n.natAbs ≤ 1099511627776 by omega)]
    simp
    omega
theorem pr_bytes {n : Int} {c : UInt8} (h : c ∈ pr n) : c = 45 ∨ (48 ≤ c.toNat ∧ c.toNat ≤ 57) := by
  have key : ∀ m, c ∈ dg m → 48 ≤ c.toNat ∧ c.toNat ≤ 57 := fun m hm => by
    have := List.all_eq_true.1 (dg_all m) c hm
    unfold isD at this
    simpa using this
  unfold pr at h
  split at h
  · rcases List.mem_cons.1 h with e | h
    · exact Or.inl e
    · exact Or.inr (key _ h)
  · exact Or.inr (key _ h)
theorem pr_inj {a b : Int} (h : pr a = pr b) (ha : -1099511627776 ≤ a ∧ a ≤ 1099511627776) (hb : -1099511627776 ≤ b ∧ b ≤ 1099511627776) : a = b := by
  have h1 := parse_of ha.1 ha.2
  rw [h, parse_of hb.1 hb.2] at h1
  injection h1 with h1
  exact h1.symm
theorem pr_inj_all {a b : Int} (h : pr a = pr b) : a = b := by
  unfold pr at h
  by_cases ha : a < 0 <;> by_cases hb : b < 0
  · rw [if_pos ha, if_pos hb] at h
    injection h with _ h
    have := congrArg numL h
    rw [dg_num, dg_num] at this
    omega
  · rw [if_pos ha, if_neg hb] at h
    exact absurd h.symm (dg_no45 _ _)
  · rw [if_neg ha, if_pos hb] at h
    exact absurd h (dg_no45 _ _)
  · rw [if_neg ha, if_neg hb] at h
    have := congrArg numL h
    rw [dg_num, dg_num] at this
    omega
end Go.Proofs.YtmiklgekcmeedaaDoor.Spl
