/-
  Plain: the least first state in a cube, and which literals no first state has.
-/
import Derived.Test.YtllbncfcnjmbmaaDoorInitial
import Derived.Test.YtllbncfcnjmbmaaDoorSimReset
import Derived.Test.YtllbncfcnjmbmaaDoorAllS
import Derived.Test.YtllbncfcnjmbmaaDoorCubeP
namespace Go.Proofs.YtllbncfcnjmbmaaDoor
open Go.RowKit Base
set_option linter.unusedVariables false
set_option linter.unusedSimpArgs false
namespace MeetsP
open Strange Initial

def ResetOk (lats : List Tri) : Prop := ∀ t ∈ lats, t.2.2 = 0 ∨ t.2.2 = 1 ∨ t.2.2 = t.1

def freeB (l : List Int) (i : Nat) : UInt8 := if l.contains ((i : Int) + 1) then 49 else 48
def freeL (V : Nat) (l : List Int) : List UInt8 := (List.range V).map (freeB l)
def resetB (t : Tri) (b : UInt8) : UInt8 := if t.2.2 = t.1 then b else if t.2.2 = 1 then 49 else 48
def firstL (lats : List Tri) (fr : List UInt8) : List UInt8 := List.zipWith resetB lats fr
/-- The first state that has what a cube asks of the latches that are free. -/
def best (lats : List Tri) (l : List Int) : List UInt8 := firstL lats (freeL lats.length l)

theorem freeL_len (V : Nat) (l : List Int) : (freeL V l).length = V := by simp [freeL]
theorem freeL_at {V : Nat} {l : List Int} {i : Nat} (h : i < (freeL V l).length) : (freeL V l)[i] = freeB l i := by simp [freeL]
theorem best_len (lats : List Tri) (l : List Int) : (best lats l).length = lats.length := by
  unfold best firstL; rw [List.length_zipWith, freeL_len]; exact Nat.min_self _
theorem best_at {lats : List Tri} {l : List Int} {i : Nat} (h : i < lats.length) : (best lats l)[i]'(by rw [best_len]; exact h) = resetB lats[i] (freeB l i) := by
  unfold best firstL
  rw [List.getElem_zipWith, freeL_at]

theorem freeB_bit (l : List Int) (i : Nat) : freeB l i = 49 ∨ freeB l i = 48 := by unfold freeB; split <;> simp
theorem resetB_bit (t : Tri) {b : UInt8} (h : b = 49 ∨ b = 48) : resetB t b = 49 ∨ resetB t b = 48 := by
  unfold resetB
  split
  · exact h
  · split <;> simp
theorem freeL_bits (V : Nat) (l : List Int) : (freeL V l).all RefBits.bit = true := by
  rw [List.all_eq_true]
  intro b hb
  obtain ⟨i, hi, rfl⟩ := List.mem_map.1 hb
  unfold RefBits.bit
  rcases freeB_bit l i with h | h <;> rw [h] <;> rfl
theorem best_bits (lats : List Tri) (l : List Int) : (best lats l).all RefBits.bit = true := by
  rw [List.all_eq_true]
  intro b hb
  obtain ⟨i, hi, rfl⟩ := List.mem_iff_getElem.1 hb
  have hil : i < lats.length := by rw [best_len] at hi; exact hi
  rw [best_at hil]
  unfold RefBits.bit
  rcases resetB_bit lats[i] (freeB_bit l i) with h | h <;> rw [h] <;> rfl

theorem b49 (b : UInt8) : ((b.toNat : Int) == 49) = (b == 49) := byte_eq b 49
theorem okLat_offT (t : Tri) (b : UInt8) : okLat t b = !offT t (b == 49) := by
  unfold okLat offT
  rw [b49]
theorem reset_ok (t : Tri) (b : UInt8) : okLat t (resetB t b) = true := by
  rw [okLat_offT]
  unfold offT resetB
  by_cases h : t.2.2 = t.1
  · have e : (t.2.2 != t.1) = false := by simp [h]
    rw [e]; rfl
  · rw [if_neg h]
    by_cases h1 : t.2.2 = 1
    · rw [if_pos h1]
      have e : (t.2.2 == 1) = true := by simp [h1]
      rw [e]; simp
    · rw [if_neg h1]
      have e : (t.2.2 == 1) = false := by simp [h1]
      rw [e]; simp

/-- Is a state a first one? -/
def initL (lats : List Tri) (s : List UInt8) : Bool := RefBits.bits s lats.length && (List.zipWith okLat lats s).all id
theorem initL_eq (lats : List Tri) (s : ByteArray) : initialB lats s = initL lats s.data.toList := rfl

theorem bits_len {s : List UInt8} {V : Nat} (h : RefBits.bits s V = true) : s.length = V := by
  unfold RefBits.bits at h
  rw [Bool.and_eq_true, decide_eq_true_eq] at h
  omega
theorem init_at {lats : List Tri} {s : List UInt8} (h : initL lats s = true) : s.length = lats.length ∧ ∀ i (h1 : i < lats.length) (h2 : i < s.length), okLat lats[i] s[i] = true := by
  unfold initL at h
  rw [Bool.and_eq_true] at h
  refine ⟨bits_len h.1, fun i h1 h2 => ?_⟩
  have := List.all_eq_true.1 h.2 (okLat lats[i] s[i]) (List.mem_iff_getElem.2 ⟨i, by rw [List.length_zipWith]; omega, by rw [List.getElem_zipWith]⟩)
  exact this
theorem init_best (lats : List Tri) (l : List Int) : initL lats (best lats l) = true := by
  unfold initL RefBits.bits
  rw [best_bits, best_len]
  simp only [decide_true, Bool.true_and]
  refine all_to fun j h1 h2 => ?_
  rw [best_at h1]
  exact reset_ok _ _

theorem is_at {s : List UInt8} {k : Nat} (hk : k < s.length) (b : Bool) {a : Int} (ha : a = if b then (k : Int) + 1 else -((k : Int) + 1)) : CubeP.is s a = ((s[k] == 49) == b) := by
  rw [ha]; exact CubeP.is_lit s k hk b

/-- A literal that is not strange: a latch's. -/
theorem strange_no {lats : List Tri} {a : Int} (h : strangeB lats a = false) : ∃ i, ∃ hi : i < lats.length, ∃ b : Bool, a = (if b then (i : Int) + 1 else -((i : Int) + 1)) ∧ offT lats[i] b = false := by
  have h0 := h
  unfold strangeB at h
  rw [Bool.or_eq_false_iff, Bool.or_eq_false_iff, decide_eq_false_iff_not, decide_eq_false_iff_not] at h
  obtain ⟨⟨h1, h2⟩, h3⟩ := h
  have hm : a ≠ -9223372036854775808 := by
    intro e
    rw [e] at h1
    exact h1 (by decide)
  have ha : Clause.absI a = max a (-a) := by unfold Clause.absI; rw [if_neg hm]
  rw [ha] at h1 h2 h3
  have hi : (max a (-a)).toNat - 1 < lats.length := by omega
  refine ⟨(max a (-a)).toNat - 1, hi, decide (0 < a), ?_, ?_⟩
  · by_cases hp : 0 < a
    · rw [decide_eq_true hp, if_pos rfl]; omega
    · rw [decide_eq_false hp]; simp only [Bool.false_eq_true, if_false]; omega
  · rw [List.getD_eq_getElem?_getD, List.getElem?_eq_getElem hi] at h3
    exact h3

theorem strange_yes {lats : List Tri} {a : Int} (hV : lats.length ≤ 1000000) (h : strangeB lats a = true) {s : List UInt8} (hi : initL lats s = true) : CubeP.is s a = false := by
  obtain ⟨hl, hat⟩ := init_at hi
  rw [Bool.eq_false_iff]
  intro his
  have h1 : 1 ≤ max a (-a) ∧ max a (-a) ≤ s.length := by
    unfold CubeP.is at his
    simp only [Bool.and_eq_true, decide_eq_true_eq] at his
    exact ⟨his.1.1, his.1.2⟩
  have hm : a ≠ -9223372036854775808 := by omega
  have ha : Clause.absI a = max a (-a) := by unfold Clause.absI; rw [if_neg hm]
  obtain ⟨k, hk⟩ : ∃ k : Nat, max a (-a) = (k : Int) + 1 := ⟨(max a (-a)).toNat - 1, by omega⟩
  have hks : k < s.length := by omega
  have hkl : k < lats.length := by omega
  have e : a = if decide (0 < a) then (k : Int) + 1 else -((k : Int) + 1) := by
    by_cases hp : 0 < a
    · rw [decide_eq_true hp, if_pos rfl]; omega
    · rw [decide_eq_false hp]; simp only [Bool.false_eq_true, if_false]; omega
  rw [is_at hks (decide (0 < a)) e] at his
  have hs := strange_in (lats := lats) (l := a) (i := k) (by rw [ha, hk]) hkl
  rw [h] at hs
  have ho := hat k hkl hks
  rw [okLat_offT, beq_iff_eq.1 his, ← hs] at ho
  cases ho

/-- With what a cube asks that is not strange: the state has it, where the state is free as the cube asks or the cube asks it alone. -/
theorem offT_fix {t : Tri} {b : Bool} (h : offT t b = false) (hn : t.2.2 ≠ t.1) : (t.2.2 == 1) = b := by
  unfold offT at h
  have e : (t.2.2 != t.1) = true := by simp [hn]
  rw [e, Bool.true_and] at h
  simpa using h
theorem resetB_fix {t : Tri} (c : UInt8) (hn : t.2.2 ≠ t.1) : (resetB t c == 49) = (t.2.2 == 1) := by
  unfold resetB
  rw [if_neg hn]
  by_cases h1 : t.2.2 = 1
  · rw [if_pos h1, h1]; rfl
  · rw [if_neg h1]
    have e : (t.2.2 == 1) = false := by simp [h1]
    rw [e]; rfl
theorem resetB_free {t : Tri} (c : UInt8) (hn : t.2.2 = t.1) : resetB t c = c := by unfold resetB; rw [if_pos hn]

theorem alone {lats : List Tri} {a : Int} (h : strangeB lats a = false) : CubeP.is (best lats [a]) a = true := by
  obtain ⟨i, hi, b, ha, hf⟩ := strange_no h
  rw [is_at (by rw [best_len]; exact hi) b ha, best_at hi]
  by_cases hn : lats[i].2.2 = lats[i].1
  · rw [resetB_free _ hn]
    unfold freeB
    cases b
    · have : ¬ (([a] : List Int).contains ((i : Int) + 1) = true) := by
        rw [ha]; simp; omega
      rw [if_neg this]; rfl
    · have : ([a] : List Int).contains ((i : Int) + 1) = true := by rw [ha]; simp
      rw [if_pos this]; rfl
  · rw [resetB_fix _ hn, offT_fix hf hn]; simp

/-- As numbers of bits: where one has a 1 the other has it. -/
def Le (s t : List UInt8) : Prop := ∀ i : Nat, s[i]? = some 49 → t[i]? = some 49

theorem inC_is {l : List Int} {s : List UInt8} : CubeP.inC l s = true ↔ ∀ a ∈ l, CubeP.is s a = true := by
  unfold CubeP.inC
  rw [Bool.not_eq_true', List.any_eq_false]
  constructor
  · intro h a ha
    have := h a ha
    simpa using this
  · intro h a ha
    rw [h a ha]; decide

theorem least {lats : List Tri} {l : List Int} {t : List UInt8} (hi : initL lats t = true) (hin : CubeP.inC l t = true) : Le (best lats l) t := by
  obtain ⟨hl, hat⟩ := init_at hi
  intro i h
  obtain ⟨hib, he⟩ := List.getElem?_eq_some_iff.1 h
  have hil : i < lats.length := by rw [best_len] at hib; exact hib
  have hit : i < t.length := by omega
  rw [best_at hil] at he
  rw [List.getElem?_eq_getElem hit]
  congr 1
  by_cases hn : lats[i].2.2 = lats[i].1
  · rw [resetB_free _ hn] at he
    have hc : l.contains ((i : Int) + 1) = true := by
      unfold freeB at he
      by_cases hc : l.contains ((i : Int) + 1) = true
      · exact hc
      · rw [if_neg hc] at he; exact absurd he (by decide)
    have := inC_is.1 hin _ (by simpa using hc)
    rw [is_at hit true (by simp)] at this
    simpa using this
  · have ho := hat i hil hit
    rw [okLat_offT, Bool.not_eq_true'] at ho
    have e1 := offT_fix ho hn
    have e2 := resetB_fix (freeB l i) hn
    rw [he] at e2
    rw [← e2] at e1
    simpa using e1.symm

theorem has {lats : List Tri} {l : List Int} (hs : ∀ a ∈ l, strangeB lats a = false) {t : List UInt8} (hi : initL lats t = true) (hin : CubeP.inC l t = true) : CubeP.inC l (best lats l) = true := by
  rw [inC_is]
  intro a ha
  obtain ⟨i, hil, b, hab, hf⟩ := strange_no (hs a ha)
  obtain ⟨hl, hat⟩ := init_at hi
  have hit : i < t.length := by omega
  have hta := inC_is.1 hin a ha
  rw [is_at hit b hab] at hta
  have hb := beq_iff_eq.1 hta
  rw [is_at (by rw [best_len]; exact hil) b hab, best_at hil]
  by_cases hn : lats[i].2.2 = lats[i].1
  · rw [resetB_free _ hn]
    cases b
    · have hle := least hi hin i
      have hne : freeB l i ≠ 49 := by
        intro e
        have := hle (by rw [List.getElem?_eq_getElem (by rw [best_len]; exact hil), best_at hil, resetB_free _ hn, e])
        rw [List.getElem?_eq_getElem hit] at this
        simp only [Option.some.injEq] at this
        rw [this] at hb
        exact absurd hb (by decide)
      have : (freeB l i == 49) = false := by simpa using hne
      rw [this]; rfl
    · have : l.contains ((i : Int) + 1) = true := by
        rw [if_pos rfl] at hab
        rw [← hab]; simpa using ha
      unfold freeB
      rw [if_pos this]; rfl
  · rw [resetB_fix _ hn, offT_fix hf hn]; simp

/-! ### All states in their order. -/
theorem find_least {α : Type} {R : α → α → Prop} {p : α → Bool} {s : α} : ∀ (l : List α), l.Pairwise (fun a b => ¬ R b a) → s ∈ l → p s = true → (∀ t ∈ l, p t = true → R s t) → l.find? p = some s
  | [], _, h, _, _ => by cases h
  | a :: r, hp, hs, hps, hm => by
    rw [List.pairwise_cons] at hp
    rw [List.find?_cons]
    by_cases ha : p a = true
    · rw [ha]
      rcases List.mem_cons.1 hs with rfl | h
      · rfl
      · exact absurd (hm a List.mem_cons_self ha) (hp.1 s h)
    · rw [Bool.eq_false_iff.2 ha]
      rcases List.mem_cons.1 hs with rfl | h
      · exact absurd hps ha
      · exact find_least r hp.2 h hps fun t ht => hm t (List.mem_cons_of_mem _ ht)

def LeA (s t : ByteArray) : Prop := Le s.data.toList t.data.toList
theorem data_two (s : ByteArray) : (s ++ AllS.b0).data.toList = s.data.toList ++ [48] ∧ (s ++ AllS.b1).data.toList = s.data.toList ++ [49] := by
  constructor <;> rw [ByteArray.data_append, Array.toList_append] <;> rfl

theorem le_left {a b : List UInt8} {x y : UInt8} (hl : a.length = b.length) (h : Le (a ++ [x]) (b ++ [y])) : Le a b := by
  intro i hi
  obtain ⟨hia, _⟩ := List.getElem?_eq_some_iff.1 hi
  have := h i (by rw [List.getElem?_append_left hia]; exact hi)
  rwa [List.getElem?_append_left (by omega)] at this
theorem not_le_two (a : List UInt8) : ¬ Le (a ++ [49]) (a ++ [48]) := by
  intro h
  have := h a.length (by simp)
  simp at this

theorem pairs : ∀ n, (AllS.allS n).Pairwise (fun a b => ¬ LeA b a)
  | 0 => by simp [AllS.allS]
  | n + 1 => by
    rw [AllS.allS, List.pairwise_flatMap]
    constructor
    · intro a ha
      unfold AllS.two
      simp only [List.pairwise_cons, List.mem_singleton, forall_eq, List.not_mem_nil, false_imp_iff, implies_true, List.Pairwise.nil, and_true]
      unfold LeA
      rw [(data_two a).1, (data_two a).2]
      exact not_le_two _
    · refine (pairs n).imp_of_mem ?_
      intro a b ha hb hab x hx y hy h
      apply hab
      have hla := AllS.allS_size n a ha
      have hlb := AllS.allS_size n b hb
      have hl : b.data.toList.length = a.data.toList.length := by
        have e1 : a.data.toList.length = a.size := by rw [Array.length_toList]; rfl
        have e2 : b.data.toList.length = b.size := by rw [Array.length_toList]; rfl
        omega
      unfold AllS.two at hx hy
      unfold LeA at h ⊢
      simp only [List.mem_cons, List.not_mem_nil, or_false] at hx hy
      rcases hx with rfl | rfl <;> rcases hy with rfl | rfl <;> (try rw [(data_two a).1] at h) <;> (try rw [(data_two a).2] at h) <;> (try rw [(data_two b).1] at h) <;> (try rw [(data_two b).2] at h) <;> exact le_left hl h

theorem mem_all : ∀ (n : Nat) (l : List UInt8), l.length = n → l.all RefBits.bit = true → (⟨l.toArray⟩ : ByteArray) ∈ AllS.allS n
  | 0, l, hl, _ => by
    have : l = [] := List.eq_nil_of_length_eq_zero hl
    subst this
    simp [AllS.allS]
  | n + 1, l, hl, hb => by
    obtain ⟨m, c, rfl⟩ : ∃ m c, l = m ++ [c] := by
      rcases List.eq_nil_or_concat l with rfl | ⟨m, c, h⟩
      · simp at hl
      · exact ⟨m, c, by rw [h, List.concat_eq_append]⟩
    rw [List.all_append, Bool.and_eq_true] at hb
    have hm := mem_all n m (by simp at hl; omega) hb.1
    have hc : c = 48 ∨ c = 49 := by
      have := hb.2
      unfold RefBits.bit at this
      simpa using this
    rw [AllS.allS, List.mem_flatMap]
    refine ⟨_, hm, ?_⟩
    unfold AllS.two
    have key : ∀ c : UInt8, (⟨(m ++ [c]).toArray⟩ : ByteArray) = ⟨m.toArray⟩ ++ ⟨#[c]⟩ := by
      intro c
      apply ByteArray.ext
      rw [ByteArray.data_append]
      simp
    rcases hc with rfl | rfl
    · rw [key 48]; exact List.mem_cons_self
    · rw [key 49]; exact List.mem_cons_of_mem _ List.mem_cons_self

/-- The state that Fill tells, as a text. -/
def bestS (lats : List Tri) (l : List Int) : ByteArray := ⟨(best lats l).toArray⟩
def pq (lats : List Tri) (l : List Int) (t : ByteArray) : Bool := initialB lats t && CubeP.inC l t.data.toList

theorem law_strange {lats : List Tri} {l : List Int} (hV : lats.length ≤ 1000000) (h : (l.map (strangeB lats)).any id = true) (n : Nat) : (AllS.allS n).any (pq lats l) = false := by
  rw [List.any_eq_false]
  intro t _ hp
  unfold pq at hp
  rw [Bool.and_eq_true] at hp
  obtain ⟨b, hb, hb2⟩ := List.any_eq_true.1 h
  obtain ⟨a, ha, rfl⟩ := List.mem_map.1 hb
  have h1 := strange_yes hV hb2 (s := t.data.toList) hp.1
  rw [inC_is.1 hp.2 a ha] at h1
  cases h1
theorem not_strange {lats : List Tri} {l : List Int} (h : (l.map (strangeB lats)).any id = false) : ∀ a ∈ l, strangeB lats a = false := by
  intro a ha
  have := List.any_eq_false.1 h _ (List.mem_map.2 ⟨a, ha, rfl⟩)
  simpa using this
theorem law_none {lats : List Tri} {l : List Int} (h : (l.map (strangeB lats)).any id = false) (hb : CubeP.inC l (best lats l) = false) (n : Nat) : (AllS.allS n).any (pq lats l) = false := by
  rw [List.any_eq_false]
  intro t _ hp
  unfold pq at hp
  rw [Bool.and_eq_true] at hp
  have := has (not_strange h) (t := t.data.toList) hp.1 hp.2
  rw [hb] at this
  cases this
theorem law_some {lats : List Tri} {l : List Int} (hb : CubeP.inC l (best lats l) = true) : (AllS.allS lats.length).find? (pq lats l) = some (bestS lats l) := by
  refine find_least (R := LeA) _ (pairs _) (mem_all _ _ (best_len _ _) (best_bits _ _)) ?_ fun t ht hp => ?_
  · unfold pq
    rw [Bool.and_eq_true]
    exact ⟨init_best lats l, hb⟩
  · unfold pq at hp
    rw [Bool.and_eq_true] at hp
    exact least hp.1 hp.2
theorem law_apart {lats : List Tri} (hV : lats.length ≤ 1000000) (a : Int) : (AllS.allS lats.length).any (fun t => initialB lats t && CubeP.is t.data.toList a) = !strangeB lats a := by
  by_cases h : strangeB lats a = true
  · rw [h]
    show _ = false
    rw [List.any_eq_false]
    intro t _ hp
    rw [Bool.and_eq_true] at hp
    have := strange_yes hV h (s := t.data.toList) hp.1
    rw [hp.2] at this
    cases this
  · rw [Bool.eq_false_iff.2 h]
    show _ = true
    rw [List.any_eq_true]
    refine ⟨bestS lats [a], mem_all _ _ (best_len _ _) (best_bits _ _), ?_⟩
    rw [Bool.and_eq_true]
    exact ⟨init_best lats [a], alone (Bool.eq_false_iff.2 h)⟩
end MeetsP
end Go.Proofs.YtllbncfcnjmbmaaDoor
