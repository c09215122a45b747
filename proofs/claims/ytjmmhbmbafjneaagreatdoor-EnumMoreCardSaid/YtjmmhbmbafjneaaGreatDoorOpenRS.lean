/-
  Clauses that come in, and what they weigh.
-/
import Derived.Test.YtjmmhbmbafjneaaGreatDoorOpen
namespace Go.Proofs.YtjmmhbmbafjneaaGreatDoor.Open
open Go.ChangeShapes Go.WideShapes Go.ChangeAt Go.RowKit Go.Deep Base
set_option linter.unusedVariables false
set_option linter.unusedSimpArgs false

theorem slice_sized1 {H : Type} {enc : TypeId × Value → H} {P : Program} {w : World} {base : Nat} {held : Bool} {t e : TypeId} {a : Option Addr} {n c : Nat} {d : DataW H} {p : List MemPlace} (ht : P.underlying t = some (.slice e)) (hc : P.cellsOf e = 1)
    (h : DataW.Trod enc P w base (fun _ => true) held t (.slice a n c) d p) (hsz : (d.weights P t).all (· ≤ reachBytes) = true) : n * P.bytesOf e ≤ 140737488351232 :=
  slice_sized (ts := [t]) (ds := [d]) (j := 0) ht hc h (by simpa [DataW.weightsEach] using hsz) rfl rfl

theorem weights_part {H : Type} {P : Program} {e : TypeId} {l : List (DataW H)} {d : DataW H} (h : d ∈ l) {z : Nat} (hz : z ∈ d.weights P e) : z ∈ DataW.weightsAll P e l := by
  induction l with
  | nil => cases h
  | cons x r ih =>
    unfold DataW.weightsAll
    rw [List.mem_append]
    rcases List.mem_cons.1 h with rfl | h
    · exact .inl hz
    · exact .inr (ih h)

theorem rows_sized {H : Type} {enc : TypeId × Value → H} {P : Program} {w : World} {base : Nat} {held : Bool} {t e q : TypeId} {a : Option Addr} {c : Nat} {xss : List (List Int)} {vs : List Value} {d : DataW H} {p : List MemPlace} (ht : P.underlying t = some (.slice e)) (he : P.underlying e = some (.slice q))
    (hc : P.cellsOf e = 1) (hcq : P.cellsOf q = 1) (hs : Sl2 w a xss.length c vs xss) (h : DataW.Trod enc P w base (fun _ => true) held t (.slice a xss.length c) d p) (hsz : (d.weights P t).all (· ≤ reachBytes) = true) :
    xss.length * P.bytesOf e ≤ 140737488351232 ∧ ∀ x ∈ xss, x.length * P.bytesOf q ≤ 140737488351232 := by
  refine ⟨slice_sized1 ht hc h hsz, fun x hx => ?_⟩
  obtain ⟨k, hk, rfl⟩ := List.mem_iff_getElem.1 hx
  obtain ⟨b, o, a', c', hx', ha, hb, hcell, hsl, _⟩ := hs.at hk
  obtain ⟨fuel, hf⟩ := h
  rcases open_slice1 ht hc hf with ⟨hcs, hxx⟩ | ⟨ad, len, cap, m, n', V, D, Pl, hcs, hb', hl, hm, hmm, hxx, hall⟩
  · simp [Value.cells] at hcs
    have h0 : xss.length = 0 := by rw [hcs.2.1]; rfl
    omega
  · simp [Value.cells] at hcs
    obtain ⟨hae, hle, _⟩ := hcs
    rw [ha] at hae
    simp only [Option.some.injEq] at hae
    subst hae
    simp only [if_true] at hmm
    obtain ⟨h1, h2⟩ := hall k (by omega)
    rw [Addr.add_lit, hcell] at h1
    simp only [Option.some.injEq] at h1
    rw [← h1] at h2
    refine slice_sized1 he hcq ⟨n', h2⟩ (List.all_eq_true.2 fun z hz => List.all_eq_true.1 hsz z ?_)
    simp only [Prod.mk.injEq] at hxx
    rw [hxx.1]
    simp only [DataW.weights, ht]
    refine List.mem_cons_of_mem _ (List.mem_append_left _ (weights_part (d := D k) ?_ hz))
    exact List.mem_map.2 ⟨k, by simp; omega, rfl⟩
end Go.Proofs.YtjmmhbmbafjneaaGreatDoor.Open
