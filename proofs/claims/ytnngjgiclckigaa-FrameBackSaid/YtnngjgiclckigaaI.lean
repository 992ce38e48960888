/-
  A slice of strings that came in reads as a list of strings; no condition beyond the row's own reach.
-/
import Derived.Test.YtnngjgiclckigaaH
import Derived.SizedLaws
import Derived.SliceStrings
import Derived.ProofKit
namespace Go.Proofs.Ytnngjgiclckigaa
open Go.ChangeShapes Go.WideShapes Go.RowKit

/-- A slice of strings that came in. -/
theorem strs_of_trod {H : Type} {enc : TypeId × Value → H} {W : World} {base : Nat} {spare : Nat → Bool} {held : Bool} {t e : TypeId} {a : Option Addr} {len cap : Nat} {d : DataW H} {ps : List MemPlace} {ts : List TypeId} {ds : List (DataW H)} {j : Nat}
    (hsz : (DataW.weightsEach Try.prog ts ds).all (· ≤ reachBytes) = true) (ht : ts[j]? = some t) (hd : ds[j]? = some d) (hu : Try.prog.underlying t = some (.slice e)) (he : Try.prog.underlying e = some .string) (hc : Try.prog.cellsOf e = 1) (hB : Try.prog.bytesOf e = 16)
    (h : DataW.Trod enc Try.prog W base spare held t (.slice a len cap) d ps) :
    ∃ l : List ByteArray, Strs W (.slice a len cap) l ∧ (∀ x ∈ l, x.size ≤ 9223372036854775807) ∧ l.length ≤ 140737488351232 := by
  obtain ⟨fuel, hf⟩ := h
  rcases open_strings hu he hc hf with ⟨hcs, _⟩ | ⟨x, n, c, ss, hcs, _, hl, hm, hz, hx, hcell, hws⟩
  · simp [Value.cells] at hcs
    obtain ⟨rfl, rfl, rfl⟩ := hcs
    exact ⟨[], ⟨none, 0, rfl, by simp, by omega, fun i hi => by simp at hi⟩, by simp, by simp⟩
  · simp [Value.cells] at hcs
    obtain ⟨rfl, rfl, rfl⟩ := hcs
    obtain ⟨hx, _⟩ := Prod.mk.inj hx
    subst hx
    have z := sized_slice hsz ht hd hu
    rw [hB] at z
    have hl2 : len ≤ ss.length := by
      rw [hz]
      split
      · exact hl
      · exact Nat.le_refl _
    have h1 : (strs (H := H) (ss.take len)).length + (strs (H := H) (ss.drop len)).length = ss.length := by
      simp [strs]
      omega
    rw [h1] at z
    have hr : reachBytes ≤ 140737488351232 := by decide
    have hlen : (ss.take len).length = len := by simp; omega
    refine ⟨ss.take len, ⟨some x, cap, by rw [hlen], by omega, by unfold maxLen at hm; exact hm, ?_⟩, ?_, by omega⟩
    · intro i hi
      obtain ⟨b, off, sp⟩ := x
      have hci := hcell i (by omega)
      have hspot : sp = none := by simpa [Addr.add] using World.cell?_spot (hcell 0 (by omega))
      subst hspot
      refine ⟨b, off, rfl, ?_⟩
      rw [← Go.WideShapes.add_plain, hci]
      have h3 : i < ss.length := by omega
      simp [List.getD, List.getElem?_eq_getElem h3]
    · intro y hy
      have := hws y (List.mem_of_mem_take hy)
      unfold maxLen at this
      exact this
end Go.Proofs.Ytnngjgiclckigaa
