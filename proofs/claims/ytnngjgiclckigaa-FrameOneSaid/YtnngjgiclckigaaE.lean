/-
  The walk of the law FrameTells: it answers true; condition: each text shorter than 2^47 bytes.
-/
import Derived.Test.YtnngjgiclckigaaD
namespace Go.Proofs.Ytnngjgiclckigaa
open Go.RowKit

/-- A load's frame, and the error's number. -/
def bytesF (s : ByteArray) : ByteArray := if s.size ≤ 1024 then hdr s.size ++ s else ByteArray.empty
def bytesE (s : ByteArray) : Int := if s.size ≤ 1024 then 0 else 2
def sizeF (n : Int) : Int := if 0 ≤ n ∧ n ≤ 1024 then 4 + n else 0
def firstL (s : ByteArray) : ByteArray := (firstF s).getD ByteArray.empty
def firstI (s : ByteArray) : Int := ((firstF s).map fun l => (4 + (l.size : Int))).getD 0
def firstO (s : ByteArray) : Bool := (firstF s).isSome

theorem bytes_any (s : ByteArray) (hs : s.size ≤ 9223372036854775807) (w : World) :
    Calls Try.prog 9 #[.string s] w fun e w' => e = .returned (.tuple #[.string (bytesF s), .int .i64 (bytesE s)]) ∧ Below w.heap.size w w' := by
  unfold bytesF bytesE
  by_cases h : s.size ≤ 1024
  · rw [if_pos h, if_pos h]; exact bytes_ok s w h
  · rw [if_neg h, if_neg h]
    refine (bytes_no s w (by omega) hs).mono ?_
    rintro e w' ⟨rfl, rfl⟩
    exact ⟨rfl, Below.refl _ _⟩

theorem refBytes_any (s : ByteArray) (hs : s.size ≤ 140737488351232) (w : World) :
    Calls Try.prog 11 #[.string s] w fun e w' => e = .returned (.tuple #[.string (bytesF s), .int .i64 (bytesE s)]) ∧ Below w.heap.size w w' := by
  unfold bytesF bytesE
  by_cases h : s.size ≤ 1024
  · rw [if_pos h, if_pos h]; exact refBytes_ok s w h
  · rw [if_neg h, if_neg h]
    refine (refBytes_no s w (by omega) hs).mono ?_
    rintro e w' ⟨rfl, rfl⟩
    exact ⟨rfl, Below.refl _ _⟩

theorem size_any (n : Int) (w : World) :
    Calls Try.prog 15 #[.int .i64 n] w fun e w' => e = .returned (.int .i64 (sizeF n)) ∧ w = w' := by
  unfold sizeF
  by_cases h : 0 ≤ n ∧ n ≤ 1024
  · rw [if_pos h]; exact size_ok n w h.1 h.2
  · rw [if_neg h]; exact size_no n w (by omega)

theorem refSize_any (n : Int) (w : World) :
    Calls Try.prog 16 #[.int .i64 n] w fun e w' => e = .returned (.int .i64 (sizeF n)) ∧ w = w' := by
  unfold sizeF
  by_cases h : 0 ≤ n ∧ n ≤ 1024
  · rw [if_pos h, Int.add_comm]; exact refSize_ok n w h.1 h.2
  · rw [if_neg h]; exact refSize_no n w (by omega)

theorem first_any (s : ByteArray) (hs : s.size ≤ 140737488351232) (w : World) :
    Calls Try.prog 12 #[.string s] w fun e w' => e = .returned (.tuple #[.string (firstL s), .int .i64 (firstI s), .bool (firstO s)]) ∧ Below w.heap.size w w' := by
  unfold firstL firstI firstO
  cases h : firstF s with
  | none =>
    refine (first_none s w hs h).mono ?_
    rintro e w' ⟨rfl, rfl⟩
    exact ⟨rfl, Below.refl _ _⟩
  | some l => exact first_some s l w hs h

theorem refFirst_any (s : ByteArray) (hs : s.size ≤ 140737488351232) (w : World) :
    Calls Try.prog 13 #[.string s] w fun e w' => e = .returned (.tuple #[.string (firstL s), .int .i64 (firstI s), .bool (firstO s)]) ∧ Below w.heap.size w w' := by
  unfold firstL firstI firstO
  cases h : firstF s with
  | none =>
    refine (refFirst_none s w hs h).mono ?_
    rintro e w' ⟨rfl, m, rfl⟩
    exact ⟨rfl, below_drewN' _ _ _⟩
  | some l =>
    refine (refFirst_some s l w hs h).mono ?_
    rintro e w' ⟨rfl, m, rfl⟩
    exact ⟨rfl, below_drewN' _ _ _⟩

theorem Below.next {w w1 w2 : World} (h : Below w.heap.size w w1) (k : Below w1.heap.size w1 w2) : Below w.heap.size w w2 := h.trans (k.mono h.size)

theorem same_below (xs ys : List ByteArray) (va vb : Value) (w : World) (hx : Strs w va xs) (hy : Strs w vb ys) :
    Calls Try.prog 10 #[va, vb] w fun e w' => e = .returned (.bool (decide (xs = ys))) ∧ Below w.heap.size w w' := by
  refine (same_any xs ys va vb w hx hy).mono ?_
  rintro e w' ⟨rfl, m, rfl⟩
  exact ⟨rfl, below_drewN' _ _ _⟩

set_option maxRecDepth 100000 in
set_option maxHeartbeats 4000000 in
theorem tells_walk (l b : ByteArray) (n : Int) (hl : l.size ≤ 140737488351232) (hb : b.size ≤ 140737488351232) (w : World) :
    Calls Try.prog 5 #[.string l, .string b, .int .i64 n] w fun e w' => e = .returned (.bool true) ∧ Below w.heap.size w w' := by
  by_cases h : 6000 < l.size + b.size
  · have h' : (6000 : Int) < l.size + b.size := by omega
    go_enter Try.func5, Try.ntmps5
    go_wp2_with (go_at_call 7; refine (wakes_any _).mono ?_; rintro e w' ⟨rfl, hw⟩)
    go_ret
    exact ⟨rfl, hw⟩
  · have h' : ¬ (6000 : Int) < l.size + b.size := by omega
    go_enter Try.func5, Try.ntmps5
    go_wp2_with (first
      | (go_at_call 9; refine (bytes_any _ (by omega) _).mono ?_; rintro e w1 ⟨rfl, b1⟩)
      | (go_at_call 11; refine (refBytes_any _ hl _).mono ?_; rintro e w2 ⟨rfl, b2⟩)
      | (go_at_call 12; refine (first_any _ hb _).mono ?_; rintro e w3 ⟨rfl, b3⟩)
      | (go_at_call 13; refine (refFirst_any _ hb _).mono ?_; rintro e w4 ⟨rfl, b4⟩)
      | (go_at_call 8; refine (all_strs _ (by omega) _).mono ?_; rintro e w5 ⟨v1, rfl, s1, b5⟩)
      | (go_at_call 14; refine (refAll_strs _ (by omega) _).mono ?_; rintro e w6 ⟨v2, rfl, s2, b6⟩)
      | (go_at_call 10; refine (same_below _ _ _ _ _ (s1.below b6) s2).mono ?_; rw [decide_eq_true rfl]; rintro e w7 ⟨rfl, b7⟩)
      | (go_at_call 15; refine (size_any _ _).mono ?_; rintro e w8 ⟨rfl, rfl⟩)
      | (go_at_call 16; refine (refSize_any _ _).mono ?_; rintro e w8 ⟨rfl, rfl⟩)
      | (go_at_call 17; refine (whole_any _ (by omega) _).mono ?_; rintro e w8 ⟨rfl, b8⟩)
      | (go_at_call 18; refine (refWhole_any _ (by omega) _).mono ?_; rintro e w9 ⟨rfl, b9⟩)
      | (go_at_call 7; refine (wakes_any _).mono ?_; rintro e w10 ⟨rfl, b10⟩))
    go_ret
    exact ⟨rfl, Below.next b1 (Below.next b2 (Below.next b3 (Below.next b4 (Below.next b5 (Below.next b6 (Below.next b7 (Below.next b8 (Below.next b9 b10))))))))⟩
end Go.Proofs.Ytnngjgiclckigaa
