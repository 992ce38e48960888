/-
  What rovingref04's Size, Bytes, First and Same answer; condition: each text shorter than 2^47 bytes.
-/
import Derived.Test.YtnngjgiclckigaaA
import Derived.Deep.Draws
import Derived.Deep.LoopGhost
namespace Go.Proofs.Ytnngjgiclckigaa
open Go.RowKit

/-- v reads as a slice of these strings. -/
def Strs (w : World) (v : Value) (xs : List ByteArray) : Prop :=
  ∃ a cap, v = .slice a xs.length cap ∧ xs.length ≤ cap ∧ cap ≤ 9223372036854775807 ∧ ∀ i (h : i < xs.length), ∃ b off, a = some ⟨b, off, none⟩ ∧ w.cell? ⟨b, off + i, none⟩ = some (.string xs[i])

theorem take_eq_snoc {xs ys : List ByteArray} {i : Nat} (hx : i < xs.length) (hy : i < ys.length) (h : xs.take i = ys.take i) (he : xs[i] = ys[i]) : xs.take (i + 1) = ys.take (i + 1) := by
  rw [List.take_succ_eq_append_getElem hx, List.take_succ_eq_append_getElem hy, h, he]

theorem toList_ne {a b : ByteArray} (h : a ≠ b) : (a.toList == b.toList) = false := by
  rw [beq_eq_false_iff_ne]
  intro e
  apply h
  apply ByteArray.ext
  apply Array.ext'
  rw [ByteArray.toList_eq, ByteArray.toList_eq] at e
  exact e

set_option maxHeartbeats 1000000 in
theorem same_any (xs ys : List ByteArray) (va vb : Value) (w : World) (hx : Strs w va xs) (hy : Strs w vb ys) :
    Calls Try.prog 10 #[va, vb] w fun e w' => e = .returned (.bool (decide (xs = ys))) ∧ ∃ n, w' = w.drewN n := by
  obtain ⟨aa, ca, rfl, hca, hca', hcx⟩ := hx
  obtain ⟨ab, cb, rfl, hcb, hcb', hcy⟩ := hy
  by_cases hl : xs.length = ys.length
  · have HX := Lib.hid hcx
    have HY := Lib.hid hcy
    have HL := Lib.hid hl
    have hl1 : (ys.length == ys.length) = true := by simp
    clear hcx hcy
    rw [hl]
    clear hl
    go_enter Try.func10, Try.ntmps10
    go_wp2
    go_loopw [5] (fun p wr => ∃ i : Nat, p = .int .i64 (i : Int) ∧ i ≤ ys.length ∧ Hid (xs.take i = ys.take i) ∧ ∃ m, wr = w.drewN m) (fun p _ => ys.length - (intOf p).toNat)
    case atStart => exact ⟨0, rfl, by omega, by simp [Hid], 0, rfl⟩
    case round =>
      obtain ⟨i, rfl, hi, ht, m, rfl⟩ := hrel
      by_cases hlt : i < ys.length
      · have hlx : i < xs.length := by rw [HL.out]; exact hlt
        obtain ⟨b1, o1, rfl, hc1⟩ := HX.out i hlx
        obtain ⟨b2, o2, rfl, hc2⟩ := HY.out i hlt
        by_cases he : xs[i] = ys[i]
        · have hs := Lib.hid (take_eq_snoc hlx hlt ht.out he)
          rw [he] at hc1
          clear he
          generalize ys[i] = y at *
          have ht1 : (y.toList == y.toList) = true := by simp
          have ht2 : (y.toList != y.toList) = false := by simp
          go_wp2
          go_quiet (fail)
          go_wp2
          go_roundw
          case rel => exact ⟨i + 1, by go_num, by omega, hs, _, rfl⟩
          case measure => simp [intOf]; omega
        · have hne : Hid (xs ≠ ys) := fun e => he (by simp [e])
          have ht1 := toList_ne he
          have ht2 : (xs[i].toList != ys[i].toList) = true := by simp [bne, ht1]
          clear he
          generalize xs[i] = x at *
          generalize ys[i] = y at *
          go_wp2
          go_quiet (fail)
          go_wp2
          go_ret
          exact ⟨by rw [decide_eq_false hne.out]; rfl, _, World.drewN_drewN _ _ _⟩
      · have he : Hid (xs = ys) := by
          have := ht.out
          rw [List.take_of_length_le (by rw [HL.out]; omega), List.take_of_length_le (by omega)] at this
          exact this
        go_wp2
        go_ret
        exact ⟨by rw [decide_eq_true he.out]; rfl, _, rfl⟩
  · have hne : Hid (xs ≠ ys) := fun e => hl (by rw [e])
    have h1 : (xs.length == ys.length) = false := by simpa using hl
    clear hcx hcy
    go_enter Try.func10, Try.ntmps10
    go_wp2
    go_ret
    exact ⟨by rw [decide_eq_false hne.out]; rfl, 0, rfl⟩

theorem refSize_ok (n : Int) (w : World) (h0 : 0 ≤ n) (h1 : n ≤ 1024) :
    Calls Try.prog 16 #[.int .i64 n] w fun e w' => e = .returned (.int .i64 (n + 4)) ∧ w = w' := by
  have a1 : ¬ n < 0 := by omega
  have a2 : ¬ 1024 < n := by omega
  go_enter Try.func16, Try.ntmps16
  go_wp2
  go_ret
  exact ⟨rfl, rfl⟩

theorem refSize_no (n : Int) (w : World) (h0 : n < 0 ∨ 1024 < n) :
    Calls Try.prog 16 #[.int .i64 n] w fun e w' => e = .returned (.int .i64 0) ∧ w = w' := by
  by_cases a1 : n < 0
  · go_enter Try.func16, Try.ntmps16
    go_wp2
    go_ret
    exact ⟨rfl, rfl⟩
  · have a2 : 1024 < n := by omega
    go_enter Try.func16, Try.ntmps16
    go_wp2
    go_ret
    exact ⟨rfl, rfl⟩

theorem refBytes_no (s : ByteArray) (w : World) (h : 1024 < s.size) (hs : s.size ≤ 140737488351232) :
    Calls Try.prog 11 #[.string s] w fun e w' => e = .returned (.tuple #[.string ByteArray.empty, .int .i64 2]) ∧ w = w' := by
  go_enter Try.func11, Try.ntmps11
  go_wp2
  go_ret2
  exact ⟨rfl, rfl⟩

theorem strOfNums_hdr2 (n : Nat) (h : n ≤ 1024) : strOfNums [(n : Int) % 256, (n : Int) / 256, 0, 0] = hdr n := by
  have e3 : ((n : Int) % 256).toNat = n % 256 := by omega
  have e4 : ((n : Int) / 256).toNat = n / 256 := by omega
  simp [strOfNums, hdr, e3, e4]

set_option maxHeartbeats 1000000 in
theorem refBytes_ok (s : ByteArray) (w : World) (h : s.size ≤ 1024) :
    Calls Try.prog 11 #[.string s] w fun e w' => e = .returned (.tuple #[.string (hdr s.size ++ s), .int .i64 0]) ∧ Below w.heap.size w w' := by
  have hh := Lib.hid (strOfNums_hdr2 s.size h)
  have hb : ¬ 9223372036854775807 < (hdr s.size).size + s.size := by rw [hdr_size]; omega
  have e1 : bits BinOp.and IntKind.i64 (s.size : Int) 255 % 256 = (s.size : Int) % 256 := by
    have := bits_mask .i64 62 (by decide) (fun n h h' => by rw [IntKind.wrap_i64]; omega) 8 (by decide) (s.size : Int) (by omega) (by omega)
    rw [show ((2 : Int) ^ 8 - 1) = 255 from rfl] at this
    rw [this]; omega
  have e2 : bits BinOp.and IntKind.i64 ((s.size : Int) / 256) 255 % 256 = (s.size : Int) / 256 := by
    have := bits_mask .i64 62 (by decide) (fun n h h' => by rw [IntKind.wrap_i64]; omega) 8 (by decide) ((s.size : Int) / 256) (by omega) (by omega)
    rw [show ((2 : Int) ^ 8 - 1) = 255 from rfl] at this
    rw [this]; omega
  go_enter Try.func11, Try.ntmps11
  go_wp2
  rw [run_convert_bytes_arg _ 42 5 und42 und5 w.heap.size 0 4 4 [(s.size : Int) % 256, (s.size : Int) / 256, 0, 0] rfl (by
    intro i hi
    match i, hi with
    | 0, _ => simp
    | 1, _ => simp
    | 2, _ => simp
    | 3, _ => simp) 9 und9, hh.out]
  go_wp2
  go_ret2
  exact ⟨rfl, (Below.refl _ _).alloc (Nat.le_refl _) _⟩

theorem len4_sum (a b c d : Nat) (ha : a < 256) (hb : b < 256) (hc : c < 256) (hd : d < 256) :
    wrap64 (wrap64 (wrap64 (wrap64 (a : Int) + wrap64 (wrap64 (b : Int) * 256)) + wrap64 (wrap64 (c : Int) * 65536)) + wrap64 (wrap64 (d : Int) * 16777216)) = ((a + b * 256 + c * 65536 + d * 16777216 : Nat) : Int) := by
  have e1 : wrap64 (wrap64 (b : Int) * 256) = ((b * 256 : Nat) : Int) := by
    rw [wrap64_nat b (by omega), show (b : Int) * 256 = ((b * 256 : Nat) : Int) by simp, wrap64_nat _ (by omega)]
  have e2 : wrap64 (wrap64 (c : Int) * 65536) = ((c * 65536 : Nat) : Int) := by
    rw [wrap64_nat c (by omega), show (c : Int) * 65536 = ((c * 65536 : Nat) : Int) by simp, wrap64_nat _ (by omega)]
  have e3 : wrap64 (wrap64 (d : Int) * 16777216) = ((d * 16777216 : Nat) : Int) := by
    rw [wrap64_nat d (by omega), show (d : Int) * 16777216 = ((d * 16777216 : Nat) : Int) by simp, wrap64_nat _ (by omega)]
  rw [e1, e2, e3, wrap64_nat a (by omega), ← Int.natCast_add, wrap64_nat _ (by omega), ← Int.natCast_add, wrap64_nat _ (by omega), ← Int.natCast_add, wrap64_nat _ (by omega)]

set_option maxHeartbeats 1000000 in
theorem refFirst_short (s : ByteArray) (w : World) (h : s.size < 4) :
    Calls Try.prog 13 #[.string s] w fun e w' => e = .returned (.tuple #[.string ByteArray.empty, .int .i64 0, .bool false]) ∧ ∃ n, w' = w.drewN n := by
  go_enter Try.func13, Try.ntmps13
  go_wp2
  go_ret3
  exact ⟨rfl, 0, rfl⟩

set_option maxHeartbeats 1000000 in
theorem refFirst_no (s : ByteArray) (w : World) (h : 4 ≤ s.size) (hs : s.size ≤ 140737488351232) (n : Nat) (hn : len4 s h = n) (hb : 1024 < n ∨ s.size < 4 + n) :
    Calls Try.prog 13 #[.string s] w fun e w' => e = .returned (.tuple #[.string ByteArray.empty, .int .i64 0, .bool false]) ∧ ∃ n, w' = w.drewN n := by
  have i0 : 0 < s.size := by omega
  have i1 : (1 : Int) < s.size := by omega
  have i2 : (2 : Int) < s.size := by omega
  have i3 : (3 : Int) < s.size := by omega
  have hL := len4_sum s[0].toNat s[1].toNat s[2].toNat s[3].toNat (UInt8.toNat_lt _) (UInt8.toNat_lt _) (UInt8.toNat_lt _) (UInt8.toNat_lt _)
  have hn' : s[0].toNat + s[1].toNat * 256 + s[2].toNat * 65536 + s[3].toNat * 16777216 = n := hn
  rw [hn'] at hL
  clear hn hn'
  go_enter Try.func13, Try.ntmps13
  go_wp2
  go_quiet (fail)
  go_wp2
  all_goals
    go_ret3
    exact ⟨rfl, _, rfl⟩

set_option maxHeartbeats 1000000 in
theorem refFirst_yes (s : ByteArray) (w : World) (h : 4 ≤ s.size) (hs : s.size ≤ 140737488351232) (n : Nat) (hn : len4 s h = n) (h1 : n ≤ 1024) (h2 : 4 + n ≤ s.size) :
    Calls Try.prog 13 #[.string s] w fun e w' => e = .returned (.tuple #[.string (s.extract 4 (4 + n)), .int .i64 (4 + n), .bool true]) ∧ ∃ n, w' = w.drewN n := by
  have i0 : 0 < s.size := by omega
  have i1 : (1 : Int) < s.size := by omega
  have i2 : (2 : Int) < s.size := by omega
  have i3 : (3 : Int) < s.size := by omega
  have hL := len4_sum s[0].toNat s[1].toNat s[2].toNat s[3].toNat (UInt8.toNat_lt _) (UInt8.toNat_lt _) (UInt8.toNat_lt _) (UInt8.toNat_lt _)
  have hn' : s[0].toNat + s[1].toNat * 256 + s[2].toNat * 65536 + s[3].toNat * 16777216 = n := hn
  rw [hn'] at hL
  clear hn hn'
  have q1 : ¬ (1024 : Int) < n := by omega
  have q2 : ¬ (s.size : Int) - 4 < n := by omega
  go_enter Try.func13, Try.ntmps13
  go_wp2
  go_quiet (fail)
  go_wp2
  go_ret3
  exact ⟨rfl, _, rfl⟩
end Go.Proofs.Ytnngjgiclckigaa
