/-
  What frame.Size, frame.Bytes and frame.First answer, by their walks; conditions: each text shorter than 2^47 bytes.
-/
import Derived.WalkKit
import Derived.KernelRfl
import Derived.RowKit3
import Derived.WalkLawsBesides
import Derived.WalkSpells
import Derived.OwnWalk
import Derived.Lib.ConvBytes
import Derived.Laws.Rows
import Derived.Outline
import Derived.Handy
import Derived.Laws.BytesArg
import Derived.Below
import Derived.Lib.Hide
import Derived.Laws.BitsLemmas
import Derived.IntWalk
import Derived.Laws.AppendOwn
import Derived.Deep.QuietTactic
import Derived.BigQuiet
import Derived.Test.YtnngjgiclckigaaProg
namespace Go.Proofs.Ytnngjgiclckigaa
open Go.RowKit

theorem size_ok (n : Int) (w : World) (h0 : 0 ≤ n) (h1 : n ≤ 1024) :
    Calls Try.prog 15 #[.int .i64 n] w fun e w' => e = .returned (.int .i64 (4 + n)) ∧ w = w' := by
  have a1 : ¬ n < 0 := by omega
  have a2 : ¬ 1024 < n := by omega
  go_enter Try.func15, Try.ntmps15
  go_wp2
  go_ret
  exact ⟨rfl, rfl⟩

theorem size_no (n : Int) (w : World) (h0 : n < 0 ∨ 1024 < n) :
    Calls Try.prog 15 #[.int .i64 n] w fun e w' => e = .returned (.int .i64 0) ∧ w = w' := by
  by_cases a1 : n < 0
  · go_enter Try.func15, Try.ntmps15
    go_wp2
    go_ret
    exact ⟨rfl, rfl⟩
  · have a2 : 1024 < n := by omega
    go_enter Try.func15, Try.ntmps15
    go_wp2
    go_ret
    exact ⟨rfl, rfl⟩

/-- The four bytes ahead of a load. -/
def hdr (n : Nat) : ByteArray := ⟨#[UInt8.ofNat (n % 256), UInt8.ofNat (n / 256), 0, 0]⟩

theorem hdr_size (n : Nat) : (hdr n).size = 4 := rfl

theorem strOfNums_hdr (n : Nat) (h : n ≤ 1024) : strOfNums [(n : Int) % 256, (n : Int) / 256, (n : Int) / 65536, (n : Int) / 16777216] = hdr n := by
  have e1 : ((n : Int) / 65536).toNat = 0 := by omega
  have e2 : ((n : Int) / 16777216).toNat = 0 := by omega
  have e3 : ((n : Int) % 256).toNat = n % 256 := by omega
  have e4 : ((n : Int) / 256).toNat = n / 256 := by omega
  simp [strOfNums, hdr, e1, e2, e3, e4]

theorem und42 : Try.prog.underlying 42 = some (.slice 5) := by kernel_rfl
theorem und5 : Try.prog.underlying 5 = some (.int .u8) := by kernel_rfl
theorem und9 : Try.prog.underlying 9 = some .string := by kernel_rfl

set_option maxHeartbeats 1000000 in
theorem bytes_ok (s : ByteArray) (w : World) (h : s.size ≤ 1024) :
    Calls Try.prog 9 #[.string s] w fun e w' => e = .returned (.tuple #[.string (hdr s.size ++ s), .int .i64 0]) ∧ Below w.heap.size w w' := by
  have a2 : (4 + (s.size : Int) == 0) = false := by simp; omega
  have hh := Lib.hid (strOfNums_hdr s.size h)
  have hb : ¬ 9223372036854775807 < (hdr s.size).size + s.size := by rw [hdr_size]; omega
  go_enter Try.func9, Try.ntmps9
  go_wp2_with (go_at_call 15; refine (size_ok _ _ (by omega) (by omega)).mono ?_; rintro e w' ⟨rfl, rfl⟩)
  go_rounds 5
  rw [run_convert_bytes_arg _ 42 5 und42 und5 w.heap.size 0 4 4 [(s.size : Int) % 256, (s.size : Int) / 256, (s.size : Int) / 65536, (s.size : Int) / 16777216] rfl (by
    intro i hi
    match i, hi with
    | 0, _ => simp
    | 1, _ => simp
    | 2, _ => simp
    | 3, _ => simp) 9 und9, hh.out]
  go_wp2
  go_ret2
  exact ⟨rfl, (Below.refl _ _).alloc (Nat.le_refl _) _⟩

theorem bytes_no (s : ByteArray) (w : World) (h : 1024 < s.size) (hs : s.size ≤ 9223372036854775807) :
    Calls Try.prog 9 #[.string s] w fun e w' => e = .returned (.tuple #[.string ByteArray.empty, .int .i64 2]) ∧ w = w' := by
  go_enter Try.func9, Try.ntmps9
  go_wp2_with (go_at_call 15; refine (size_no _ _ (by omega)).mono ?_; rintro e w' ⟨rfl, rfl⟩)
  go_ret2
  exact ⟨rfl, rfl⟩

theorem first_short (s : ByteArray) (w : World) (h : s.size < 4) :
    Calls Try.prog 12 #[.string s] w fun e w' => e = .returned (.tuple #[.string ByteArray.empty, .int .i64 0, .bool false]) ∧ w = w' := by
  go_enter Try.func12, Try.ntmps12
  go_wp2
  go_ret3
  exact ⟨rfl, rfl⟩

/-- The number that the first four bytes say. -/
def len4 (s : ByteArray) (h : 4 ≤ s.size) : Nat := s[0].toNat + s[1].toNat * 256 + s[2].toNat * 65536 + s[3].toNat * 16777216

theorem join_i64 (x y : Nat) (i : Nat) (hx : x < 2 ^ i) (hy : y % 2 ^ i = 0) (hy1 : y < 2 ^ 62) (hx1 : x < 2 ^ 62) :
    bits .or .i64 (x : Int) (y : Int) = ((x + y : Nat) : Int) := by
  have hk : ∀ n : Int, 0 ≤ n → n < 2 ^ 62 → IntKind.i64.wrap n = n := fun n h h' => by rw [IntKind.wrap_i64]; omega
  have h := bits_nat .i64 62 (by decide) hk x y hx1 hy1
  rw [h.2]
  have hd : y = 2 ^ i * (y / 2 ^ i) := by have := Nat.div_add_mod y (2 ^ i); omega
  rw [Nat.or_comm, hd, ← Nat.two_pow_add_eq_or_of_lt hx (y / 2 ^ i), Nat.add_comm]

theorem wrap64_nat (x : Nat) (h : x < 9223372036854775808) : wrap64 (x : Int) = (x : Int) := by unfold wrap64; omega

theorem len4_bits (a b c d : Nat) (ha : a < 256) (hb : b < 256) (hc : c < 256) (hd : d < 256) :
    bits BinOp.or IntKind.i64
    (bits BinOp.or IntKind.i64
      (bits BinOp.or IntKind.i64 (bits BinOp.or IntKind.i64 0 (wrap64 (wrap64 (a : Int))))
        (wrap64 (wrap64 (b : Int) * 256)))
      (wrap64 (wrap64 (c : Int) * 65536)))
    (wrap64 (wrap64 (d : Int) * 16777216)) = ((a + b * 256 + c * 65536 + d * 16777216 : Nat) : Int) := by
  have e1 : wrap64 (wrap64 (b : Int) * 256) = ((b * 256 : Nat) : Int) := by
    rw [wrap64_nat b (by omega), show (b : Int) * 256 = ((b * 256 : Nat) : Int) by simp, wrap64_nat _ (by omega)]
  have e2 : wrap64 (wrap64 (c : Int) * 65536) = ((c * 65536 : Nat) : Int) := by
    rw [wrap64_nat c (by omega), show (c : Int) * 65536 = ((c * 65536 : Nat) : Int) by simp, wrap64_nat _ (by omega)]
  have e3 : wrap64 (wrap64 (d : Int) * 16777216) = ((d * 16777216 : Nat) : Int) := by
    rw [wrap64_nat d (by omega), show (d : Int) * 16777216 = ((d * 16777216 : Nat) : Int) by simp, wrap64_nat _ (by omega)]
  have z : (0 : Int) = ((0 : Nat) : Int) := rfl
  rw [e1, e2, e3, wrap64_nat a (by omega), wrap64_nat a (by omega), z, join_i64 0 a 0 (by decide) (by omega) (by omega) (by omega),
    join_i64 (0 + a) (b * 256) 8 (by omega) (by omega) (by omega) (by omega),
    join_i64 (0 + a + b * 256) (c * 65536) 16 (by omega) (by omega) (by omega) (by omega),
    join_i64 (0 + a + b * 256 + c * 65536) (d * 16777216) 24 (by omega) (by omega) (by omega) (by omega)]
  omega

set_option maxHeartbeats 1000000 in
theorem first_no (s : ByteArray) (w : World) (h : 4 ≤ s.size) (hs : s.size ≤ 140737488351232) (n : Nat) (hn : len4 s h = n) (hb : 1024 < n ∨ s.size < 4 + n) :
    Calls Try.prog 12 #[.string s] w fun e w' => e = .returned (.tuple #[.string ByteArray.empty, .int .i64 0, .bool false]) ∧ w = w' := by
  have hL := len4_bits s[0].toNat s[1].toNat s[2].toNat s[3].toNat (UInt8.toNat_lt _) (UInt8.toNat_lt _) (UInt8.toNat_lt _) (UInt8.toNat_lt _)
  have hn' : s[0].toNat + s[1].toNat * 256 + s[2].toNat * 65536 + s[3].toNat * 16777216 = n := hn
  rw [hn'] at hL
  clear hn hn'
  go_enter Try.func12, Try.ntmps12
  go_wp2
  go_rounds 5
  all_goals
    go_ret3
    exact ⟨rfl, rfl⟩

theorem conv_piece (w : World) (s : ByteArray) (off n c : Nat) (ho : off = 4 ∨ n = 0) (h : 4 + n ≤ s.size) :
    (convert 42 9 (.slice (some ⟨w.heap.size, off, none⟩) n c)).run Try.prog (Lib.bytesWorld w 5 s) = .ok (.string (s.extract 4 (4 + n))) (Lib.bytesWorld w 5 s) := by
  have hs : s.size = s.data.toList.length := by simp
  have hl : (((s.data.toList.drop 4).take n).map fun b => (b.toNat : Int)).length = n := by simp; omega
  rw [run_convert_bytes_arg (Lib.bytesWorld w 5 s) 42 5 und42 und5 w.heap.size off n c (((s.data.toList.drop 4).take n).map fun b => (b.toNat : Int)) hl (by
    intro i hi
    have : off = 4 := by omega
    subst this
    rw [Lib.bytesWorld_cell w 5 s (4 + i) (by omega)]
    have h4 : 4 + i < s.data.toList.length := by omega
    have h5 : i < (((s.data.toList.drop 4).take n).map fun b => (b.toNat : Int)).length := by omega
    simp only [List.getD, List.getElem?_eq_getElem h5, List.getElem?_eq_getElem h4, Option.getD_some]
    simp) 9 und9]
  congr 2
  apply ByteArray.ext
  apply Array.ext'
  simp [strOfNums, Function.comp_def]

theorem bytesWorld_below (w : World) (s : ByteArray) : Below w.heap.size w (Lib.bytesWorld w 5 s) :=
  ⟨rfl, rfl, rfl, by rw [Lib.bytesWorld_size]; omega, fun k hk => Lib.bytesWorld_at_old w 5 s k hk⟩

set_option maxHeartbeats 1000000 in
theorem first_yes (s : ByteArray) (w : World) (h : 4 ≤ s.size) (hs : s.size ≤ 140737488351232) (n : Nat) (hn : len4 s h = n) (h1 : n ≤ 1024) (h2 : 4 + n ≤ s.size) :
    Calls Try.prog 12 #[.string s] w fun e w' => e = .returned (.tuple #[.string (s.extract 4 (4 + n)), .int .i64 (4 + n), .bool true]) ∧ Below w.heap.size w w' := by
  have hL := len4_bits s[0].toNat s[1].toNat s[2].toNat s[3].toNat (UInt8.toNat_lt _) (UInt8.toNat_lt _) (UInt8.toNat_lt _) (UInt8.toNat_lt _)
  have hn' : s[0].toNat + s[1].toNat * 256 + s[2].toNat * 65536 + s[3].toNat * 16777216 = n := hn
  rw [hn'] at hL
  clear hn hn'
  have g1 := grownCap_ge w s.size 0 5
  have g2 := grownCap_le_maxLen w s.size 0 5 (by unfold maxLen; omega)
  unfold maxLen at g2
  have q1 : ¬ (1024 : Int) < n := by omega
  have q2 : ¬ (s.size : Int) - 4 < n := by omega
  go_enter Try.func12, Try.ntmps12
  go_wp2
  go_rounds 5
  rw [Lib.run_convert_string_bytes (u := .string) w 9 42 5 s und9 und42 und5]
  generalize grownCap w s.size 0 5 = cap at *
  go_wp2
  all_goals
    first | rw [conv_piece w s 4 n n (.inl rfl) h2] | rw [conv_piece w s 0 0 0 (.inr rfl) (by omega)]
    go_wp2
    go_ret3
    exact ⟨by first | rfl | simp_all, bytesWorld_below w s⟩
end Go.Proofs.Ytnngjgiclckigaa
