/-
  The walk of the law FrameOne: it answers true; condition: each row of loads reads as strings.
-/
import Derived.Test.YtnngjgiclckigaaF
namespace Go.Proofs.Ytnngjgiclckigaa
open Go.RowKit

/-- The frames of loads, one behind the other. -/
def catF : List ByteArray → ByteArray
  | [] => ByteArray.empty
  | x :: xs => hdr x.size ++ x ++ catF xs

theorem catF_append (xs ys : List ByteArray) : catF (xs ++ ys) = catF xs ++ catF ys := by
  induction xs with
  | nil => simp [catF]
  | cons x xs ih => simp only [List.cons_append, catF, ih, ByteArray.append_assoc]

theorem catF_snoc (xs : List ByteArray) (x : ByteArray) : catF (xs ++ [x]) = catF xs ++ (hdr x.size ++ x) := by
  rw [catF_append]; simp [catF]

theorem catF_size (xs : List ByteArray) : (catF xs).size = total xs := by
  induction xs with
  | nil => rfl
  | cons x xs ih => simp [catF, total_cons, hdr_size, ih]

theorem loadsF_empty : loadsF ByteArray.empty = [] := rfl
theorem tornF_empty : tornF ByteArray.empty = 0 := rfl

/-- Frames put together are read as their loads. -/
theorem loadsF_catF (xs : List ByteArray) (h : ∀ x ∈ xs, x.size ≤ 1024) (r : ByteArray) : loadsF (catF xs ++ r) = xs ++ loadsF r := by
  induction xs with
  | nil => simp [catF]
  | cons x xs ih =>
    have e : catF (x :: xs) ++ r = hdr x.size ++ x ++ (catF xs ++ r) := by simp [catF, ByteArray.append_assoc]
    rw [e, loadsF_frame x _ (h x (by simp)), ih (fun y hy => h y (by simp [hy]))]
    rfl

theorem tornF_catF (xs : List ByteArray) (h : ∀ x ∈ xs, x.size ≤ 1024) (r : ByteArray) : tornF (catF xs ++ r) = tornF r := by
  induction xs with
  | nil => simp [catF]
  | cons x xs ih =>
    have e : catF (x :: xs) ++ r = hdr x.size ++ x ++ (catF xs ++ r) := by simp [catF, ByteArray.append_assoc]
    rw [e, tornF_frame x _ (h x (by simp)), ih (fun y hy => h y (by simp [hy]))]

theorem catF_inj {xs ys : List ByteArray} (hx : ∀ x ∈ xs, x.size ≤ 1024) (hy : ∀ y ∈ ys, y.size ≤ 1024) (h : catF xs = catF ys) : xs = ys := by
  have h1 := loadsF_catF xs hx ByteArray.empty
  have h2 := loadsF_catF ys hy ByteArray.empty
  rw [h] at h1
  rw [h1, loadsF_empty] at h2
  simpa using h2

/-- The sizes of texts, each at most 7000. -/
def msum (xs : List ByteArray) : Nat := (xs.map fun x => min x.size 7000).sum
theorem msum_append (xs ys : List ByteArray) : msum (xs ++ ys) = msum xs + msum ys := by simp [msum]
theorem msum_take_succ (xs : List ByteArray) (i : Nat) (h : i < xs.length) : msum (xs.take (i + 1)) = msum (xs.take i) + min xs[i].size 7000 := by
  rw [List.take_succ_eq_append_getElem h, msum_append]
  simp [msum]
theorem msum_le (xs : List ByteArray) : msum xs ≤ 7000 * xs.length := by
  induction xs with
  | nil => simp [msum]
  | cons x xs ih => simp only [msum, List.map_cons, List.sum_cons, List.length_cons] at *; omega
theorem msum_total (xs : List ByteArray) (h : msum xs ≤ 6000) : total xs = msum xs + 4 * xs.length := by
  induction xs with
  | nil => rfl
  | cons x xs ih =>
    simp only [msum, List.map_cons, List.sum_cons, List.length_cons] at *
    rw [total_cons, ih (by omega)]
    omega

theorem bytes_big (s : ByteArray) (hs : s.size ≤ 9223372036854775807) (h : 1024 < s.size) (w : World) :
    Calls Try.prog 9 #[.string s] w fun e w' => e = .returned (.tuple #[.string ByteArray.empty, .int .i64 2]) ∧ Below w.heap.size w w' := by
  refine (bytes_no s w h hs).mono ?_
  rintro e w' ⟨rfl, rfl⟩
  exact ⟨rfl, Below.refl _ _⟩

theorem take_mem {P : ByteArray → Prop} {xs : List ByteArray} {i : Nat} (h : i < xs.length) (hp : ∀ x ∈ xs.take i, P x) (hx : P xs[i]) : ∀ x ∈ xs.take (i + 1), P x := by
  rw [List.take_succ_eq_append_getElem h]
  intro x hm
  rcases List.mem_append.1 hm with hm | hm
  · exact hp x hm
  · simp at hm; rw [hm]; exact hx

set_option maxRecDepth 100000 in
set_option maxHeartbeats 8000000 in
theorem one_walk (xs ys : List ByteArray) (va vb : Value) (w : World) (hx : Strs w va xs) (hy : Strs w vb ys) (zx : ∀ x ∈ xs, x.size ≤ 9223372036854775807) (zy : ∀ x ∈ ys, x.size ≤ 9223372036854775807)
    (lx : xs.length ≤ 140737488351232) (ly : ys.length ≤ 140737488351232) :
    Calls Try.prog 4 #[va, vb] w fun e w' => e = .returned (.bool true) ∧ Below w.heap.size w w' := by
  have HSX := Lib.hid hx
  have HSY := Lib.hid hy
  have ZX := Lib.hid zx
  have ZY := Lib.hid zy
  clear zx zy
  obtain ⟨aa, ca, rfl, hca, hca', hcx⟩ := hx
  obtain ⟨ab, cb, rfl, hcb, hcb', hcy⟩ := hy
  have HX := Lib.hid hcx
  have HY := Lib.hid hcy
  clear hcx hcy
  go_enter Try.func4, Try.ntmps4
  go_wp2
  go_loop [5, 6] (fun n p => ∃ i : Nat, p = .int .i64 (i : Int) ∧ i ≤ xs.length + ys.length ∧ i ≤ 71 ∧ n = .int .i64 (msum ((xs ++ ys).take i) : Int)) (fun _ p => 71 - (intOf p).toNat)
  case atStart => exact ⟨0, rfl, by omega, by omega, rfl⟩
  case round =>
    obtain ⟨i, rfl, hi, hi2, rfl⟩ := hrel
    by_cases hlt : i < xs.length + ys.length ∧ i ≤ 70
    · obtain ⟨hl1, hl2⟩ := hlt
      have hl3 : (i : Int) < (xs.length : Int) + ys.length := by omega
      have hlen : i < (xs ++ ys).length := by simpa using hl1
      have h1 := msum_take_succ (xs ++ ys) i hlen
      have h2 := msum_le ((xs ++ ys).take i)
      have h2' : ((xs ++ ys).take i).length ≤ i := List.length_take_le _ _
      by_cases hx : i < xs.length
      · obtain ⟨b', off', rfl, hcell⟩ := HX.out i hx
        have he : (xs ++ ys)[i] = xs[i] := List.getElem_append_left hx
        rw [he] at h1
        have hz := ZX.out xs[i] (by simp)
        have H1 := Lib.hid h1
        have H2 : Hid (msum ((xs ++ ys).take i) ≤ 497000) := by show _ ≤ _; omega
        clear h1 h2 h2' he
        generalize msum ((xs ++ ys).take i) = m at *
        generalize xs[i] = y at *
        have H3 := H2.out
        go_wp2
        go_round
        case rel => exact ⟨i + 1, by go_num, by omega, by omega, by rw [H1.out]; congr 1; rw [Int.natCast_add]; congr 1; split <;> omega⟩
        case measure => simp [intOf]; omega
      · have hx2 : i - xs.length < ys.length := by omega
        obtain ⟨b', off', rfl, hcell⟩ := HY.out (i - xs.length) hx2
        have he : (xs ++ ys)[i] = ys[i - xs.length] := List.getElem_append_right (by omega)
        rw [he] at h1
        have hz := ZY.out ys[i - xs.length] (by simp)
        have H1 := Lib.hid h1
        have H2 : Hid (msum ((xs ++ ys).take i) ≤ 497000) := by show _ ≤ _; omega
        clear h1 h2 h2' he
        generalize msum ((xs ++ ys).take i) = m at *
        generalize ys[i - xs.length] = y at *
        obtain ⟨j, hj⟩ : ∃ j, i - xs.length = j := ⟨_, rfl⟩
        rw [hj] at hcell hx2
        have hj2 : (i : Int) - xs.length = j := by omega
        have H3 := H2.out
        go_wp2
        go_round
        case rel => exact ⟨i + 1, by go_num, by omega, by omega, by rw [H1.out]; congr 1; rw [Int.natCast_add]; congr 1; split <;> omega⟩
        case measure => simp [intOf]; omega
    · by_cases hxl : 30 < xs.length
      · by_cases h70 : (i : Int) < (xs.length : Int) + ys.length
        · have h71 : (70 : Int) < i := by omega
          go_wp2_with (go_at_call 7; refine (wakes_any _).mono ?_; rintro e w' ⟨rfl, hw⟩)
          go_ret
          exact ⟨rfl, hw⟩
        · go_wp2_with (go_at_call 7; refine (wakes_any _).mono ?_; rintro e w' ⟨rfl, hw⟩)
          go_ret
          exact ⟨rfl, hw⟩
      · by_cases hyl : 30 < ys.length
        · by_cases h70 : (i : Int) < (xs.length : Int) + ys.length
          · have h71 : (70 : Int) < i := by omega
            go_wp2_with (go_at_call 7; refine (wakes_any _).mono ?_; rintro e w' ⟨rfl, hw⟩)
            go_ret
            exact ⟨rfl, hw⟩
          · go_wp2_with (go_at_call 7; refine (wakes_any _).mono ?_; rintro e w' ⟨rfl, hw⟩)
            go_ret
            exact ⟨rfl, hw⟩
        · have hi3 : i = xs.length + ys.length := by omega
          have ht : (xs ++ ys).take i = xs ++ ys := List.take_of_length_le (by simp; omega)
          rw [ht]
          have hm := msum_le (xs ++ ys)
          rw [List.length_append] at hm
          subst hi3
          have hcast : ((xs.length + ys.length : Nat) : Int) = xs.length + ys.length := by omega
          rw [hcast]
          clear hcast hlt ht
          have h70 : ¬ ((xs.length : Int) + ys.length < (xs.length : Int) + ys.length) := by omega
          by_cases hbig : 6000 < msum (xs ++ ys)
          · go_wp2_with (go_at_call 7; refine (wakes_any _).mono ?_; rintro e w' ⟨rfl, hw⟩)
            go_ret
            exact ⟨rfl, hw⟩
          · have hT := msum_total (xs ++ ys) (by omega)
            rw [List.length_append, total_append] at hT
            have hTx : total xs ≤ 6240 := by omega
            have hTy : total ys ≤ 6240 := by omega
            clear hT
            go_wp2
            clear h70 hbig hm
            go_loopw [7, 9] (fun x p wr => ∃ i : Nat, p = .int .i64 (i : Int) ∧ i ≤ xs.length ∧ Hid (∀ x ∈ xs.take i, x.size ≤ 1024) ∧ x = .string (catF (xs.take i)) ∧ Below w.heap.size w wr) (fun _ p _ => xs.length - (intOf p).toNat)
            case atStart => exact ⟨0, rfl, by omega, by simp [Hid], rfl, Below.refl _ _⟩
            case round =>
              obtain ⟨i, rfl, hi, hall, rfl, hB⟩ := hrel
              by_cases hlt : i < xs.length
              · obtain ⟨b', off', rfl, hcell0⟩ := HX.out i hlt
                have hcell := (hB.cell (p := ⟨b', off' + i, none⟩) (World.block_lt_of_cell? _ _ hcell0)).trans hcell0
                clear hcell0
                have hz := ZX.out xs[i] (by simp)
                by_cases hle : xs[i].size ≤ 1024
                · have HA := Lib.hid (take_mem (P := fun x => x.size ≤ 1024) hlt hall.out hle)
                  have hc1 : catF (xs.take (i + 1)) = catF (xs.take i) ++ (hdr xs[i].size ++ xs[i]) := by
                    rw [List.take_succ_eq_append_getElem hlt, catF_snoc]
                  have HC := Lib.hid hc1
                  have hs1 : ¬ 9223372036854775807 < (catF (xs.take i)).size + (hdr xs[i].size ++ xs[i]).size := by
                    rw [catF_size]
                    have := total_take_le xs i
                    simp [hdr_size]; omega
                  clear hc1
                  generalize xs[i] = y at *
                  generalize catF (xs.take i) = c at *
                  go_wp2_with (go_at_call 9; refine (bytes_ok _ _ hle).mono ?_; rintro e w6 ⟨rfl, b6⟩)
                  go_roundw
                  case rel => exact ⟨i + 1, by go_num, by omega, HA, by rw [HC.out], hB.trans (b6.mono hB.size)⟩
                  case measure => simp [intOf]; omega
                · generalize xs[i] = y at *
                  generalize catF (xs.take i) = c at *
                  go_wp2_with (first
                    | (go_at_call 9; refine (bytes_big _ (by omega) (by omega) _).mono ?_; rintro e w6 ⟨rfl, b6⟩)
                    | (go_at_call 7; refine (wakes_any _).mono ?_; rintro e w9 ⟨rfl, b9⟩))
                  go_ret
                  exact ⟨rfl, hB.trans ((Below.next b6 b9).mono hB.size)⟩
              · have ht : xs.take i = xs := List.take_of_length_le (by omega)
                rw [ht] at hall ⊢
                clear ht
                go_wp2
                obtain ⟨w1, hw1⟩ : ∃ w1, wr = w1 := ⟨_, rfl⟩
                subst hw1
                have hBX := hB
                clear hB hlt
                go_loopw [8, 12] (fun x p wr' => ∃ i : Nat, p = .int .i64 (i : Int) ∧ i ≤ ys.length ∧ Hid (∀ x ∈ ys.take i, x.size ≤ 1024) ∧ x = .string (catF (ys.take i)) ∧ Below w.heap.size w wr') (fun _ p _ => ys.length - (intOf p).toNat)
                case atStart => exact ⟨0, rfl, by omega, by simp [Hid], rfl, hBX⟩
                case round =>
                  obtain ⟨i2, rfl, hi2, hall2, rfl, hB⟩ := hrel
                  by_cases hlt : i2 < ys.length
                  · obtain ⟨b', off', rfl, hcell0⟩ := HY.out i2 hlt
                    have hcell := (hB.cell (p := ⟨b', off' + i2, none⟩) (World.block_lt_of_cell? _ _ hcell0)).trans hcell0
                    clear hcell0
                    have hz := ZY.out ys[i2] (by simp)
                    by_cases hle : ys[i2].size ≤ 1024
                    · have HA := Lib.hid (take_mem (P := fun x => x.size ≤ 1024) hlt hall2.out hle)
                      have hc1 : catF (ys.take (i2 + 1)) = catF (ys.take i2) ++ (hdr ys[i2].size ++ ys[i2]) := by
                        rw [List.take_succ_eq_append_getElem hlt, catF_snoc]
                      have HC := Lib.hid hc1
                      have hs1 : ¬ 9223372036854775807 < (catF (ys.take i2)).size + (hdr ys[i2].size ++ ys[i2]).size := by
                        rw [catF_size]
                        have := total_take_le ys i2
                        simp [hdr_size]; omega
                      clear hc1
                      generalize ys[i2] = y at *
                      generalize catF (ys.take i2) = c at *
                      go_wp2_with (go_at_call 9; refine (bytes_ok _ _ hle).mono ?_; rintro e w6 ⟨rfl, b6⟩)
                      go_roundw
                      case rel => exact ⟨i2 + 1, by go_num, by omega, HA, by rw [HC.out], hB.trans (b6.mono hB.size)⟩
                      case measure => simp [intOf]; omega
                    · generalize ys[i2] = y at *
                      generalize catF (ys.take i2) = c at *
                      go_wp2_with (first
                        | (go_at_call 9; refine (bytes_big _ (by omega) (by omega) _).mono ?_; rintro e w6 ⟨rfl, b6⟩)
                        | (go_at_call 7; refine (wakes_any _).mono ?_; rintro e w9 ⟨rfl, b9⟩))
                      go_ret
                      exact ⟨rfl, hB.trans ((Below.next b6 b9).mono hB.size)⟩
                  · have ht : ys.take i2 = ys := List.take_of_length_le (by omega)
                    rw [ht] at hall2 ⊢
                    clear ht
                    have SX : Hid _ := (HSX.out : Strs w _ xs).below (hB.mono (Nat.le_refl _))
                    have SY : Hid _ := (HSY.out : Strs w _ ys).below (hB.mono (Nat.le_refl _))
                    by_cases he : xs = ys
                    · subst he
                      have ht1 : ((catF xs).toList == (catF xs).toList) = true := by simp
                      go_wp2_with (first
                        | (go_at_call 10; refine (same_below xs xs _ _ _ SX.out SY.out).mono ?_; rw [decide_eq_true rfl]; rintro e w8 ⟨rfl, b8⟩)
                        | (go_at_call 7; refine (wakes_any _).mono ?_; rintro e w9 ⟨rfl, b9⟩))
                      go_ret
                      exact ⟨rfl, hB.trans ((Below.next b8 b9).mono hB.size)⟩
                    · have hne : catF xs ≠ catF ys := fun h => he (catF_inj hall.out hall2.out h)
                      have ht1 := toList_ne hne
                      have HE := Lib.hid he
                      clear he hne
                      go_wp2_with (first
                        | (go_at_call 10; refine (same_below xs ys _ _ _ SX.out SY.out).mono ?_; rw [decide_eq_false HE.out]; rintro e w8 ⟨rfl, b8⟩)
                        | (go_at_call 7; refine (wakes_any _).mono ?_; rintro e w9 ⟨rfl, b9⟩))
                      go_ret
                      exact ⟨rfl, hB.trans ((Below.next b8 b9).mono hB.size)⟩
end Go.Proofs.Ytnngjgiclckigaa
