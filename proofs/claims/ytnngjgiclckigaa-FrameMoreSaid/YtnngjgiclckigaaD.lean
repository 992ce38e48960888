/-
  What rovingref04.All and the two functions Whole answer, and that the law's first call (wakes) is true; condition: a text of at most 2^32 bytes.
-/
import Derived.Test.YtnngjgiclckigaaB
import Derived.Test.YtnngjgiclckigaaC
namespace Go.Proofs.Ytnngjgiclckigaa
open Go.RowKit

theorem refFirst_some (s l : ByteArray) (w : World) (hs : s.size ≤ 140737488351232) (h : firstF s = some l) :
    Calls Try.prog 13 #[.string s] w fun e w' => e = .returned (.tuple #[.string l, .int .i64 (4 + l.size), .bool true]) ∧ ∃ n, w' = w.drewN n := by
  unfold firstF at h
  split at h
  · rename_i h4
    split at h
    · rename_i h1
      cases h
      refine (refFirst_yes s w h4 hs _ rfl h1.1 h1.2).mono ?_
      rintro e w' ⟨rfl, hb⟩
      refine ⟨?_, hb⟩
      have : (s.extract 4 (4 + len4 s h4)).size = len4 s h4 := by simp only [ByteArray.size_extract]; omega
      rw [this]
    · cases h
  · cases h

theorem refFirst_none (s : ByteArray) (w : World) (hs : s.size ≤ 140737488351232) (h : firstF s = none) :
    Calls Try.prog 13 #[.string s] w fun e w' => e = .returned (.tuple #[.string ByteArray.empty, .int .i64 0, .bool false]) ∧ ∃ n, w' = w.drewN n := by
  unfold firstF at h
  split at h
  · rename_i h4
    split at h
    · cases h
    · rename_i h1
      exact refFirst_no s w h4 hs _ rfl (by omega)
  · exact refFirst_short s w (by omega)

theorem grownBy_drewN (w : World) (n : Nat) : w.grownBy (w.drewN n) none := ⟨rfl, rfl, rfl, Nat.le_refl _, fun _ _ _ => rfl⟩
theorem ownBlock_any (v : Value) : v.ownBlock = none ∨ v.ownBlock ≠ none := by cases h : v.ownBlock <;> simp
theorem below_drewN' (B : Nat) (w : World) (n : Nat) : Below B w (w.drewN n) := ⟨rfl, rfl, rfl, Nat.le_refl _, fun _ _ => rfl⟩

set_option maxRecDepth 100000 in
set_option maxHeartbeats 2000000 in
theorem refAll_any (s : ByteArray) (hs : s.size ≤ 4294967296) (w : World) :
    Calls Try.prog 14 #[.string s] w fun e W' => ∃ v, e = .returned (.tuple #[v, .int .i64 ((s.size : Int) - lastF (runF s s.size 0))]) ∧
      W'.ownsRow w.heap.size 9 1 v (runF s s.size 0).length ((runF s s.size 0).map fun p => .string p.2) ∧ Below w.heap.size w W' := by
  obtain ⟨i0, hi, hz0, hz1, hz2⟩ := info_parts info9
  go_enter Try.func14, Try.ntmps14
  go_wp2
  go_loopw [4, 5] (fun v p wr => ∃ (pre : List (Nat × ByteArray)) (i k : Nat), p = .int .i64 (i : Int) ∧ Hid (runF s s.size 0 = pre ++ runF s k i) ∧ s.size - i ≤ k ∧ i ≤ s.size ∧ pre.length * 4 ≤ i ∧ Hid (lastF pre = i) ∧
      wr.ownsRow w.heap.size 9 1 v pre.length (pre.map fun p => .string p.2) ∧ Below w.heap.size w wr)
    (fun _ p _ => s.size - (intOf p).toNat)
  case atStart => exact ⟨[], 0, s.size, rfl, rfl, by omega, by omega, by simp, rfl, World.ownsRow_nil _ _ _ _, Below.refl _ _⟩
  case round =>
    obtain ⟨pre, i, k, rfl, hx, hk, hi', hp, hlast, hrow, hB⟩ := hrel
    by_cases hlt2 : i < s.size
    · have hsz : (s.extract i s.size).size = s.size - i := by simp only [ByteArray.size_extract]; omega
      cases hf : firstF (s.extract i s.size) with
      | none =>
        have hx' := hx.out
        rw [runF_none (k := k) hlt2 hf] at hx'
        rw [List.append_nil] at hx'
        have HX := Lib.hid hx'
        have HF := Lib.hid hf
        clear hf hsz hx' hx
        go_wp2_with (go_at_call 13; refine (refFirst_none _ _ (by simp only [ByteArray.size_extract]; omega) HF.out).mono ?_; rintro e w' ⟨rfl, m, rfl⟩)
        go_ret2
        exact ⟨_, by rw [HX.out, hlast.out]; rfl, by rw [HX.out]; exact hrow.kept (grownBy_drewN _ _) (ownBlock_any _), hB.trans (below_drewN' _ _ _)⟩
      | some ld =>
        obtain ⟨k', hr, hk'⟩ := runF_some (k := k) hlt2 hf hk
        obtain ⟨hl1, hl2⟩ := firstF_size hf
        have hx' := hx.out
        rw [hr] at hx'
        have HX := Lib.hid hx'
        have HF := Lib.hid hf
        clear hf hsz hx' hx hr hk
        have hb1 : i + (4 + ld.size) ≤ s.size := by simp only [ByteArray.size_extract] at hl1; omega
        go_wp2_with (first
          | (go_at_call 13; refine (refFirst_some _ ld _ (by simp only [ByteArray.size_extract]; omega) HF.out).mono ?_; rintro e w' ⟨rfl, m, rfl⟩)
          | (at_builtin; refine wpList_append_own _ rfl _ _ 23 rfl w.heap.size 9 i0 (.string ByteArray.empty) 1 16 und23 hi hz0 hz1 hz2 rfl (by decide) _ _ _ rfl ((hrow.kept (grownBy_drewN _ _) (ownBlock_any _)).alloc _) ⟨_, 0, none⟩ 1 1 [.string ld] rfl rfl ?c1 ?c2 ?c3 ?c4 ?c5 ?_))
        case c1 => exact cell_one_new _ _ _
        case c2 => simp [Value.oneCell']
        case c3 => unfold maxLen; omega
        case c4 => omega
        case c5 => have := hB.size; simp; omega
        intro v' w1 hown' hgrow _
        have hown2 : w1.ownsRow w.heap.size 9 1 v' (pre.length + 1) ((pre.map fun p => Value.string p.2) ++ [Value.string ld]) := hown'
        have hgr2 : ((wr.drewN m).alloc (.cells #[.string ld] 9)).grownBy w1 u4.ownBlock := hgrow
        clear hown' hgrow
        obtain ⟨g', cap', rfl⟩ := ownsRow_succ hown2
        go_wp2
        go_roundw
        case rel =>
          refine ⟨pre ++ [(i + (4 + ld.size), ld)], i + (4 + ld.size), k', by go_num, ?_, hk', hb1, by simp; omega, ?_, ?_, ?_⟩
          · rw [HX.out]; simp [Hid]
          · simp [Hid, lastF_snoc]
          · simpa using hown2
          · refine (((hB.trans (below_drewN' _ _ m)).alloc (by have := hB.size; simpa using this) _).grown hgr2 (by have := hB.size; simp; omega) ?_)
            intro j ej
            rcases hrow.2 with ⟨rfl, _⟩ | ⟨g, cap, cur, rfl, hb, _, _⟩
            · simp [Value.ownBlock] at ej
            · obtain rfl : g = j := by simpa [Value.ownBlock] using ej
              exact hb
        case measure => simp [intOf]; omega
    · have hx' := hx.out
      rw [runF_end (k := k) hlt2, List.append_nil] at hx'
      have HX := Lib.hid hx'
      clear hx' hx
      go_wp2
      go_ret2
      exact ⟨_, by rw [HX.out, hlast.out]; rfl, by rw [HX.out]; exact hrow, hB⟩

theorem All_any (s : ByteArray) (hs : s.size ≤ 4294967296) (w : World) :
    Calls Try.prog 8 #[.string s] w fun e W' => ∃ v, e = .returned (.tuple #[v, .int .i64 ((s.size : Int) - lastF (runF s s.size 0))]) ∧
      W'.ownsRow w.heap.size 9 1 v (runF s s.size 0).length ((runF s s.size 0).map fun p => .string p.2) ∧ Below w.heap.size w W' :=
  callsIn_wide.1 (All_in 3 (by omega) s hs w)

/-- The loads that bytes begin with. -/
def loadsF (s : ByteArray) : List ByteArray := (runF s s.size 0).map (·.2)
/-- How many bytes are torn. -/
def tornF (s : ByteArray) : Int := (s.size : Int) - lastF (runF s s.size 0)

theorem strs_of_owns {W : World} {b : Nat} {v : Value} {xs : List ByteArray} (h : W.ownsRow b 9 1 v xs.length (xs.map fun x => .string x)) : Strs W v xs := by
  obtain ⟨_, h2⟩ := h
  rcases h2 with ⟨rfl, h0⟩ | ⟨g, cap, cur, rfl, hg, hgg, hc1, hc2, hc3, htake⟩
  · obtain rfl : xs = [] := by simpa using h0
    exact ⟨none, 0, rfl, Nat.le_refl _, by omega, fun i hi => by simp at hi⟩
  · refine ⟨_, cap, rfl, hc1, ?_, ?_⟩
    · unfold maxLen at hc2; exact hc2
    · intro i hi
      refine ⟨g, 0, rfl, ?_⟩
      rw [cell_of_row W g (0 + i) cur 9 (0, 0) hgg]
      have h3 : (cur.toList.take (xs.length * 1))[i]? = some (.string xs[i]) := by rw [htake]; simp [hi]
      rw [List.getElem?_take] at h3
      simpa [hi] using h3

theorem all_strs (s : ByteArray) (hs : s.size ≤ 4294967296) (w : World) :
    Calls Try.prog 8 #[.string s] w fun e W' => ∃ v, e = .returned (.tuple #[v, .int .i64 (tornF s)]) ∧ Strs W' v (loadsF s) ∧ Below w.heap.size w W' := by
  refine (All_any s hs w).mono ?_
  rintro e W' ⟨v, rfl, hr, hb⟩
  exact ⟨v, rfl, strs_of_owns (b := w.heap.size) (by simpa [loadsF, Function.comp_def] using hr), hb⟩

theorem refAll_strs (s : ByteArray) (hs : s.size ≤ 4294967296) (w : World) :
    Calls Try.prog 14 #[.string s] w fun e W' => ∃ v, e = .returned (.tuple #[v, .int .i64 (tornF s)]) ∧ Strs W' v (loadsF s) ∧ Below w.heap.size w W' := by
  refine (refAll_any s hs w).mono ?_
  rintro e W' ⟨v, rfl, hr, hb⟩
  exact ⟨v, rfl, strs_of_owns (b := w.heap.size) (by simpa [loadsF, Function.comp_def] using hr), hb⟩

theorem whole_any (s : ByteArray) (hs : s.size ≤ 4294967296) (w : World) :
    Calls Try.prog 17 #[.string s] w fun e W' => e = .returned (.bool (tornF s == 0)) ∧ Below w.heap.size w W' := by
  go_enter Try.func17, Try.ntmps17
  go_wp2_with (go_at_call 8; refine (all_strs _ hs _).mono ?_; rintro e W' ⟨v, rfl, hr, hb⟩)
  go_ret
  exact ⟨rfl, hb⟩

theorem refWhole_any (s : ByteArray) (hs : s.size ≤ 4294967296) (w : World) :
    Calls Try.prog 18 #[.string s] w fun e W' => e = .returned (.bool (tornF s == 0)) ∧ Below w.heap.size w W' := by
  go_enter Try.func18, Try.ntmps18
  go_wp2_with (go_at_call 14; refine (refAll_strs _ hs _).mono ?_; rintro e W' ⟨v, rfl, hr, hb⟩)
  go_ret
  exact ⟨rfl, hb⟩

def wakeB : ByteArray := ⟨#[1, 0, 0, 0, 97, 2]⟩
theorem wake_loads : loadsF wakeB = [⟨#[97]⟩] := by decide
theorem wake_torn : tornF wakeB = 1 := by decide

theorem wakes_any (w : World) :
    Calls Try.prog 7 #[] w fun e W' => e = .returned (.bool true) ∧ Below w.heap.size w W' := by
  go_enter Try.func7, Try.ntmps7
  go_wp2_with (first
    | (go_at_call 8; refine (all_strs wakeB (by decide) _).mono ?_; rw [wake_loads, wake_torn]; rintro e W' ⟨v, rfl, ⟨a, cap, rfl, hc1, hc2, hr⟩, hb⟩; obtain ⟨b, off, rfl, hcell⟩ := hr 0 (by simp); simp at hcell; clear hr)
    | (go_at_call 15; refine (size_ok _ _ (by omega) (by omega)).mono ?_; rintro e w' ⟨rfl, rfl⟩))
  go_ret
  exact ⟨rfl, hb⟩

theorem Strs.below {W W' : World} {v : Value} {xs : List ByteArray} (h : Strs W v xs) (hb : Below W.heap.size W W') : Strs W' v xs := by
  obtain ⟨a, cap, rfl, h1, h2, h3⟩ := h
  refine ⟨a, cap, rfl, h1, h2, fun i hi => ?_⟩
  obtain ⟨b, off, ha, hc⟩ := h3 i hi
  exact ⟨b, off, ha, (hb.cell (p := ⟨b, off + i, none⟩) (World.block_lt_of_cell? _ _ hc)).trans hc⟩
end Go.Proofs.Ytnngjgiclckigaa
