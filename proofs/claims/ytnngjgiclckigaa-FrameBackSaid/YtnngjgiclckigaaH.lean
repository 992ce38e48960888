/-
  The walk of the law FrameBack: it answers true; condition: the row of loads reads as strings.
-/
import Derived.Test.YtnngjgiclckigaaG
namespace Go.Proofs.Ytnngjgiclckigaa
open Go.RowKit

theorem ext_take (a b : ByteArray) (m : Nat) : (a ++ b).extract 0 (a.size + m) = a ++ b.extract 0 m := by
  apply ByteArray.ext
  apply Array.ext'
  simp
  rw [List.take_of_length_le (by simp)]

theorem cut_at (n : Nat) (r : ByteArray) (m i : Nat) (hi : i < 4) (h : i < ((hdr n ++ r).extract 0 m).size) : ((hdr n ++ r).extract 0 m)[i] = (hdr n)[i]'(by rw [hdr_size]; exact hi) := by
  simp only [ByteArray.getElem_eq_getElem_data, ByteArray.data_extract, ByteArray.data_append]
  rw [Array.getElem_extract]
  simp only [Nat.zero_add]
  rw [Array.getElem_append_left]

theorem firstF_cut (x rest : ByteArray) (hx : x.size ≤ 1024) (m : Nat) (hm : m < 4 + x.size) : firstF ((hdr x.size ++ x ++ rest).extract 0 m) = none := by
  have hs : ((hdr x.size ++ x ++ rest).extract 0 m).size = m := by simp [hdr_size]; omega
  unfold firstF
  split
  · rename_i h4
    have hl : len4 ((hdr x.size ++ x ++ rest).extract 0 m) h4 = x.size := by
      have ha : hdr x.size ++ x ++ rest = hdr x.size ++ (x ++ rest) := by simp [ByteArray.append_assoc]
      unfold len4
      simp only [ha]
      rw [cut_at _ _ _ 0 (by omega), cut_at _ _ _ 1 (by omega), cut_at _ _ _ 2 (by omega), cut_at _ _ _ 3 (by omega)]
      have e0 : ((hdr x.size)[0]'(by rw [hdr_size]; omega)).toNat = x.size % 256 := by simp [hdr, ByteArray.getElem_eq_getElem_data]
      have e1 : ((hdr x.size)[1]'(by rw [hdr_size]; omega)).toNat = x.size / 256 := by simp [hdr, ByteArray.getElem_eq_getElem_data]; omega
      have e2 : ((hdr x.size)[2]'(by rw [hdr_size]; omega)).toNat = 0 := by simp [hdr, ByteArray.getElem_eq_getElem_data]
      have e3 : ((hdr x.size)[3]'(by rw [hdr_size]; omega)).toNat = 0 := by simp [hdr, ByteArray.getElem_eq_getElem_data]
      rw [e0, e1, e2, e3]
      omega
    rw [hl, if_neg (by omega)]
  · rfl

theorem no_frame (s : ByteArray) (h : firstF s = none) : loadsF s = [] ∧ tornF s = s.size := by
  have h0 : runF s s.size 0 = [] := by
    by_cases hlt : 0 < s.size
    · exact runF_none hlt (by rw [ext_zero]; exact h)
    · exact runF_end hlt
  unfold loadsF tornF
  rw [h0]
  exact ⟨rfl, by simp [lastF]⟩

theorem firstF_small (s : ByteArray) (h : s.size < 4) : firstF s = none := by
  unfold firstF
  rw [dif_neg (by omega)]

/-- Frames that are cut are read as the first ones, whole. -/
theorem cut_loads (l : List ByteArray) (hall : ∀ x ∈ l, x.size ≤ 1024) (c k : Nat) (hk : k ≤ l.length) (h1 : total (l.take k) ≤ c) (h2 : k < l.length → c < total (l.take (k + 1))) (hc : c ≤ total l) :
    loadsF ((catF l).extract 0 c) = l.take k ∧ tornF ((catF l).extract 0 c) = ((c - total (l.take k) : Nat) : Int) := by
  obtain ⟨m, rfl⟩ : ∃ m, c = total (l.take k) + m := ⟨c - total (l.take k), by omega⟩
  have e : (catF l).extract 0 (total (l.take k) + m) = catF (l.take k) ++ (catF (l.drop k)).extract 0 m := by
    conv => lhs; rw [← List.take_append_drop k l, catF_append]
    rw [← catF_size, List.take_append_drop, ext_take]
  have hr : firstF ((catF (l.drop k)).extract 0 m) = none ∧ ((catF (l.drop k)).extract 0 m).size = m := by
    have htd := total_append (l.take k) (l.drop k)
    rw [List.take_append_drop] at htd
    have hsz : ((catF (l.drop k)).extract 0 m).size = m := by simp [catF_size]; omega
    refine ⟨?_, hsz⟩
    by_cases hkl : k < l.length
    · have hd : l.drop k = l[k] :: l.drop (k + 1) := (List.getElem_cons_drop hkl).symm
      rw [hd]
      have := total_take_succ l k hkl
      have h3 := h2 hkl
      exact firstF_cut _ _ (hall _ (by simp)) m (by omega)
    · have : l.drop k = [] := List.drop_of_length_le (by omega)
      rw [this] at htd hsz ⊢
      have h0 : total [] = 0 := rfl
      exact firstF_small _ (by rw [hsz]; omega)
  have hm : ∀ x ∈ l.take k, x.size ≤ 1024 := fun x hx => hall x (List.mem_of_mem_take hx)
  rw [e, loadsF_catF _ hm, tornF_catF _ hm, (no_frame _ hr.1).1, (no_frame _ hr.1).2, hr.2]
  exact ⟨by simp, by omega⟩

theorem und36 : Try.prog.underlying 36 = some (.slice 3) := by kernel_rfl
theorem info3 : (Try.prog.info? 3).map (fun i => (i.zero, i.size, i.bytes)) = some (some (.int .i64 0), 1, 8) := by kernel_rfl

theorem loadsF_all (l : List ByteArray) (h : ∀ x ∈ l, x.size ≤ 1024) : loadsF (catF l) = l := by
  have := loadsF_catF l h ByteArray.empty
  rw [loadsF_empty, List.append_nil] at this
  simpa using this
theorem tornF_all (l : List ByteArray) (h : ∀ x ∈ l, x.size ≤ 1024) : tornF (catF l) = 0 := by
  have := tornF_catF l h ByteArray.empty
  rw [tornF_empty] at this
  simpa using this

/-- Where each frame ends, 0 ahead. -/
def endsF (l : List ByteArray) (n : Nat) : List Value := (List.range (n + 1)).map fun j => .int .i64 (total (l.take j) : Nat)
theorem endsF_succ (l : List ByteArray) (n : Nat) : endsF l (n + 1) = endsF l n ++ [.int .i64 (total (l.take (n + 1)) : Nat)] := by
  unfold endsF
  rw [List.range_succ (n := n + 1), List.map_append]
  rfl
theorem endsF_length (l : List ByteArray) (n : Nat) : (endsF l n).length = n + 1 := by simp [endsF]

theorem ownsRow_built (w : World) (v : Value) (e : TypeId) (base : Nat) (hb : base ≤ w.heap.size) : (w.alloc (.cells #[v] e)).ownsRow base e 1 (.slice (some ⟨w.heap.size, 0, none⟩) 1 1) 1 [v] :=
  ⟨rfl, .inr ⟨w.heap.size, 1, #[v], rfl, hb, heap_alloc_new w _, Nat.le_refl _, by unfold maxLen; omega, rfl, rfl⟩⟩

theorem ends_cells {W : World} {b g cap n : Nat} {l : List ByteArray} (h : W.ownsRow b 3 1 (.slice (some ⟨g, 0, none⟩) (n + 1) cap) (n + 1) (endsF l n)) : ∀ j, j ≤ n → W.cell? ⟨g, j, none⟩ = some (.int .i64 (total (l.take j) : Nat)) := by
  intro j hj
  rcases h.2 with ⟨h0, _⟩ | ⟨g', cap', cur, hv, hb, hgg, hc1, hc2, hc3, htake⟩
  · cases h0
  · cases hv
    rw [cell_of_row W g j cur 3 (0, 0) hgg]
    have h3 : (cur.toList.take ((n + 1) * 1))[j]? = some (.int .i64 (total (l.take j) : Nat)) := by
      rw [htake]
      have hj2 : j < (endsF l n).length := by rw [endsF_length]; omega
      rw [List.getElem?_eq_getElem hj2]
      simp [endsF]
    rw [List.getElem?_take, if_pos (by omega)] at h3
    simpa using h3

theorem strs_take {w : World} {a : Option Addr} {n cap k : Nat} {l : List ByteArray} (h : Strs w (.slice a n cap) l) (hk : k ≤ l.length) : Strs w (.slice a k cap) (l.take k) := by
  obtain ⟨a', cap', e, h1, h2, h3⟩ := h
  cases e
  have hl : (l.take k).length = k := by simp; omega
  refine ⟨a, cap, by rw [hl], by omega, h2, fun i hi => ?_⟩
  obtain ⟨b, off, ha, hc⟩ := h3 i (by omega)
  exact ⟨b, off, ha, by rw [hc]; simp⟩

theorem cut_in (cut : Int) (N : Nat) (hN : N ≤ 6240) :
    ∃ cc : Nat, (wrap64 (wrap64 (cut.tmod ((N : Int) + 1) + (N : Int)) + 1)).tmod ((N : Int) + 1) = (cc : Int) ∧ cc ≤ N := by
  have a1 := Int.tmod_lt_of_pos cut (show (0 : Int) < (N : Int) + 1 by omega)
  have a2 : -((N : Int) + 1) < cut.tmod ((N : Int) + 1) := by
    have := Int.lt_tmod_of_pos cut (show (0 : Int) < (N : Int) + 1 by omega)
    exact this
  generalize cut.tmod ((N : Int) + 1) = r at *
  have e1 : wrap64 (r + (N : Int)) = r + N := by unfold wrap64; omega
  rw [e1]
  have e2 : wrap64 (r + (N : Int) + 1) = r + N + 1 := by unfold wrap64; omega
  rw [e2, Int.tmod_eq_emod_of_nonneg (by omega)]
  have b1 := Int.emod_nonneg (r + N + 1) (show ((N : Int) + 1) ≠ 0 by omega)
  have b2 := Int.emod_lt_of_pos (r + N + 1) (show (0 : Int) < (N : Int) + 1 by omega)
  exact ⟨((r + N + 1) % ((N : Int) + 1)).toNat, by omega, by omega⟩

set_option maxRecDepth 100000 in
set_option maxHeartbeats 8000000 in
theorem back_walk (l : List ByteArray) (cut : Int) (va : Value) (w : World) (hx : Strs w va l) (zx : ∀ x ∈ l, x.size ≤ 9223372036854775807) (lx : l.length ≤ 140737488351232) :
    Calls Try.prog 6 #[va, .int .i64 cut] w fun e w' => e = .returned (.bool true) ∧ Below w.heap.size w w' := by
  have HSX := Lib.hid hx
  have ZX := Lib.hid zx
  clear zx
  obtain ⟨i0, hi0, hz0, hz1, hz2⟩ := info_parts info3
  obtain ⟨aa, ca, rfl, hca, hca', hcx⟩ := hx
  have HX := Lib.hid hcx
  clear hcx
  go_enter Try.func6, Try.ntmps6
  go_wp2
  go_loop [5, 6] (fun n p => ∃ i : Nat, p = .int .i64 (i : Int) ∧ i ≤ l.length ∧ i ≤ 61 ∧ n = .int .i64 (msum (l.take i) : Int) ∧ Hid (∀ x ∈ l.take i, x.size ≤ 1024)) (fun _ p => 61 - (intOf p).toNat)
  case atStart => exact ⟨0, rfl, by omega, by omega, rfl, by simp [Hid]⟩
  case round =>
    obtain ⟨i, rfl, hi, hi2, rfl, hall⟩ := hrel
    by_cases hlt : i < l.length
    · by_cases h60 : i ≤ 60
      · obtain ⟨b', off', rfl, hcell⟩ := HX.out i hlt
        have hz := ZX.out l[i] (by simp)
        have h1 := msum_take_succ l i hlt
        have h2 := msum_le (l.take i)
        have h2' : (l.take i).length ≤ i := List.length_take_le _ _
        have H1 := Lib.hid h1
        have H3 : msum (l.take i) ≤ 427000 := by omega
        clear h1 h2 h2'
        by_cases hle : l[i].size ≤ 1024
        · have HA := Lib.hid (take_mem (P := fun x => x.size ≤ 1024) hlt hall.out hle)
          generalize msum (l.take i) = m at *
          generalize l[i] = y at *
          go_wp2
          go_round
          case rel => exact ⟨i + 1, by go_num, by omega, by omega, by rw [H1.out]; congr 1; rw [Int.natCast_add]; congr 1; omega, HA⟩
          case measure => simp [intOf]; omega
        · generalize msum (l.take i) = m at *
          generalize l[i] = y at *
          go_wp2_with (go_at_call 7; refine (wakes_any _).mono ?_; rintro e w' ⟨rfl, hw⟩)
          all_goals
            go_ret
            exact ⟨rfl, hw⟩
      · have h61 : (60 : Int) < i := by omega
        have h62 : (60 : Int) < l.length := by omega
        go_wp2_with (go_at_call 7; refine (wakes_any _).mono ?_; rintro e w' ⟨rfl, hw⟩)
        go_ret
        exact ⟨rfl, hw⟩
    · by_cases h60 : 60 < l.length
      · go_wp2_with (go_at_call 7; refine (wakes_any _).mono ?_; rintro e w' ⟨rfl, hw⟩)
        go_ret
        exact ⟨rfl, hw⟩
      · have ht : l.take i = l := List.take_of_length_le (by omega)
        rw [ht] at hall ⊢
        have hm := msum_le l
        by_cases hbig : 6000 < msum l
        · go_wp2_with (go_at_call 7; refine (wakes_any _).mono ?_; rintro e w' ⟨rfl, hw⟩)
          go_ret
          exact ⟨rfl, hw⟩
        · have hT := msum_total l (by omega)
          have hTx : total l ≤ 6240 := by omega
          clear hT
          go_wp2
          clear hlt h60 hm hbig ht
          go_loopw [7, 8, 9] (fun x v p wr => ∃ i : Nat, p = .int .i64 (i : Int) ∧ i ≤ l.length ∧ x = .string (catF (l.take i)) ∧ wr.ownsRow w.heap.size 3 1 v (i + 1) (endsF l i) ∧ Below w.heap.size w wr) (fun _ _ p _ => l.length - (intOf p).toNat)
          case atStart => exact ⟨0, rfl, by omega, rfl, ownsRow_built _ _ _ _ (Nat.le_refl _), (Below.refl _ _).alloc (Nat.le_refl _) _⟩
          case round =>
            obtain ⟨i, rfl, hi, rfl, hrow, hB⟩ := hrel
            by_cases hlt : i < l.length
            · obtain ⟨b', off', rfl, hcell0⟩ := HX.out i hlt
              have hblt := World.block_lt_of_cell? _ _ hcell0
              have hcell := (hB.cell (p := ⟨b', off' + i, none⟩) hblt).trans hcell0
              have hle := hall.out l[i] (by simp)
              have hc1 : catF (l.take (i + 1)) = catF (l.take i) ++ (hdr l[i].size ++ l[i]) := by
                rw [List.take_succ_eq_append_getElem hlt, catF_snoc]
              have hts := total_take_succ l i hlt
              have htl := total_take_le l i
              have hs0 := catF_size (l.take i)
              have hs1 : ¬ 9223372036854775807 < (catF (l.take i)).size + (hdr l[i].size ++ l[i]).size := by
                rw [hs0]
                simp [hdr_size]; omega
              have hs2 : (hdr l[i].size ++ l[i]).size = 4 + l[i].size := by simp [hdr_size]
              have HS2 := Lib.hid hs2
              have HC := Lib.hid hc1
              have HTS := Lib.hid hts
              have HTL := Lib.hid htl
              have HS0 := Lib.hid hs0
              have hs3 : (((hdr l[i].size ++ l[i]).size : Int) != 4 + (l[i].size : Int)) = false := by rw [hs2]; simp
              have hs4 : (((hdr l[i].size ++ l[i]).size : Int) != (l[i].size : Int) + 4) = false := by rw [hs2]; simp; omega
              clear hc1 hts htl hs0 hcell0 hblt hs2
              generalize l[i] = y at *
              generalize hc : catF (l.take i) = c at *
              have HCC := Lib.hid hc
              clear hc
              go_wp2_with (first
                | (go_at_call 9; refine (bytes_ok _ _ hle).mono ?_; rintro e w6 ⟨rfl, b6⟩; have hcell6 := (b6.cell (p := ⟨b', off' + i, none⟩) (World.block_lt_of_cell? _ _ hcell)).trans hcell)
                | (go_at_call 15; refine (size_ok _ _ (by omega) (by omega)).mono ?_; rintro e w7 ⟨rfl, rfl⟩)
                | (at_builtin; refine wpList_append_own _ rfl _ _ 36 rfl w.heap.size 3 i0 (.int .i64 0) 1 8 und36 hi0 hz0 hz1 hz2 rfl (by decide) _ _ _ rfl ((hrow.kept (below_grown b6) (ownBlock_any _)).alloc _) ⟨_, 0, none⟩ 1 1 [.int .i64 ((c.size : Int) + (4 + (y.size : Int)))] rfl rfl ?c1 ?c2 ?c3 ?c4 ?c5 ?_))
              case c1 => exact cell_one_new _ _ _
              case c2 => simp [Value.oneCell']
              case c3 => unfold maxLen; omega
              case c4 => omega
              case c5 => have := hB.size; have := b6.size; simp; omega
              intro v' w1 hown' hgrow _
              have hown2 : w1.ownsRow w.heap.size 3 1 v' (i + 1 + 1) (endsF l i ++ [.int .i64 ((c.size : Int) + (4 + (y.size : Int)))]) := hown'
              have hgr2 : (w6.alloc (.cells #[.int .i64 ((c.size : Int) + (4 + (y.size : Int)))] 3)).grownBy w1 u8.ownBlock := hgrow
              clear hown' hgrow
              obtain ⟨g', cap', rfl⟩ := ownsRow_succ hown2
              go_wp2
              go_roundw
              case rel =>
                refine ⟨i + 1, by go_num, by omega, by rw [HC.out], ?_, ?_⟩
                · rw [endsF_succ, HTS.out, ← HS0.out]
                  have : ((c.size : Int) + (4 + (y.size : Int))) = ((c.size + (4 + y.size) : Nat) : Int) := by simp
                  rw [this] at hown2
                  exact hown2
                · refine (((hB.trans (b6.mono hB.size)).alloc (by have := hB.size; have := b6.size; omega) _).grown hgr2 (by have := hB.size; have := b6.size; simp; omega) ?_)
                  intro j ej
                  rcases hrow.2 with ⟨rfl, _⟩ | ⟨g, cap, cur, rfl, hb, _, _⟩
                  · simp [Value.ownBlock] at ej
                  · obtain rfl : g = j := by simpa [Value.ownBlock] using ej
                    exact hb
              case measure => simp [intOf]; omega
            · have ht : l.take i = l := List.take_of_length_le (by omega)
              obtain rfl : i = l.length := by omega
              rw [ht]
              have HL1 := Lib.hid (loadsF_all l hall.out)
              have HL2 := Lib.hid (tornF_all l hall.out)
              have hsz := catF_size l
              have HLE : Hid ((catF l).size ≤ 6240) := by show _ ≤ _; omega
              obtain ⟨g, capE, rfl⟩ := ownsRow_succ hrow
              have hEnd := Lib.hid (ends_cells hrow)
              have HR := Lib.hid hrow
              clear hrow hlt ht
              generalize hc : catF l = c at *
              have HC := Lib.hid hc
              clear hc
              go_wp2_with (first
                | (go_at_call 8; refine (all_strs _ (by have := HLE.out; omega) _).mono ?_; rw [HL1.out, HL2.out]; rintro e w1 ⟨v1, rfl, s1, b1⟩; have S1 := Lib.hid s1; clear s1)
                | (go_at_call 10; refine (same_below l l _ _ _ ((HSX.out.below hB).below b1) S1.out).mono ?_; rw [decide_eq_true rfl]; rintro e w2 ⟨rfl, b2⟩)
                | (go_at_call 17; refine (whole_any _ (by have := HLE.out; omega) _).mono ?_; rw [HL2.out]; rintro e w3 ⟨rfl, b3⟩))
              obtain ⟨cc, hcc, hcl⟩ := cut_in cut (total l) hTx
              rw [hcc]
              have HCL := Lib.hid hcl
              clear hcc
              have hgl : g < wr.heap.size := (HR.out.lt g rfl).2
              have b13 := Below.next b1 (Below.next b2 b3)
              have hEnd3 : Hid (∀ j, j ≤ l.length → w3.cell? ⟨g, j, none⟩ = some (.int .i64 (total (l.take j) : Nat))) := fun j hj => (b13.cell (p := ⟨g, j, none⟩) hgl).trans (hEnd.out j hj)
              have hB3 : Below w.heap.size w w3 := hB.trans (b13.mono hB.size)
              clear hEnd HR hgl b1 b2 b3 b13 hB
              clear HL1 HL2 S1
              go_loop [14] (fun p => ∃ k : Nat, p = .int .i64 (k : Int) ∧ k ≤ l.length ∧ total (l.take k) ≤ cc) (fun p => l.length - (intOf p).toNat)
              case atStart => exact ⟨0, rfl, by omega, by simp [total]⟩
              case round =>
                obtain ⟨k, rfl, hk, hkt⟩ := hrel
                by_cases hgo : k < l.length ∧ total (l.take (k + 1)) ≤ cc
                · obtain ⟨hk1, hk2⟩ := hgo
                  have hce := hEnd3.out (k + 1) hk1
                  obtain ⟨tk, htk⟩ : ∃ tk, total (l.take (k + 1)) = tk := ⟨_, rfl⟩
                  rw [htk] at hce hk2
                  have HTK := Lib.hid htk
                  clear htk
                  go_wp2
                  go_round
                  case rel => exact ⟨k + 1, by go_num, by omega, by rw [HTK.out]; exact hk2⟩
                  case measure => simp [intOf]; omega
                · obtain ⟨hl1, hl2⟩ := cut_loads l hall.out cc k hk hkt (fun h => by omega) HCL.out
                  rw [HC.out] at hl1 hl2
                  obtain ⟨m, hm⟩ : ∃ m, cc - total (l.take k) = m := ⟨_, rfl⟩
                  rw [hm] at hl2
                  have hcek := hEnd3.out k hk
                  obtain ⟨tk, htk⟩ : ∃ tk, total (l.take k) = tk := ⟨_, rfl⟩
                  rw [htk] at hcek hkt hm
                  have HL1 := Lib.hid hl1
                  have HL2 := Lib.hid hl2
                  have hq : ((m : Int) == (cc : Int) - tk) = true := by simp; omega
                  have hsz2 : Hid ((c.extract 0 cc).size ≤ 4294967296) := by
                    show _ ≤ _
                    simp only [ByteArray.size_extract]
                    have := HLE.out
                    omega
                  have hccs : cc ≤ c.size := by have := HCL.out; omega
                  have SL : Hid (Strs w3 (.slice aa l.length ca) l) := (HSX.out.below hB3)
                  clear htk hm hl1 hl2
                  by_cases hkl : k < l.length
                  · have hce := hEnd3.out (k + 1) hkl
                    have hno : ¬ total (l.take (k + 1)) ≤ cc := fun h => hgo ⟨hkl, h⟩
                    obtain ⟨tk1, htk1⟩ : ∃ tk1, total (l.take (k + 1)) = tk1 := ⟨_, rfl⟩
                    rw [htk1] at hce hno
                    clear htk1 hgo
                    go_wp2_with (first
                      | (go_at_call 8; refine (all_strs _ hsz2.out _).mono ?_; rw [HL1.out, HL2.out]; rintro e w4 ⟨v2, rfl, s2, b4⟩; have S2 := Lib.hid s2; clear s2)
                      | (go_at_call 10; refine (same_below (l.take k) (l.take k) _ _ _ (strs_take (SL.out.below b4) hk) S2.out).mono ?_; rw [decide_eq_true rfl]; rintro e w5 ⟨rfl, b5⟩; have hc5 := ((Below.next b4 b5).cell (p := ⟨g, k, none⟩) (World.block_lt_of_cell? _ _ hcek)).trans hcek)
                      | (go_at_call 17; refine (whole_any _ hsz2.out _).mono ?_; rw [HL2.out]; rintro e w6 ⟨rfl, b6⟩)
                      | (go_at_call 7; refine (wakes_any _).mono ?_; rintro e w9 ⟨rfl, b9⟩))
                    go_ret
                    exact ⟨rfl, hB3.trans ((Below.next b4 (Below.next b5 (Below.next b6 b9))).mono hB3.size)⟩
                  · obtain rfl : k = l.length := by omega
                    clear hgo
                    go_wp2_with (first
                      | (go_at_call 8; refine (all_strs _ hsz2.out _).mono ?_; rw [HL1.out, HL2.out]; rintro e w4 ⟨v2, rfl, s2, b4⟩; have S2 := Lib.hid s2; clear s2)
                      | (go_at_call 10; refine (same_below (l.take l.length) (l.take l.length) _ _ _ (strs_take (SL.out.below b4) hk) S2.out).mono ?_; rw [decide_eq_true rfl]; rintro e w5 ⟨rfl, b5⟩; have hc5 := ((Below.next b4 b5).cell (p := ⟨g, l.length, none⟩) (World.block_lt_of_cell? _ _ hcek)).trans hcek)
                      | (go_at_call 17; refine (whole_any _ hsz2.out _).mono ?_; rw [HL2.out]; rintro e w6 ⟨rfl, b6⟩)
                      | (go_at_call 7; refine (wakes_any _).mono ?_; rintro e w9 ⟨rfl, b9⟩))
                    go_ret
                    exact ⟨rfl, hB3.trans ((Below.next b4 (Below.next b5 (Below.next b6 b9))).mono hB3.size)⟩
end Go.Proofs.Ytnngjgiclckigaa
