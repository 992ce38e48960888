/-
  The walk of the law FrameMore: it answers true; condition: each text shorter than 2^47 bytes.
-/
import Derived.Test.YtnngjgiclckigaaE
namespace Go.Proofs.Ytnngjgiclckigaa
open Go.RowKit

theorem ext_drop (x b : ByteArray) (i : Nat) (j : Nat) (hj : j = (x ++ b).size) : (x ++ b).extract (x.size + i) j = b.extract i b.size := by
  subst hj
  apply ByteArray.ext
  apply Array.ext'
  simp

theorem ext_zero (b : ByteArray) : b.extract 0 b.size = b := by
  apply ByteArray.ext
  apply Array.ext'
  simp

/-- All the bytes of the frames of loads. -/
def total (xs : List ByteArray) : Nat := (xs.map fun x => 4 + x.size).sum
theorem total_cons (x : ByteArray) (xs : List ByteArray) : total (x :: xs) = 4 + x.size + total xs := by simp [total]
theorem total_append (xs ys : List ByteArray) : total (xs ++ ys) = total xs + total ys := by simp [total]

theorem lastF_cons (p : Nat × ByteArray) (l : List (Nat × ByteArray)) : lastF (p :: l) = if l = [] then p.1 else lastF l := by
  cases l with
  | nil => rfl
  | cons q l => simp [lastF]

theorem lastF_total (s : ByteArray) : ∀ (k i : Nat), runF s k i = [] ∨ lastF (runF s k i) = i + total ((runF s k i).map (·.2))
  | 0, i => .inl rfl
  | k + 1, i => by
    by_cases h : i < s.size
    · cases hf : firstF (s.extract i s.size) with
      | none => exact .inl (runF_none h hf)
      | some l =>
        refine .inr ?_
        have e : runF s (k + 1) i = (i + (4 + l.size), l) :: runF s k (i + (4 + l.size)) := by simp [runF, h, hf]
        rw [e, lastF_cons, List.map_cons, total_cons]
        rcases lastF_total s k (i + (4 + l.size)) with hn | hn
        · rw [hn]; simp [total]
        · by_cases hz : runF s k (i + (4 + l.size)) = []
          · rw [hz]; simp [total]
          · rw [if_neg hz, hn]; dsimp only; omega
    · exact .inl (runF_end h)

theorem lastF_loads (s : ByteArray) : lastF (runF s s.size 0) = total (loadsF s) := by
  unfold loadsF
  rcases lastF_total s s.size 0 with h | h
  · rw [h]; rfl
  · omega

theorem total_le (s : ByteArray) : total (loadsF s) ≤ s.size := by rw [← lastF_loads]; exact lastF_le s _ _
theorem tornF_eq (s : ByteArray) : tornF s = ((s.size - total (loadsF s) : Nat) : Int) := by
  unfold tornF
  rw [lastF_loads]
  have := total_le s
  omega

/-- More rounds make no difference. -/
theorem runF_fuel (s : ByteArray) : ∀ (k k' i : Nat), s.size - i ≤ k → s.size - i ≤ k' → runF s k i = runF s k' i
  | 0, k', i, h, _ => by rw [runF_end (k := k') (by omega)]; rfl
  | k + 1, k', i, h, h' => by
    by_cases hlt : i < s.size
    · cases k' with
      | zero => omega
      | succ k' =>
        simp only [runF, if_pos hlt]
        cases hf : firstF (s.extract i s.size) with
        | none => rfl
        | some l =>
          have := (firstF_size hf).1
          simp only [ByteArray.size_extract] at this
          simp only [runF_fuel s k k' (i + (4 + l.size)) (by omega) (by omega)]
    · rw [runF_end hlt, runF_end hlt]

/-- Behind x the frames of x ++ b are those of b, moved on. -/
theorem runF_shift (x b : ByteArray) : ∀ (k i : Nat), runF (x ++ b) k (x.size + i) = (runF b k i).map fun p => (x.size + p.1, p.2)
  | 0, i => rfl
  | k + 1, i => by
    have hs : (x ++ b).size = x.size + b.size := by simp
    by_cases hlt : i < b.size
    · have h1 : x.size + i < (x ++ b).size := by omega
      have he := ext_drop x b i _ rfl
      cases hf : firstF (b.extract i b.size) with
      | none =>
        rw [runF_none hlt hf, runF_none h1 (by rw [he]; exact hf)]; rfl
      | some l =>
        have e1 : runF b (k + 1) i = (i + (4 + l.size), l) :: runF b k (i + (4 + l.size)) := by simp [runF, hlt, hf]
        have e2 : runF (x ++ b) (k + 1) (x.size + i) = (x.size + i + (4 + l.size), l) :: runF (x ++ b) k (x.size + i + (4 + l.size)) := by
          simp only [runF, if_pos h1, he, hf]
        rw [e1, e2, List.map_cons, Nat.add_assoc, runF_shift x b k]
    · rw [runF_end hlt, runF_end (by omega)]; rfl

theorem ext_mid (x l b : ByteArray) : (x ++ l ++ b).extract x.size (x.size + l.size) = l := by
  apply ByteArray.ext
  apply Array.ext'
  simp
  rw [List.drop_of_length_le (by simp)]
  simp
  exact List.take_of_length_le (by simp)

theorem hdr_at (n : Nat) (r : ByteArray) (i : Nat) (hi : i < 4) (h : i < (hdr n ++ r).size) : (hdr n ++ r)[i] = (hdr n)[i]'(by rw [hdr_size]; exact hi) := by
  simp only [ByteArray.getElem_eq_getElem_data, ByteArray.data_append]
  rw [Array.getElem_append_left]

theorem firstF_frame (l b : ByteArray) (h : l.size ≤ 1024) : firstF (hdr l.size ++ l ++ b) = some l := by
  have hs : (hdr l.size ++ l ++ b).size = 4 + l.size + b.size := by simp [hdr_size]
  have h4 : 4 ≤ (hdr l.size ++ l ++ b).size := by omega
  have hl : len4 (hdr l.size ++ l ++ b) h4 = l.size := by
    have ha : hdr l.size ++ l ++ b = hdr l.size ++ (l ++ b) := by simp [ByteArray.append_assoc]
    unfold len4
    simp only [ha]
    rw [hdr_at _ _ 0 (by omega), hdr_at _ _ 1 (by omega), hdr_at _ _ 2 (by omega), hdr_at _ _ 3 (by omega)]
    have e0 : ((hdr l.size)[0]'(by rw [hdr_size]; omega)).toNat = l.size % 256 := by simp [hdr, ByteArray.getElem_eq_getElem_data]
    have e1 : ((hdr l.size)[1]'(by rw [hdr_size]; omega)).toNat = l.size / 256 := by simp [hdr, ByteArray.getElem_eq_getElem_data]; omega
    have e2 : ((hdr l.size)[2]'(by rw [hdr_size]; omega)).toNat = 0 := by simp [hdr, ByteArray.getElem_eq_getElem_data]
    have e3 : ((hdr l.size)[3]'(by rw [hdr_size]; omega)).toNat = 0 := by simp [hdr, ByteArray.getElem_eq_getElem_data]
    rw [e0, e1, e2, e3]
    omega
  unfold firstF
  rw [dif_pos h4, hl, if_pos ⟨h, by omega⟩]
  rw [show (4 : Nat) = (hdr l.size).size from rfl, ext_mid]

theorem loadsF_frame (l b : ByteArray) (h : l.size ≤ 1024) : loadsF (hdr l.size ++ l ++ b) = l :: loadsF b := by
  unfold loadsF
  have hs : (hdr l.size ++ l ++ b).size = 4 + l.size + b.size := by simp [hdr_size]
  have hx : (hdr l.size ++ l).size = 4 + l.size := by simp [hdr_size]
  rw [runF_fuel _ _ ((4 + l.size + b.size) + 1) 0 (by omega) (by omega)]
  have hf := firstF_frame l b h
  have e : runF (hdr l.size ++ l ++ b) (4 + l.size + b.size + 1) 0 = (0 + (4 + l.size), l) :: runF (hdr l.size ++ l ++ b) (4 + l.size + b.size) (0 + (4 + l.size)) := by
    simp only [runF, ext_zero, hf]
    rw [if_pos (by omega)]
  rw [e, Nat.zero_add]
  have h2 := runF_shift (hdr l.size ++ l) b (4 + l.size + b.size) 0
  rw [hx, Nat.add_zero] at h2
  rw [h2, List.map_cons, List.map_map, runF_fuel b (4 + l.size + b.size) b.size 0 (by omega) (by omega)]
  rfl

theorem total_take_succ (xs : List ByteArray) (i : Nat) (h : i < xs.length) : total (xs.take (i + 1)) = total (xs.take i) + (4 + xs[i].size) := by
  rw [List.take_succ_eq_append_getElem h, total_append, total_cons]
  simp [total]

theorem total_take_le (xs : List ByteArray) (i : Nat) : total (xs.take i) ≤ total xs := by
  have := total_append (xs.take i) (xs.drop i)
  rw [List.take_append_drop] at this
  omega

theorem tornF_frame (l b : ByteArray) (h : l.size ≤ 1024) : tornF (hdr l.size ++ l ++ b) = tornF b := by
  rw [tornF_eq, tornF_eq, loadsF_frame l b h, total_cons]
  have hs : (hdr l.size ++ l ++ b).size = 4 + l.size + b.size := by simp [hdr_size]
  have := total_le b
  omega

theorem strs_tail1 {w : World} {b off n cap : Nat} {x : ByteArray} {xs : List ByteArray} (h : ∀ i (h : i < (x :: xs).length), ∃ b' off', some (⟨b, off, none⟩ : Addr) = some ⟨b', off', none⟩ ∧ w.cell? ⟨b', off' + i, none⟩ = some (.string (x :: xs)[i]))
    (hn : n = xs.length) (hc : xs.length + 1 ≤ cap) (hc' : cap ≤ 9223372036854775807) : Strs w (.slice (some ⟨b, off + 1, none⟩) n (cap - 1)) xs := by
  subst hn
  refine ⟨_, _, rfl, by omega, by omega, fun i hi => ⟨b, off + 1, rfl, ?_⟩⟩
  obtain ⟨b', off', e, hcell⟩ := h (i + 1) (by simpa using hi)
  cases e
  rw [Nat.add_assoc, Nat.add_comm 1 i]
  simpa using hcell

theorem strs_tail0 {w : World} {a : Option Addr} {xs : List ByteArray} (h : xs.length = 0) : Strs w (.slice a xs.length 0) xs := by
  obtain rfl : xs = [] := by simpa using h
  exact ⟨a, 0, rfl, by simp, by omega, fun i hi => by simp at hi⟩

theorem strs_empty (w : World) (a : Option Addr) (cap : Nat) (hc' : cap ≤ 9223372036854775807) : Strs w (.slice a 0 cap) [] :=
  ⟨a, cap, rfl, by simp, hc', fun i hi => by simp at hi⟩

set_option maxRecDepth 100000 in
set_option maxHeartbeats 4000000 in
theorem more_walk (l b : ByteArray) (hl : l.size ≤ 140737488351232) (hb : b.size ≤ 140737488351232) (w : World) :
    Calls Try.prog 3 #[.string l, .string b] w fun e w' => e = .returned (.bool true) ∧ Below w.heap.size w w' := by
  by_cases h : 6000 < l.size + b.size
  · have h' : (6000 : Int) < l.size + b.size := by omega
    go_enter Try.func3, Try.ntmps3
    go_wp2_with (go_at_call 7; refine (wakes_any _).mono ?_; rintro e w' ⟨rfl, hw⟩)
    go_ret
    exact ⟨rfl, hw⟩
  · have h' : ¬ (6000 : Int) < l.size + b.size := by omega
    have htl := total_le b
    have htn := tornF_eq b
    obtain ⟨t, ht⟩ : ∃ t, b.size - total (loadsF b) = t := ⟨_, rfl⟩
    rw [ht] at htn
    have HTN := Lib.hid htn
    clear htn
    obtain ⟨xs, hxs⟩ : ∃ xs, loadsF b = xs := ⟨_, rfl⟩
    rw [hxs] at htl ht
    have HXS := Lib.hid hxs
    have HT := Lib.hid ht
    clear hxs ht
    go_enter Try.func3, Try.ntmps3
    go_wp2_with (go_at_call 8; refine (all_strs _ (by omega) _).mono ?_; rw [HXS.out, HTN.out]; rintro e w5 ⟨v1, rfl, ⟨a1, c1, rfl, hc1, hc1', hr1⟩, b5⟩; have HR := Lib.hid hr1; clear hr1)
    go_loop [7, 8] (fun n p => ∃ i : Nat, p = .int .i64 (i : Int) ∧ i ≤ xs.length ∧ n = .int .i64 ((t + total (xs.take i) : Nat) : Int)) (fun _ p => xs.length - (intOf p).toNat)
    case atStart => exact ⟨0, rfl, by omega, by simp [total]⟩
    case round =>
      obtain ⟨i, rfl, hi, rfl⟩ := hrel
      by_cases hlt : i < xs.length
      · obtain ⟨b', off', rfl, hcell⟩ := HR.out i hlt
        have h1 := total_take_succ xs i hlt
        have h2 := total_take_le xs (i + 1)
        have h3 : t + total (xs.take i) + 4 + xs[i].size = t + total (xs.take (i + 1)) := by omega
        have h4 : t + total (xs.take i) + 4 + xs[i].size ≤ b.size := by have := HT.out; omega
        have H3 := Lib.hid h3
        clear h1 h2 h3
        generalize t + total (xs.take i) = m at *
        generalize xs[i] = y at *
        go_wp2
        go_round
        case rel => exact ⟨i + 1, by go_num, by omega, by rw [← H3.out]; go_num⟩
        case measure => simp [intOf]; omega
      · have hie : xs.take i = xs := List.take_of_length_le (by omega)
        rw [hie]
        have htot : t + total xs = b.size := by have := HT.out; omega
        rw [htot]
        clear hie htot
        have q1 : ¬ (t : Int) < 0 := by omega
        by_cases hle : l.size ≤ 1024
        · have hE : bytesE l = 0 := by unfold bytesE; rw [if_pos hle]
          have hF : bytesF l = hdr l.size ++ l := by unfold bytesF; rw [if_pos hle]
          have HB1 := Lib.hid (loadsF_frame l b hle)
          have HB2 := Lib.hid (tornF_frame l b hle)
          have HSZ : Hid ((hdr l.size ++ l ++ b).size ≤ 4294967296) := by
            show _ ≤ _
            have hs : (hdr l.size ++ l ++ b).size = 4 + l.size + b.size := by simp [hdr_size]
            omega
          have hadd : ¬ 9223372036854775807 < (hdr l.size ++ l).size + b.size := by simp [hdr_size]; omega
          rw [HXS.out] at HB1
          rw [HTN.out] at HB2
          have ht1 : (l.toList == l.toList) = true := by simp
          go_wp2_with (first
            | (go_at_call 9; refine (bytes_any _ (by omega) _).mono ?_; rw [hE, hF]; rintro e w6 ⟨rfl, b6⟩)
            | (go_at_call 8; refine (all_strs _ HSZ.out _).mono ?_; rw [HB1.out, HB2.out]; rintro e w7 ⟨v2, rfl, ⟨a2, c2, rfl, hc2, hc2', hr2⟩, b7⟩; obtain ⟨bb, off, rfl, hcell⟩ := hr2 0 (by simp); simp at hcell hc2; have HR2 := Lib.hid hr2; clear hr2)
            | (go_at_call 7; refine (wakes_any _).mono ?_; rintro e w9 ⟨rfl, b9⟩))
          all_goals
            refine (same_below xs xs _ _ _ (by first | exact strs_tail1 HR2.out rfl hc2 hc2' | exact strs_tail0 (by omega)) (Strs.below ⟨_, _, rfl, hc1, hc1', HR.out⟩ (Below.next b6 b7))).mono ?_
            rw [decide_eq_true rfl]
            rintro e w8 ⟨rfl, b8⟩
            clear HR HR2
            go_wp2_with (go_at_call 7; refine (wakes_any _).mono ?_; rintro e w9 ⟨rfl, b9⟩)
            go_ret
            exact ⟨rfl, Below.next b5 (Below.next b6 (Below.next b7 (Below.next b8 b9)))⟩
        · have hE : bytesE l = 2 := by unfold bytesE; rw [if_neg hle]
          have hle' : ¬ (l.size : Int) ≤ 1024 := by omega
          go_wp2_with (first
            | (go_at_call 9; refine (bytes_any _ (by omega) _).mono ?_; rw [hE]; rintro e w6 ⟨rfl, b6⟩)
            | (go_at_call 7; refine (wakes_any _).mono ?_; rintro e w9 ⟨rfl, b9⟩))
          go_ret
          exact ⟨rfl, Below.next b5 (Below.next b6 b9)⟩
end Go.Proofs.Ytnngjgiclckigaa
