/-
  What frame.All answers: the loads of the frames with which the bytes begin and how many bytes are torn; condition: a text of at most 2^32 bytes.
-/
import Derived.RangeFuncBox
import Derived.RangeFuncLeaves
import Derived.RangeFuncNested
import Derived.Shelf.Abstract
import Derived.WalkKit
import Derived.OwnWalkIn
import Derived.TacticsInMore
import Derived.LoopNIn
import Derived.LoopIn
import Derived.Maps.AppendAt
import Derived.Test.YtnngjgiclckigaaA
namespace Go.Proofs.Ytnngjgiclckigaa
open Go.RowKit Go.Shelf
attribute [local go_sem] Oper.semAt_some

/-- The load of the frame with which bytes begin. -/
def firstF (s : ByteArray) : Option ByteArray :=
  if h : 4 ≤ s.size then (if len4 s h ≤ 1024 ∧ 4 + len4 s h ≤ s.size then some (s.extract 4 (4 + len4 s h)) else none) else none

theorem firstF_size {s l : ByteArray} (h : firstF s = some l) : 4 + l.size ≤ s.size ∧ l.size ≤ 1024 := by
  unfold firstF at h
  split at h
  · split at h
    · cases h
      rename_i h1
      simp only [ByteArray.size_extract]
      omega
    · cases h
  · cases h

theorem first_some (s l : ByteArray) (w : World) (hs : s.size ≤ 140737488351232) (h : firstF s = some l) :
    Calls Try.prog 12 #[.string s] w fun e w' => e = .returned (.tuple #[.string l, .int .i64 (4 + l.size), .bool true]) ∧ Below w.heap.size w w' := by
  unfold firstF at h
  split at h
  · rename_i h4
    split at h
    · rename_i h1
      cases h
      refine (first_yes s w h4 hs _ rfl h1.1 h1.2).mono ?_
      rintro e w' ⟨rfl, hb⟩
      refine ⟨?_, hb⟩
      have : (s.extract 4 (4 + len4 s h4)).size = len4 s h4 := by simp only [ByteArray.size_extract]; omega
      rw [this]
    · cases h
  · cases h

theorem first_none (s : ByteArray) (w : World) (hs : s.size ≤ 140737488351232) (h : firstF s = none) :
    Calls Try.prog 12 #[.string s] w fun e w' => e = .returned (.tuple #[.string ByteArray.empty, .int .i64 0, .bool false]) ∧ w = w' := by
  unfold firstF at h
  split at h
  · rename_i h4
    split at h
    · cases h
    · rename_i h1
      exact first_no s w h4 hs _ rfl (by omega)
  · exact first_short s w (by omega)

/-- The frames of s from at on: where each ends, its load. -/
def runF (s : ByteArray) : Nat → Nat → List (Nat × ByteArray)
  | 0, _ => []
  | k + 1, i => if i < s.size then (match firstF (s.extract i s.size) with | none => [] | some l => (i + (4 + l.size), l) :: runF s k (i + (4 + l.size))) else []

abbrev encF (p : Nat × ByteArray) : Array Value := #[.int .i64 (p.1 : Int), .string p.2]

theorem below_grown {w w' : World} (h : Below w.heap.size w w') : w.grownBy w' none :=
  ⟨h.os, h.tape, h.output, h.size, fun k hk _ => h.block k hk⟩

theorem runF_none {s : ByteArray} {k i : Nat} (h : i < s.size) (hf : firstF (s.extract i s.size) = none) : runF s k i = [] := by
  cases k with
  | zero => rfl
  | succ k => simp [runF, h, hf]

theorem runF_some {s l : ByteArray} {k i : Nat} (h : i < s.size) (hf : firstF (s.extract i s.size) = some l) (hk : s.size - i ≤ k) :
    ∃ k', runF s k i = (i + (4 + l.size), l) :: runF s k' (i + (4 + l.size)) ∧ s.size - (i + (4 + l.size)) ≤ k' := by
  cases k with
  | zero => omega
  | succ k => exact ⟨k, by simp [runF, h, hf], by omega⟩

theorem runF_end {s : ByteArray} {k i : Nat} (h : ¬ i < s.size) : runF s k i = [] := by
  cases k with
  | zero => rfl
  | succ k => simp [runF, h]

/-- The box B holds what it held. -/
def KeepBox (B : Nat) (W W' : World) : Prop := ∀ v, Boxed W B 9 v → Boxed W' B 9 v
theorem keepBox_t {Bn : Nat} {A B C : World} (h : KeepBox Bn A B) (k : KeepBox Bn B C) : KeepBox Bn A C := fun v hv => k v (h v hv)
theorem keepBox_b {Bn : Nat} {w : World} (W : World) (l : Nat) (o o' : Obj) (_ : w.heap.size ≤ l) (h : W.heap[l]? = some o) (hc : o.isCells = false) (_ : o.isWalk = false) : KeepBox Bn W (W.putObj l o') := fun v hv =>
  hv.kept (grownBy_putObj' W l o') (fun e => by cases e; rw [show W.heap[Bn]? = _ from hv] at h; cases h; cases hc)

theorem ownsRow_off {W : World} {B b₁ : Nat} {e : TypeId} {size k : Nat} {v : Value} {xs : List Value} (hlt : B < b₁) (hr : W.ownsRow b₁ e size v k xs) : some B ≠ v.ownBlock := by
  rcases hr.2 with ⟨rfl, _⟩ | ⟨g, cap, cur, rfl, hg, _, _⟩
  · simp [Value.ownBlock]
  · intro e'
    obtain rfl : B = g := by simpa [Value.ownBlock] using e'
    omega

theorem ownsRow_base {W : World} {b b₁ : Nat} {e : TypeId} {size k : Nat} {v : Value} {xs : List Value} (h : b ≤ b₁) (hr : W.ownsRow b₁ e size v k xs) : W.ownsRow b e size v k xs := by
  obtain ⟨h1, h2⟩ := hr
  refine ⟨h1, ?_⟩
  rcases h2 with h2 | ⟨g, cap, cur, hv, hg, rest⟩
  · exact .inl h2
  · exact .inr ⟨g, cap, cur, hv, by omega, rest⟩

theorem appended' {W w1 : World} {n₀ b₁ B : Nat} {t e : TypeId} {size : Nat} {v v' : Value} {k m : Nat} {xs ys : List Value} {tmp : Obj}
    (hv : Boxed W B t v) (hrow : W.ownsRow b₁ e size v k xs) (hn₀ : n₀ ≤ W.heap.size) (hb : n₀ ≤ b₁) (hB : n₀ ≤ B) (hB1 : B < b₁)
    (hown' : w1.ownsRow b₁ e size v' m ys) (hgrow : (W.alloc tmp).grownBy w1 v.ownBlock) :
    Boxed w1 B t v ∧ Boxed (w1.setCell ⟨B, 0, none⟩ v') B t v' ∧ (w1.setCell ⟨B, 0, none⟩ v').ownsRow b₁ e size v' m ys ∧ KeepsOthers W (w1.setCell ⟨B, 0, none⟩ v') ∧ Below n₀ W (w1.setCell ⟨B, 0, none⟩ v') := by
  have hv1 : Boxed w1 B t v := (hv.alloc tmp).kept hgrow (ownsRow_off hB1 hrow)
  refine ⟨hv1, hv1.set v', hown'.kept (grownBy_setCell' w1 B v') (.inr (ownsRow_off hB1 hown').symm), ?_, ?_⟩
  · refine ((KeepsOthers.alloc W tmp).trans (KeepsOthers.of_grownBy hgrow fun j o ej hj => ?_)).trans (KeepsOthers.setCell _ _ _)
    rcases (hrow.alloc tmp).2 with ⟨rfl, _⟩ | ⟨g, cap, cur, rfl, _, hgb, _⟩
    · simp [Value.ownBlock] at ej
    · obtain rfl : g = j := by simpa [Value.ownBlock] using ej
      rw [hgb] at hj; cases hj; rfl
  · refine (((Below.refl n₀ W).alloc hn₀ tmp).grown hgrow (by simp; omega) fun j ej => ?_).setCell (p := ⟨B, 0, none⟩) hB v'
    rcases hrow.2 with ⟨rfl, _⟩ | ⟨g, cap, cur, rfl, hg, _, _⟩
    · simp [Value.ownBlock] at ej
    · obtain rfl : g = j := by simpa [Value.ownBlock] using ej
      omega

set_option maxRecDepth 100000 in
set_option maxHeartbeats 1000000 in
theorem all1_in (n : Nat) (hn : 1 ≤ n) (l Bn : Nat) (s : ByteArray) (hs : s.size ≤ 140737488351232) (J Jx : List (Nat × ByteArray) → World → Prop)
    (hY : ∀ pre x W, J pre W → pre.length < s.size → YieldAt Fence.wide (n - 1) Try.prog l (encF x) W fun e W' =>
      (e = .returned (.bool true) ∧ J (pre ++ [x]) W' ∧ KeepBox Bn W W') ∨ (e = .returned (.bool false) ∧ Jx (pre ++ [x]) W'))
    (W : World) (hJ : AbidesFrom W.heap.size J) (hBn : Boxed W Bn 9 (.string s)) (h0 : J [] W) :
    CallsIn Fence.wide n Try.prog 20 #[.func (.yield l) #[] #[], .pointer (some ⟨Bn, 0, none⟩)] W fun e W' => (∃ v, e = .returned v) ∧
      ((∃ ys, ys = runF s s.size 0 ∧ J ys W') ∨ (∃ pre, pre <+: runF s s.size 0 ∧ Jx pre W')) := by
  refine callsIn_of_wp Try.func20 rfl trivial ?_ rfl
  simp only [Try.ntmps20, List.size_toArray, List.length_cons, List.length_nil, Nat.reduceAdd, Nat.reduceSub, Array.replicate_succ, Array.replicate_zero, List.push_toArray, List.append_toArray, List.nil_append, List.cons_append]
  gi_wp2
  gi_loopw [3] (fun p wr => ∃ (pre : List (Nat × ByteArray)) (i k : Nat), p = .int .i64 (i : Int) ∧ runF s s.size 0 = pre ++ runF s k i ∧ s.size - i ≤ k ∧ i ≤ s.size ∧ pre.length * 4 ≤ i ∧ Hid (Boxed wr Bn 9 (.string s)) ∧ J pre wr)
    (fun p wr => s.size - (intOf p).toNat)
  case atStart =>
    exact ⟨[], 0, s.size, rfl, rfl, by omega, by omega, by simp, hBn, h0⟩
  case round =>
    obtain ⟨pre, i, k, rfl, hx, hk, hi, hp, hbx, hJs⟩ := hrel
    have hc := hbx.out.cell
    by_cases hlt2 : i < s.size
    · have hsz : (s.extract i s.size).size = s.size - i := by simp only [ByteArray.size_extract]; omega
      cases hf : firstF (s.extract i s.size) with
      | none =>
        have hfin := runF_none (k := k) hlt2 hf
        rw [hfin] at hx
        have HX := Lib.hid hx
        clear hx hfin
        have HF := Lib.hid hf
        clear hf hsz
        gi_wp2_with (refine ⟨trivial, ?_⟩; gi_at_call 12; refine (callsIn_wide.2 (first_none _ _ (by simp only [ByteArray.size_extract]; omega) HF.out)).mono ?_; rintro e w' ⟨rfl, rfl⟩)
        refine bodyPost_ret (results_none rfl _ _ _) rfl ?_
        exact ⟨⟨_, rfl⟩, .inl ⟨pre, by rw [HX.out]; simp, hJs⟩⟩
      | some ld =>
        obtain ⟨k', hr, hk'⟩ := runF_some (k := k) hlt2 hf hk
        obtain ⟨hl1, hl2⟩ := firstF_size hf
        rw [hr] at hx
        have HX := Lib.hid hx
        have HF := Lib.hid hf
        clear hf hsz hx hr hk
        have hb1 : i + (4 + ld.size) ≤ s.size := by simp only [ByteArray.size_extract] at hl1; omega
        gi_wp2_with (refine ⟨trivial, ?_⟩; gi_at_call 12; refine (callsIn_wide.2 (first_some _ ld _ (by simp only [ByteArray.size_extract]; omega) HF.out)).mono ?_; rintro e w' ⟨rfl, hb⟩; have hJ1 : J pre w' := hJ pre wr w' none hJs (below_grown hb) (by simp); obtain ⟨fn, tmps, assign, body, hy, hR⟩ := hY pre (i + (4 + ld.size), ld) w' hJ1 (by omega); simp only [encF, Int.natCast_add, Int.cast_ofNat_Int] at hy; have hb' : Hid (Boxed w' Bn 9 (.string s)) := (hb.block Bn hbx.out.lt).trans hbx.out; have hc' := hb'.out.cell)
        refine hR.mono ?_
        rintro e W3 (⟨rfl, hJ3, hk3⟩ | ⟨rfl, hJx3⟩)
        · have hb3 : Hid (Boxed W3 Bn 9 (.string s)) := hk3 _ hb'.out
          gi_wp2
          go_roundw
          case rel => exact ⟨pre ++ [(i + (4 + ld.size), ld)], i + (4 + ld.size), k', by go_num, by rw [HX.out]; simp, hk', hb1, by simp; omega, hb3, hJ3⟩
          case measure => simp [intOf]; omega
        · gi_wp2
          refine bodyPost_ret (results_none rfl _ _ _) rfl ?_
          exact ⟨⟨_, rfl⟩, .inr ⟨pre ++ [(i + (4 + ld.size), ld)], ⟨runF s k' (i + (4 + ld.size)), by rw [HX.out]; simp⟩, hJx3⟩⟩
    · rw [runF_end hlt2] at hx
      have HX := Lib.hid hx
      clear hx
      gi_wp2
      go_end0
      exact ⟨⟨_, rfl⟩, .inl ⟨pre, by rw [HX.out]; simp, hJs⟩⟩

theorem all_in (n : Nat) (s : ByteArray) (w : World) :
    CallsIn Fence.wide n Try.prog 19 #[.string s] w fun e w' => e = .returned (.func (.func 20) #[] #[.pointer (some ⟨w.heap.size, 0, none⟩)]) ∧ w' = w.alloc (.cells #[.string s] 9) := by
  refine callsIn_of_wp Try.func19 rfl trivial ?_ rfl
  simp only [Try.ntmps19, List.size_toArray, List.length_cons, List.length_nil, Nat.reduceAdd, Nat.reduceSub, Array.replicate_succ, Array.replicate_zero, List.push_toArray, List.append_toArray, List.nil_append, List.cons_append]
  gi_wp2
  go_ret
  exact ⟨rfl, rfl⟩

theorem all_stops (n : Nat) (hn : 1 ≤ n) (Bn : Nat) (s : ByteArray) (hs : s.size ≤ 140737488351232) (w : World) (hc : Boxed w Bn 9 (.string s)) :
    SeqStopsK Fence.wide n Try.prog 20 #[.pointer (some ⟨Bn, 0, none⟩)] encF (KeepBox Bn) (fun ys => ys = runF s s.size 0) (fun pre => pre <+: runF s s.size 0) s.size w := fun l J Jx W hW hJ _ hY h0 =>
  all1_in n hn l Bn s hs J Jx hY W hJ ((hW.block Bn hc.lt).trans hc) h0

/-- How far the frames reach. -/
def lastF (l : List (Nat × ByteArray)) : Nat := (l.getLast?.map (·.1)).getD 0
theorem lastF_snoc (l : List (Nat × ByteArray)) (x : Nat × ByteArray) : lastF (l ++ [x]) = x.1 := by simp [lastF]

theorem grownBy_drew' (w : World) : w.grownBy w.drew none := ⟨rfl, rfl, rfl, Nat.le_refl _, fun _ _ _ => rfl⟩

theorem runF_le {s : ByteArray} : ∀ (k i : Nat), ∀ p ∈ runF s k i, p.1 ≤ s.size
  | 0, _, p, h => by simp [runF] at h
  | k + 1, i, p, h => by
    unfold runF at h
    split at h
    · split at h
      · simp at h
      · rename_i l hf
        have := (firstF_size hf).1
        simp only [ByteArray.size_extract] at this
        rcases List.mem_cons.1 h with rfl | h
        · show i + (4 + l.size) ≤ s.size
          omega
        · exact runF_le _ _ p h
    · simp at h

theorem lastF_le (s : ByteArray) (k i : Nat) : lastF (runF s k i) ≤ s.size := by
  unfold lastF
  cases h : (runF s k i).getLast? with
  | none => simp
  | some p => exact runF_le k i p (List.mem_of_getLast? h)

theorem info9 : (Try.prog.info? 9).map (fun i => (i.zero, i.size, i.bytes)) = some (some (.string ByteArray.empty), 1, 16) := by kernel_rfl
theorem und23 : Try.prog.underlying 23 = some (.slice 9) := by kernel_rfl

set_option maxRecDepth 100000 in
set_option maxHeartbeats 2000000 in
theorem All_in (n : Nat) (hn : 3 ≤ n) (s : ByteArray) (hs : s.size ≤ 4294967296) (w : World) :
    CallsIn Fence.wide n Try.prog 8 #[.string s] w fun e W' => ∃ v, e = .returned (.tuple #[v, .int .i64 ((s.size : Int) - lastF (runF s s.size 0))]) ∧
      W'.ownsRow w.heap.size 9 1 v (runF s s.size 0).length ((runF s s.size 0).map fun p => .string p.2) ∧ Below w.heap.size w W' := by
  have h1 : 1 ≤ n := by omega
  obtain ⟨i0, hi, hz0, hz1, hz2⟩ := info_parts info9
  refine callsIn_of_wp_marks Try.func8 rfl trivial ?_ rfl
  simp only [Try.ntmps8, List.size_toArray, List.length_cons, List.length_nil, Nat.reduceAdd, Nat.reduceSub, Array.replicate_succ, Array.replicate_zero, List.push_toArray, List.append_toArray, List.nil_append, List.cons_append]
  gi_wp2_with (refine ⟨trivial, ?_⟩; gi_at_call 19; refine (all_in (n - 1) _ _).mono ?_; rintro e w' ⟨rfl, rfl⟩)
  have bO := Boxed.new w 23 (.slice none 0 0)
  have bE := Boxed.new (w.alloc (.cells #[.slice none 0 0] 23)) 3 (.int .i64 0)
  have bN := Boxed.new ((w.alloc (.cells #[.slice none 0 0] 23)).alloc (.cells #[.int .i64 0] 3)) 9 (.string s)
  rw [World.size_alloc] at bE bN
  rw [World.size_alloc] at bN
  have hB0 : Below w.heap.size w (((w.alloc (.cells #[.slice none 0 0] 23)).alloc (.cells #[.int .i64 0] 3)).alloc (.cells #[.string s] 9)) := (((Below.refl _ w).alloc (Nat.le_refl _) _).alloc (by simp) _).alloc (by simp; omega) _
  refine wpIn_rangeFunc_ownG rfl h1 (gf := 20) (lb := #[.pointer (some ⟨w.heap.size + 1 + 1, 0, none⟩)]) rfl trivial (enters_of Try.func20 (by kernel_rfl) rfl)
    (all_stops (n - 1) (by omega) (w.heap.size + 1 + 1) s (by omega) _ bN) keepBox_t keepBox_b (Below.refl _ _) (fun _ => rfl)
    (fun pre W => (∃ v, Boxed W w.heap.size 23 v ∧ W.ownsRow (w.heap.size + 3) 9 1 v pre.length (pre.map fun p => .string p.2) ∧ True) ∧ Boxed W (w.heap.size + 1) 3 (.int .i64 (lastF pre)) ∧ Below w.heap.size w W ∧ w.heap.size + 3 ≤ W.heap.size)
    (fun _ _ _ => False)
    (OwnFrom.and (Own.from (holdsRow_own (w.heap.size + 3) w.heap.size 23 9 1 (fun pre : List (Nat × ByteArray) => pre.length) (fun pre => pre.map fun p => .string p.2) (fun _ _ => True)) _) (OwnFrom.and (Own.from (boxed_own (w.heap.size + 1) 3 fun pre => .int .i64 (lastF pre)) _) (OwnFrom.and (ownFrom_below (Nat.le_refl _) (by simp; omega)) (fun _ _ _ _ hs hg _ => Nat.le_trans hs hg.size))))
    (fun _ _ _ _ _ hs _ _ => hs)
    ⟨⟨_, (bO.alloc _).alloc _, World.ownsRow_nil _ _ _ _, trivial⟩, bE.alloc _, hB0, by simp⟩
    (fun x => { tmps := #[.string s, undef, .pointer (some ⟨w.heap.size, 0, none⟩), .int .i64 0, .pointer (some ⟨w.heap.size + 1, 0, none⟩), .int .i64 x.1, .string x.2, .string s, .func (.func 20) #[] #[.pointer (some ⟨w.heap.size + 1 + 1, 0, none⟩)], .int .i64 x.1, .string x.2, undef, undef, undef, undef, undef, undef, undef, undef, undef, undef], defers := [] }) ?assign ?body ?done ?stop
  case assign =>
    intro l x W K hK
    gi_wp2
    exact hK
  case body =>
    rintro l pre x W ⟨⟨v, hv, hrow, _⟩, hE, hB, hsz⟩ hlt
    have hc := hv.cell
    gi_wp2_with (gi_at_builtin; refine wpListIn_append_own _ rfl _ _ 23 rfl (w.heap.size + 3) 9 i0 (.string ByteArray.empty) 1 16 und23 hi hz0 hz1 hz2 rfl (by decide) _ _ _ rfl (hrow.alloc _) ⟨W.heap.size, 0, none⟩ 1 1 [.string x.2] rfl rfl (cell_one_new _ _ _) (by simp [Value.oneCell']) (by unfold maxLen; omega) (by omega) (by simp; omega) ?_; intro v' w1 hown' hgrow _; obtain ⟨g', cap', rfl⟩ := ownsRow_succ hown'; obtain ⟨hv1, hv2, hr2, hk2, hb2⟩ := appended' (n₀ := w.heap.size) hv hrow (by omega) (by omega) (by omega) (by omega) hown' hgrow; have hc1 := hv1.cell; have hf1 := hv1.frozen; have hE2 := ((hE.alloc _).kept hgrow (ownsRow_off (by omega) hrow)).other (B' := w.heap.size) (by omega) (.slice (some ⟨g', 0, none⟩) (pre.length + 1) cap'); have hc2 := hE2.cell; have hf2 := hE2.frozen)
    refine ⟨(hk2.trans (KeepsOthers.setCell _ _ _)).from _, ?_, ⟨⟨_, hv2.other (by omega) _, ?_, trivial⟩, ?_, hB.trans (hb2.setCell (p := ⟨w.heap.size + 1, 0, none⟩) (by simp) _), ?_⟩⟩
    · intro u hu
      exact (((hu.alloc _).kept hgrow (ownsRow_off (by omega) hrow)).other (by omega) _).other (by omega) _
    · have := hr2.kept (grownBy_setCell' _ (w.heap.size + 1) (.int .i64 x.1)) (.inr (ownsRow_off (by omega) hr2).symm)
      simpa using this
    · rw [lastF_snoc]
      exact hE2.set _
    · have := hb2.size
      simp [World.setCell] at this ⊢
      omega
  case done =>
    rintro D ys W hD rfl ⟨⟨v, hv, hrow, _⟩, hE, hB, _⟩ hK
    have hle := lastF_le s s.size 0
    obtain ⟨tt, htt⟩ : ∃ tt, lastF (runF s s.size 0) = tt := ⟨_, rfl⟩
    rw [htt] at hle hE
    have HT := Lib.hid htt
    clear htt
    obtain ⟨a, len, cap, rfl⟩ : ∃ a len cap, v = .slice a len cap := by
      rcases hrow.2 with ⟨rfl, _⟩ | ⟨g, cap, cur, rfl, _⟩
      · exact ⟨_, _, _, rfl⟩
      · exact ⟨_, _, _, rfl⟩
    have hc := hv.cell
    have hf := hv.frozen
    have hc2 := hE.cell
    gi_wp2
    gi_region
    gi_wp2
    have hv2 := (hv.set (.slice a len cap)).kept (grownBy_drew' _) (by simp)
    have hK2 : (W.setCell ⟨w.heap.size, 0, none⟩ (.slice a len cap)).drew.heap[D]? = some (.deferred (some [])) := (KeepsOthers.setCell W ⟨w.heap.size, 0, none⟩ (.slice a len cap)).same D _ hK rfl
    refine ⟨by simp, .inl ⟨_, _, rfl, run_takeDeferred hK2, ?_⟩⟩
    have hc5 := cell_kept hv2.cell (grownBy_putObj' _ D (.deferred none)) (fun r e => by cases e; exact ⟨_, hK2, rfl⟩)
    refine ⟨.tuple #[.slice a len cap, .int .i64 ((s.size : Int) - tt)], ?_, _, by rw [HT.out], ?_, ?_⟩
    · simp [results, Try.f8, go_sem, hc5]
    · have r1 := hrow.kept (grownBy_setCell' W w.heap.size (.slice a len cap)) (.inr (ownsRow_off (by omega) hrow).symm)
      have r2 := r1.kept (grownBy_drew' _) (by cases a with | none => exact .inl rfl | some q => exact .inr (by simp [Value.ownBlock]))
      exact ownsRow_base (by omega) (ownsRow_putObj r2 _ hK2 rfl)
    · exact (hB.setCell (p := ⟨w.heap.size, 0, none⟩) (Nat.le_refl _) _).drew.trans (belowK_b (w := w) (Nat.le_refl _) _ D _ _ (by simp at hD; omega) hK2 rfl rfl)
  case stop =>
    rintro D c pre W _ _ h _
    exact h.elim
end Go.Proofs.Ytnngjgiclckigaa
