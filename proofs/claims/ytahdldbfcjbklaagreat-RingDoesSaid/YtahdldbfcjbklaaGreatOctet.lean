/- octet: the program's bytes, High, FromHigh. -/
import Derived.Test.YtahdldbfcjbklaaGreatRows
import Derived.Test.YtahdldbfcjbklaaGreatBase
import Derived.BigRegion
namespace Go.Proofs.YtahdldbfcjbklaaGreat
open Go.RowKit
set_option maxHeartbeats 400000 in
theorem need_any (n : Nat) (hn : n < 18446744073709551616) (w : World) :
    Calls Tryz.prog 75 #[.int .u64 n] w fun e w' => e = .returned (.int .i64 (need n)) ∧ w = w' := by
  have hb : need n ≤ 8 := need_le 8 n (by simpa using hn)
  go_enter Tryz.func75, Tryz.ntmps75
  go_wp2
  go_loop [0, 3] (fun n' k => ∃ m j : Nat, n' = .int .u64 m ∧ k = .int .i64 j ∧ m < 18446744073709551616 ∧ j + need m = need n ∧ j ≤ 8) (fun n' _ => (intOf n').toNat)
  case atStart => exact ⟨n, 0, rfl, rfl, hn, by omega, by omega⟩
  case round =>
    obtain ⟨m, j, rfl, rfl, hm, hj, hj8⟩ := hrel
    have HJ := Lib.hid hj; clear hj
    by_cases h0 : 0 < m
    · go_wp2
      go_round
      case rel =>
        have h := HJ.out
        rw [need_pos (by omega)] at h
        exact ⟨m / 256, j + 1, by go_num, by go_num, by omega, by omega, by omega⟩
      case measure => simp [intOf]; omega
    · go_wp2
      go_ret
      have h := HJ.out
      obtain rfl : m = 0 := by omega
      simp [need] at h
      exact ⟨by subst h; rfl, rfl⟩

theorem Tryz.infoByte : (Tryz.prog.info? 5).map (fun i => (i.zero, i.size, i.bytes)) = some (some (.int .u8 0), 1, 1) := by kernel_rfl


/-- string(b), b a slice of bytes whose cells are known. -/
theorem Tryz.conv_bytes (w : World) (g cap : Nat) (l r : List UInt8) (T : TypeId) (fr : Nat × Nat) (h : w.heap[g]? = some (.cells ((l ++ r).map vb).toArray T fr)) :
    (convert 121 9 (.slice (some ⟨g, 0, none⟩) l.length cap)).run Tryz.prog w = .ok (vs l) w := by
  have := run_convert_bytes_arg (P := Tryz.prog) w 121 5 Tryz.underlying121 Tryz.underlying5 g 0 l.length cap (l.map fun b => (b.toNat : Int)) (by simp) (fun i hi => by
    rw [cell_of_row w g (0 + i) _ _ _ h]
    rw [Nat.zero_add, List.getElem?_toArray, List.getElem?_map, List.getElem?_append_left hi]
    simp [List.getElem?_eq_getElem hi, vb]) 9 Tryz.underlying9
  rw [this]
  have e : (l.map fun b => (b.toNat : Int)).map (fun n => UInt8.ofNat n.toNat) = l := by
    rw [List.map_map]
    exact (List.map_congr_left (g := id) fun b _ => by simp).trans (List.map_id l)
  simp only [strOfNums, vs, e]

/-- string(b), b an owned slice of bytes. -/
theorem Tryz.conv_own (w : World) (base : Nat) (v : Value) (n : Nat) (l : List UInt8) (h : w.ownsRow base 5 1 v n (l.map vb)) :
    (convert 121 9 v).run Tryz.prog w = .ok (vs l) w := by
  obtain ⟨hl, h | ⟨g, cap, cur, rfl, _, hg, hn, _, hs, ht⟩⟩ := h
  · obtain ⟨rfl, rfl⟩ := h
    have : l = [] := by simpa using hl
    subst this
    exact run_convert_bytes_nil (P := Tryz.prog) w 121 5 Tryz.underlying121 Tryz.underlying5 0 0 9 Tryz.underlying9
  · simp only [List.length_map, Nat.mul_one] at hl ht hs
    subst hl
    have := run_convert_bytes_arg (P := Tryz.prog) w 121 5 Tryz.underlying121 Tryz.underlying5 g 0 l.length cap (l.map fun b => (b.toNat : Int)) (by simp) (fun i hi => by
      rw [cell_of_row w g (0 + i) _ _ _ hg]
      have h1 : (cur.toList.take l.length)[i]? = (l.map vb)[i]? := by rw [ht]
      rw [List.getElem?_take_of_lt hi] at h1
      rw [Nat.zero_add, ← Array.getElem?_toList, h1, List.getElem?_map]
      simp [List.getElem?_eq_getElem hi, vb]) 9 Tryz.underlying9
    rw [this]
    have e : (l.map fun b => (b.toNat : Int)).map (fun n => UInt8.ofNat n.toNat) = l := by
      rw [List.map_map]
      exact (List.map_congr_left (g := id) fun b _ => by simp).trans (List.map_id l)
    simp only [strOfNums, vs, e]
theorem Tryz.bytesT : ElemT Tryz.prog 121 5 (.int .u8 0) 1 1 := ⟨Tryz.underlying121, Tryz.infoByte, rfl, by decide⟩

theorem Tryz.make_bytes (k : Nat) (hk : k ≤ 1000000) (w : World) : (Instr.makeSlice 121 (.int .i64 (k : Int)) (.int .i64 (k : Int))).run Tryz.prog w =
    .ok (.slice (some ⟨w.heap.size, 0, none⟩) k k) (w.alloc (.cells (List.replicate k (Value.int .u8 0)).toArray 5)) := by
  obtain ⟨i, hi, hz, hs, hb⟩ := info_parts Tryz.infoByte
  have h := run_make (P := Tryz.prog) w 121 5 i (.int .u8 0) Tryz.underlying121 hi hz .i64 .i64 k k (by omega) (by omega) (by rw [hb]; omega) (by omega)
  rw [h]
  simp only [Int.toNat_natCast, hs, Nat.mul_one, Value.cells]
  rw [show madeCells #[Value.int .u8 0] k = (List.replicate k (Value.int .u8 0)).toArray from by rw [← toList_madeCells_one]]

set_option maxRecDepth 100000 in
set_option maxHeartbeats 400000 in
theorem bytes_any (x : Nat) (k : Nat) (hk : k ≤ 64) (w : World) :
    Calls Tryz.prog 90 #[.int .u64 x, .int .i64 k] w fun e w' => e = .returned (.slice (some ⟨w.heap.size, 0, none⟩) k k) ∧
      w'.heap[w.heap.size]? = some (.cells ((lowB x k).map vb).toArray 5 (0, 0)) ∧ Below w.heap.size w w' := by
  have hmk := fun w => Tryz.make_bytes k (by omega) w
  have hmax : (if (0 : Int) > (k : Int) then (0 : Int) else k) = k := by rw [if_neg (by omega)]
  have hmin : (if (64 : Int) < (k : Int) then (64 : Int) else k) = k := by rw [if_neg (by omega)]
  go_enter Tryz.func90, Tryz.ntmps90
  go_wp2
  clear hmk hmax hmin
  go_loopw [0, 13] (fun x' i wr => ∃ j : Nat, j ≤ k ∧ x' = .int .u64 (x / 256 ^ j : Nat) ∧ i = .int .i64 j ∧
      wr.heap[w.heap.size]? = some (.cells ((lowB x j).map vb ++ List.replicate (k - j) (Value.int .u8 0)).toArray 5 (0, 0)) ∧ Below w.heap.size w wr) (fun _ i _ => k - (intOf i).toNat)
  case atStart => exact ⟨0, Nat.zero_le _, by simp, rfl, by simp only [lowB, List.range_zero, List.map_nil, List.nil_append, Nat.sub_zero]; exact heap_alloc_new w _, (Below.refl _ _).alloc (Nat.le_refl _) _⟩
  case round =>
    obtain ⟨j, hj, rfl, rfl, hh, hb⟩ := hrel
    by_cases hlt : j < k
    · have hc := cell_of_row wr w.heap.size j _ _ _ hh
      have hf := frozen_of_row wr w.heap.size j _ _ hh
      have hc' : wr.cell? ⟨w.heap.size, j, none⟩ = some (.int .u8 0) := by
        rw [hc]
        have h0 : 0 < k - j := by omega
        simp [List.getElem?_append, lowB_length, List.getElem?_replicate, h0]
      clear hc
      have HH := Lib.hid hh; clear hh
      go_wp2
      go_roundw
      case rel =>
        refine ⟨j + 1, by omega, ?_, by go_num, ?_, hb.setCell (Nat.le_refl _) _⟩
        · rw [Nat.pow_succ, ← Nat.div_div_eq_div_mul]; go_num
        · rw [heap_setCell_same _ _ _ _ _ _ HH.out]
          congr 3
          rw [List.setIfInBounds_toArray]
          congr 1
          rw [lowB_succ, List.set_append, if_neg (by simp [lowB_length])]
          have e : k - j = (k - (j + 1)) + 1 := by omega
          rw [e, List.replicate_succ]
          simp [lowB_length, vb]
      case measure => simp [intOf]; omega
    · obtain rfl : j = k := by omega
      go_wp2
      go_ret
      exact ⟨rfl, by simpa using hh, hb⟩

/-- what an exchange from both ends has come to behind i rounds -/
def Swapped (L cs : List UInt8) (k i : Nat) : Prop := cs.length = k ∧ ∀ p, p < k → cs[p]? = if p < i ∨ k - i ≤ p then L[k - 1 - p]? else L[p]?
theorem Swapped.start (L : List UInt8) (k : Nat) (h : L.length = k) : Swapped L L k 0 := ⟨h, fun p hp => by rw [if_neg (by omega)]⟩
theorem Swapped.step {L cs : List UInt8} {k i : Nat} (h : Swapped L cs k i) (hL : L.length = k) (hi : i < k / 2) (x y : UInt8) (hx : cs[i]? = some x) (hy : cs[k - 1 - i]? = some y) :
    Swapped L ((cs.set i y).set (k - 1 - i) x) k (i + 1) := by
  refine ⟨by simp [h.1], fun p hp => ?_⟩
  have h1 := h.2 i (by omega)
  have h2 := h.2 (k - 1 - i) (by omega)
  rw [if_neg (by omega), hx] at h1
  rw [if_neg (by omega), hy] at h2
  have hl := h.1
  by_cases e1 : p = k - 1 - i
  · subst e1
    rw [List.getElem?_set_self (by simp; omega), if_pos (by omega), h1]
    congr 1; omega
  · rw [List.getElem?_set_ne (by omega)]
    by_cases e2 : p = i
    · subst e2
      rw [List.getElem?_set_self (by omega), if_pos (by omega), h2]
    · rw [List.getElem?_set_ne (by omega), h.2 p hp]
      by_cases e3 : p < i ∨ k - i ≤ p
      · rw [if_pos e3, if_pos (by omega)]
      · rw [if_neg e3, if_neg (by omega)]
theorem Swapped.all {L cs : List UInt8} {k : Nat} (h : Swapped L cs k (k / 2)) (hL : L.length = k) : cs = L.reverse := by
  apply List.ext_getElem?
  intro p
  have hl := h.1
  by_cases hp : p < k
  · rw [h.2 p hp, List.getElem?_reverse (by omega)]
    by_cases e : p < k / 2 ∨ k - k / 2 ≤ p
    · rw [if_pos e]; congr 1; omega
    · rw [if_neg e]; congr 1; omega
  · rw [List.getElem?_eq_none (by omega), List.getElem?_eq_none (by simp; omega)]

set_option maxRecDepth 100000 in
set_option maxHeartbeats 400000 in
theorem high_any (x : Nat) (k : Nat) (hk : k ≤ 64) (w : World) :
    Calls Tryz.prog 76 #[.int .u64 x, .int .i64 k] w fun e w' => e = .returned (vs (highB x k)) ∧ Below w.heap.size w w' := by
  go_enter Tryz.func76, Tryz.ntmps76
  go_wp2_with (go_at_call 90; refine (bytes_any x k hk _).mono ?_; rintro e w1 ⟨rfl, hh1, hb1⟩)
  have HX := Lib.hid hh1; clear hh1
  go_loopw [13] (fun i wr => ∃ (j : Nat) (cs : List UInt8), j ≤ k / 2 ∧ i = .int .i64 j ∧ Swapped (lowB x k) cs k j ∧
      wr.heap[w.heap.size]? = some (.cells (cs.map vb).toArray 5 (0, 0)) ∧ Below w.heap.size w wr) (fun i _ => k - (intOf i).toNat)
  case atStart => exact ⟨0, lowB x k, Nat.zero_le _, rfl, Swapped.start _ _ (lowB_length _ _), HX.out, hb1⟩
  case round =>
    obtain ⟨j, cs, hj, rfl, hsw, hh, hb⟩ := hrel
    by_cases hlt : j < k / 2
    · have hl := hsw.1
      obtain ⟨x0, hx0⟩ : ∃ x0, cs[j]? = some x0 := ⟨_, List.getElem?_eq_getElem (by omega)⟩
      obtain ⟨y0, hy0⟩ : ∃ y0, cs[k - 1 - j]? = some y0 := ⟨_, List.getElem?_eq_getElem (by omega)⟩
      have hc1 := cell_of_row wr w.heap.size j _ _ _ hh
      have hc2 := cell_of_row wr w.heap.size (k - 1 - j) _ _ _ hh
      have hf1 := frozen_of_row wr w.heap.size j _ _ hh
      have hf2 := frozen_of_row wr w.heap.size (k - 1 - j) _ _ hh
      simp only [List.getElem?_toArray, List.getElem?_map, hx0, Option.map_some, vb_def] at hc1
      simp only [List.getElem?_toArray, List.getElem?_map, hy0, Option.map_some, vb_def] at hc2
      have ht : ((k : Int) - 1 - j).toNat = k - 1 - j := by omega
      have hge : (0 : Int) ≤ (k : Int) - 1 - j := by omega
      have hne : ¬ j = k - 1 - j := by omega
      have hne' : ¬ k - 1 - j = j := by omega
      have HS := Lib.hid (hsw.step (lowB_length _ _) hlt x0 y0 hx0 hy0)
      have HH := Lib.hid hh
      clear hsw hh hx0 hy0 hl
      go_wp2
      go_region
      all_goals go_wp2
      all_goals go_roundw
      case rel =>
        refine ⟨j + 1, _, by omega, by go_num, HS.out, ?_, ((hb.setCell (Nat.le_refl _) _).setCell (Nat.le_refl _) _).drew⟩
        rw [heap_drew, heap_setCell_same _ _ _ _ _ _ (heap_setCell_same _ _ _ _ _ _ HH.out)]
        simp [vb]
      case measure => simp [intOf]; omega
    · obtain rfl : j = k / 2 := by omega
      have e := hsw.all (lowB_length _ _)
      have hcv := Tryz.conv_bytes wr w.heap.size k cs [] _ _ (by rw [List.append_nil]; exact hh)
      rw [hsw.1, e] at hcv
      clear hh e
      go_wp2
      go_ret
      exact ⟨rfl, hb⟩
set_option maxRecDepth 100000 in
set_option maxHeartbeats 400000 in
theorem fromHigh_any (s : List UInt8) (hs : s.length ≤ 8) (w : World) :
    Calls Tryz.prog 83 #[vs s] w fun e w' => e = .returned (.tuple #[.int .u64 (num s), .int .i64 0]) ∧ w = w' := by
  unfold vs
  go_enter Tryz.func83, Tryz.ntmps83
  go_wp2
  go_loop [4, 11] (fun x i => ∃ j : Nat, j ≤ s.length ∧ i = .int .i64 j ∧ x = .int .u64 (num (s.take j) : Nat)) (fun _ i => 10 - (intOf i).toNat)
  case atStart => exact ⟨0, Nat.zero_le _, rfl, rfl⟩
  case round =>
    obtain ⟨j, hj, rfl, rfl⟩ := hrel
    by_cases hlt : j < s.length
    · have HN := Lib.hid (num_take_succ s j _ (List.getElem?_eq_getElem hlt))
      have hb := num_take_lt s j (by omega)
      go_wp2
      go_round
      case rel =>
        refine ⟨j + 1, by omega, by go_num, ?_⟩
        rw [HN.out, or_byte _ _ hb]
      case measure => simp [intOf]; omega
    · obtain rfl : j = s.length := by omega
      go_wp2
      go_ret2
      exact ⟨by simp, rfl⟩
end Go.Proofs.YtahdldbfcjbklaaGreat
