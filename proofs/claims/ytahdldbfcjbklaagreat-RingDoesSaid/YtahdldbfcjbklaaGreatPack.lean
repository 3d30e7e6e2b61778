/- pack: Num, Text, of the program and of the reference. -/
import Derived.Test.YtahdldbfcjbklaaGreatOctetR
import Derived.Deep.RegionWith
namespace Go.Proofs.YtahdldbfcjbklaaGreat
open Go.RowKit
/-- a number's bytes -/
def numB (n : Nat) : List UInt8 := UInt8.ofNat (need n) :: highB n (need n)
/-- a text's bytes -/
def textB (s : List UInt8) : List UInt8 := numB s.length ++ s
@[go_sem] theorem numB_length (n : Nat) : (numB n).length = need n + 1 := by simp [numB, highB_length]

theorem Tryz.conv_one (k : Nat) (hk : k ≤ 8) (w : World) (g : Nat) (h : w.heap[g]? = some (.cells #[.int .u8 (IntKind.u8.wrap (k : Int))] 5 (0, 0))) :
    (convert 121 9 (.slice (some ⟨g, 0, none⟩) 1 1)).run Tryz.prog w = .ok (vs [UInt8.ofNat k]) w := by
  refine Tryz.conv_bytes w g 1 [UInt8.ofNat k] [] 5 (0, 0) ?_
  rw [h, List.append_nil, List.map_singleton, vb_ofNat, IntKind.wrap_u8]

theorem heap_new (w : World) (o : Obj) : (w.alloc o).heap[w.heap.size]? = some o := heap_alloc_new w o
theorem heap_new_drew (w : World) (o : Obj) : (w.alloc o).drew.heap[w.heap.size]? = some o := heap_alloc_new w o

set_option maxRecDepth 100000 in
set_option maxHeartbeats 400000 in
theorem num_any (n : Nat) (hn : n < 18446744073709551616) (w : World) :
    Calls Tryz.prog 51 #[.int .u64 n] w fun e w' => e = .returned (vs (numB n)) ∧ Below w.heap.size w w' := by
  have h8 : need n ≤ 8 := need_le 8 n (by simpa using hn)
  have hcv1 := fun (w : World) => Tryz.conv_one (need n) h8 (w.alloc (.cells #[.int .u8 (IntKind.u8.wrap (need n : Int))] 5)).drew w.heap.size (heap_new_drew w _)
  have hcv2 := fun (w : World) => Tryz.conv_one (need n) h8 (w.alloc (.cells #[.int .u8 (IntKind.u8.wrap (need n : Int))] 5)) w.heap.size (heap_new w _)
  go_enter Tryz.func51, Tryz.ntmps51
  go_wp2_with (go_at_call 75; refine (need_any n hn _).mono ?_; rintro e w1 ⟨rfl, rfl⟩)
  go_region_with (go_at_call 76; refine (high_any n _ (by omega) _).mono ?_; rintro e w1 ⟨rfl, hb1⟩; (try have hcv3 := Tryz.conv_one (need n) h8 w1 w.heap.size ((hb1.block w.heap.size (by simp)).trans (heap_new_drew w _))))
  all_goals go_wp2
  all_goals go_ret
  · exact ⟨rfl, below_ac hb1⟩
  · exact ⟨rfl, below_ac hb1⟩
  · exact ⟨rfl, below_ca hb1⟩

set_option maxHeartbeats 400000 in
theorem text_any (s : List UInt8) (hs : s.length ≤ 1000000000000) (w : World) :
    Calls Tryz.prog 50 #[vs s] w fun e w' => e = .returned (vs (textB s)) ∧ Below w.heap.size w w' := by
  have h8 : need s.length ≤ 8 := need_le 8 _ (by have : (256 : Nat) ^ 8 = 18446744073709551616 := rfl; omega)
  go_enter Tryz.func50, Tryz.ntmps50
  go_wp2_with (go_at_call 51; refine (num_any s.length (by omega) _).mono ?_; rintro e w1 ⟨rfl, hb1⟩)
  go_ret
  exact ⟨rfl, hb1⟩

theorem lt_need_iff (n k : Nat) : k < need n ↔ 0 < n / 256 ^ k := by
  rw [Nat.div_pos_iff]
  constructor
  · intro h
    refine ⟨Nat.pow_pos (by omega), ?_⟩
    rcases Nat.lt_or_ge n (256 ^ k) with h1 | h1
    · have := need_le k n h1; omega
    · exact h1
  · intro ⟨_, h⟩
    rcases Nat.lt_or_ge k (need n) with h1 | h1
    · exact h1
    · have := lt_need n
      have h3 : 256 ^ need n ≤ 256 ^ k := Nat.pow_le_pow_right (by omega) h1
      omega

theorem shr_cast (n j : Nat) : (n : Int) / 2 ^ (8 * j) = ((n / 256 ^ j : Nat) : Int) := by
  rw [show (256 : Nat) = 2 ^ 8 from rfl, ← Nat.pow_mul]; simp

set_option maxRecDepth 100000 in
set_option maxHeartbeats 400000 in
theorem r12_num (n : Nat) (hn : n < 18446744073709551616) (w : World) :
    Calls Tryz.prog 53 #[.int .u64 n] w fun e w' => e = .returned (vs (numB n)) ∧ Below w.heap.size w w' := by
  have h8 : need n ≤ 8 := need_le 8 n (by simpa using hn)
  have hcv1 := fun (w : World) => Tryz.conv_one (need n) h8 (w.alloc (.cells #[.int .u8 (IntKind.u8.wrap (need n : Int))] 5)).drew w.heap.size (heap_new_drew w _)
  have hcv2 := fun (w : World) => Tryz.conv_one (need n) h8 (w.alloc (.cells #[.int .u8 (IntKind.u8.wrap (need n : Int))] 5)) w.heap.size (heap_new w _)
  go_enter Tryz.func53, Tryz.ntmps53
  go_wp2_with fail
  go_loop [3] (fun k => ∃ j : Nat, j ≤ need n ∧ k = .int .i64 j) (fun k => 10 - (intOf k).toNat)
  case atStart => exact ⟨0, by omega, rfl⟩
  case round =>
    obtain ⟨j, hj, rfl⟩ := hrel
    have hi := lt_need_iff n j
    by_cases hlt : j < need n
    · have HI : (0 : Int) < (n : Int) / 2 ^ (8 * j) := by rw [shr_cast]; have := hi.1 hlt; omega
      have H8 : j < 8 := by omega
      clear hi
      go_wp2_with fail
      go_round
      case rel => exact ⟨j + 1, by omega, by go_num⟩
      case measure => simp [intOf]; omega
    · obtain rfl : j = need n := by omega
      have HI : (n : Int) / 2 ^ (8 * need n) ≤ 0 := by rw [shr_cast]; have := fun h => hlt (hi.2 h); omega
      clear hi hlt
      by_cases H8 : need n < 8
      all_goals
        go_wp2_with fail
        go_region_with (go_at_call 77; refine (r01_high n hn _ (by omega) _).mono ?_; rintro e w1 ⟨rfl, hb1⟩; (try have hcv3 := Tryz.conv_one (need n) h8 w1 w.heap.size ((hb1.block w.heap.size (by simp)).trans (heap_new_drew w _))))
        all_goals go_wp2
        all_goals go_ret
        · exact ⟨rfl, below_ac hb1⟩
        · exact ⟨rfl, below_ac hb1⟩
        · exact ⟨rfl, below_ca hb1⟩

set_option maxHeartbeats 400000 in
theorem r12_text (s : List UInt8) (hs : s.length ≤ 1000000000000) (w : World) :
    Calls Tryz.prog 52 #[vs s] w fun e w' => e = .returned (vs (textB s)) ∧ Below w.heap.size w w' := by
  have h8 : need s.length ≤ 8 := need_le 8 _ (by have : (256 : Nat) ^ 8 = 18446744073709551616 := rfl; omega)
  go_enter Tryz.func52, Tryz.ntmps52
  go_wp2_with (go_at_call 53; refine (r12_num s.length (by omega) _).mono ?_; rintro e w1 ⟨rfl, hb1⟩)
  go_ret
  exact ⟨rfl, hb1⟩
end Go.Proofs.YtahdldbfcjbklaaGreat
