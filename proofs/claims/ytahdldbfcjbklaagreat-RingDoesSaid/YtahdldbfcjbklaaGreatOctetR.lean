/- posthornref01: Low, Turned, High, FromHigh. -/
import Derived.Test.YtahdldbfcjbklaaGreatOctet
namespace Go.Proofs.YtahdldbfcjbklaaGreat
open Go.RowKit
set_option maxRecDepth 100000 in
set_option maxHeartbeats 400000 in
theorem r01_low (x : Nat) (hx : x < 18446744073709551616) (k : Nat) (hk : k ≤ 64) (w : World) :
    Calls Tryz.prog 92 #[.int .u64 x, .int .i64 k] w fun e w' => e = .returned (vs (lowB x k)) ∧ Below w.heap.size w w' := by
  go_enter Tryz.func92, Tryz.ntmps92
  go_wp2
  go_loopw [0, 5, 6] (fun x' v i wr => ∃ j y : Nat, j ≤ k ∧ x' = .int .u64 y ∧ y < 18446744073709551616 ∧ Hid (y = x / 256 ^ j) ∧ i = .int .i64 j ∧
      wr.ownsRow w.heap.size 5 1 v j ((lowB x j).map vb) ∧ Below w.heap.size w wr) (fun _ _ i _ => k - (intOf i).toNat)
  case atStart => exact ⟨0, x, Nat.zero_le _, rfl, hx, Lib.hid (by simp), rfl, World.ownsRow_made w #[] 0 (Nat.le_refl _) (by decide) (by decide), (Below.refl _ _).alloc (Nat.le_refl _) _⟩
  case round =>
    obtain ⟨j, y, hj, rfl, hy, HY, rfl, hown, hb⟩ := hrel
    by_cases hlt : j < k
    · have h64 : j < 64 := by omega
      have hsz := hb.size
      go_wp2_with (at_builtin; go_loud (refine wpList_app Tryz.bytesT rfl (.tmp 17) (.tmp 21) rfl w.heap.size _ j _ rfl (hown.alloc _) _ 1 1 [vb (UInt8.ofNat y)] (0, 0) rfl ?c1 rfl ?c2 ?c3 ?c4 ?c5 ?_); rotate_right; intro v' w1 hown' hgrow)
      case c1 =>
        rw [heap_alloc_new, vb_ofNat]
      case c2 => intro u hu; simp only [List.mem_singleton] at hu; subst hu; rfl
      case c3 => omega
      case c4 => omega
      case c5 => simp; omega
      have hb' := below_app (hb.alloc hsz _) (hown.alloc _) hgrow (by simp; omega)
      clear hown hb hgrow
      go_wp2
      go_roundw
      case rel =>
        refine ⟨j + 1, y / 256, by omega, by go_num, by omega, Lib.hid ?_, by go_num, ?_, hb'⟩
        · rw [HY.out, Nat.pow_succ, Nat.div_div_eq_div_mul]
        · rw [lowB_succ, List.map_append, ← HY.out]; exact hown'
      case measure => simp [intOf]; omega
    · obtain rfl : j = k := by omega
      have hcv := Tryz.conv_own wr _ _ _ _ hown
      go_wp2
      go_ret
      exact ⟨rfl, hb⟩

set_option maxRecDepth 100000 in
set_option maxHeartbeats 400000 in
theorem r01_turned (s : List UInt8) (hk : s.length ≤ 64) (w : World) :
    Calls Tryz.prog 91 #[vs s] w fun e w' => e = .returned (vs s.reverse) ∧ Below w.heap.size w w' := by
  unfold vs
  go_enter Tryz.func91, Tryz.ntmps91
  go_wp2
  go_loopw [3, 4] (fun v i wr => ∃ j : Nat, j ≤ s.length ∧ i = .int .i64 j ∧
      wr.ownsRow w.heap.size 5 1 v j ((s.reverse.take j).map vb) ∧ Below w.heap.size w wr) (fun _ i _ => s.length - (intOf i).toNat)
  case atStart => exact ⟨0, Nat.zero_le _, rfl, World.ownsRow_made w #[] 0 (Nat.le_refl _) (by decide) (by decide), (Below.refl _ _).alloc (Nat.le_refl _) _⟩
  case round =>
    obtain ⟨j, hj, rfl, hown, hb⟩ := hrel
    by_cases hlt : j < s.length
    · have hsz := hb.size
      have hge : (0 : Int) ≤ (s.length : Int) - 1 - j := by omega
      have ht : ((s.length : Int) - 1 - j).toNat = s.length - 1 - j := by omega
      go_wp2_with (at_builtin; go_loud (refine wpList_app Tryz.bytesT rfl (.tmp 12) (.tmp 20) rfl w.heap.size _ j _ rfl (hown.alloc _) _ 1 1 [vb (s[s.length - 1 - j]'(by omega))] (0, 0) rfl ?c1 rfl ?c2 ?c3 ?c4 ?c5 ?_); rotate_right; intro v' w1 hown' hgrow)
      case c1 => rw [heap_alloc_new]; rfl
      case c2 => intro u hu; simp only [List.mem_singleton] at hu; subst hu; rfl
      case c3 => omega
      case c4 => omega
      case c5 => simp; omega
      have hb' := below_app (hb.alloc hsz _) (hown.alloc _) hgrow (by simp; omega)
      clear hown hb hgrow
      go_wp2
      go_roundw
      case rel =>
        refine ⟨j + 1, by omega, by go_num, ?_, hb'⟩
        rw [List.take_add_one, List.getElem?_reverse (by omega), List.getElem?_eq_getElem (by omega)]
        simpa using hown'
      case measure => simp [intOf]; omega
    · obtain rfl : j = s.length := by omega
      have hcv := Tryz.conv_own wr _ _ _ _ hown
      rw [List.take_of_length_le (by simp)] at hcv
      go_wp2
      go_ret
      exact ⟨rfl, hb⟩

set_option maxHeartbeats 400000 in
theorem r01_high (x : Nat) (hx : x < 18446744073709551616) (k : Nat) (hk : k ≤ 64) (w : World) :
    Calls Tryz.prog 77 #[.int .u64 x, .int .i64 k] w fun e w' => e = .returned (vs (highB x k)) ∧ Below w.heap.size w w' := by
  go_enter Tryz.func77, Tryz.ntmps77
  go_wp2_with (first | (go_at_call 92; refine (r01_low x hx k hk _).mono ?_; rintro e w1 ⟨rfl, hb1⟩) | (go_at_call 91; refine (r01_turned (lowB x k) (by rw [lowB_length]; exact hk) _).mono ?_; rintro e w2 ⟨rfl, hb2⟩))
  go_ret
  exact ⟨rfl, hb1.trans (hb2.mono hb1.size)⟩

set_option maxRecDepth 100000 in
set_option maxHeartbeats 400000 in
theorem r01_fromHigh (s : List UInt8) (hs : s.length ≤ 8) (w : World) :
    Calls Tryz.prog 86 #[vs s] w fun e w' => e = .returned (.tuple #[.int .u64 (num s), .int .i64 0]) ∧ w = w' := by
  unfold vs
  go_enter Tryz.func86, Tryz.ntmps86
  go_wp2
  go_loop [4, 5] (fun x i => ∃ j : Nat, j ≤ s.length ∧ i = .int .i64 j ∧ x = .int .u64 (num (s.take j) : Nat)) (fun _ i => 10 - (intOf i).toNat)
  case atStart => exact ⟨0, Nat.zero_le _, rfl, rfl⟩
  case round =>
    obtain ⟨j, hj, rfl, rfl⟩ := hrel
    by_cases hlt : j < s.length
    · have HN := Lib.hid (num_take_succ s j _ (List.getElem?_eq_getElem hlt))
      have hb := num_take_lt s j (by omega)
      go_wp2
      go_round
      case rel =>
        refine ⟨j + 1, by omega, by go_num, ?_⟩
        rw [HN.out]
        have := s[j].toNat_lt
        rw [IntWalk.u64_in _ (by omega)]
        go_num
      case measure => simp [intOf]; omega
    · obtain rfl : j = s.length := by omega
      go_wp2
      go_ret2
      exact ⟨by simp, rfl⟩
end Go.Proofs.YtahdldbfcjbklaaGreat
