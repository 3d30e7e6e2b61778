/- readers: the reference's In. -/
import Derived.Test.YtahdldbfcjbklaaGreatRd
import Derived.Deep.RegionWith
import Derived.Lib.QuietBelow
namespace Go.Proofs.YtahdldbfcjbklaaGreat
open Go.RowKit

set_option maxRecDepth 100000 in
set_option maxHeartbeats 2000000 in
theorem r12_rnum_none (T : TypeId) (b : Nat) (most : Nat) (hm : most < 18446744073709551616) (w : World) (h : RdAt T w b none) :
    Calls Tryz.prog 64 #[.pointer (some ⟨b, 0, none⟩), .int .u64 most] w fun e w' => e = .returned (.int .u64 (rdNum most none).1) ∧ RdAt T w' b (rdNum most none).2 ∧ Chg (· = b) w w' := by
  have c0 := h.c0; have c1 := h.c1; have f0 := h.f0; have f1 := h.f1
  have H := Lib.hid h; clear h
  simp only [Rd.rest, Rd.bad] at c0 c1
  go_enter Tryz.func64, Tryz.ntmps64
  go_wp2_with fail
  go_quiet (fail)
  go_wp2_with fail
  refine (r12_fail T b _ _ (H.out.drewN _)).mono ?_
  rintro e w2 ⟨rfl, h2, hch2⟩
  go_wp2_with fail
  go_ret
  exact ⟨rfl, h2, hch2.undrewN⟩

set_option maxRecDepth 100000 in
set_option maxHeartbeats 2000000 in
theorem r12_rnum_nil (T : TypeId) (b : Nat) (most : Nat) (hm : most < 18446744073709551616) (w : World) (h : RdAt T w b (some [])) :
    Calls Tryz.prog 64 #[.pointer (some ⟨b, 0, none⟩), .int .u64 most] w fun e w' => e = .returned (.int .u64 (rdNum most (some [])).1) ∧ RdAt T w' b (rdNum most (some [])).2 ∧ Chg (· = b) w w' := by
  have c0 := h.c0; have c1 := h.c1; have f0 := h.f0; have f1 := h.f1
  have H := Lib.hid h; clear h
  simp only [Rd.rest, Rd.bad] at c0 c1
  go_enter Tryz.func64, Tryz.ntmps64
  go_wp2_with fail
  go_quiet (fail)
  go_wp2_with fail
  refine (r12_fail T b _ _ (H.out.drewN _)).mono ?_
  rintro e w2 ⟨rfl, h2, hch2⟩
  go_wp2_with fail
  go_ret
  exact ⟨rfl, h2, hch2.undrewN⟩

set_option maxRecDepth 100000 in
set_option maxHeartbeats 2000000 in
theorem r12_rnum_great (T : TypeId) (b : Nat) (x : UInt8) (t : List UInt8) (h8 : 8 < x.toNat) (most : Nat) (hm : most < 18446744073709551616) (w : World) (h : RdAt T w b (some (x :: t))) :
    Calls Tryz.prog 64 #[.pointer (some ⟨b, 0, none⟩), .int .u64 most] w fun e w' => e = .returned (.int .u64 (rdNum most (some (x :: t))).1) ∧ RdAt T w' b (rdNum most (some (x :: t))).2 ∧ Chg (· = b) w w' := by
  have c0 := h.c0; have c1 := h.c1; have f0 := h.f0; have f1 := h.f1
  have H := Lib.hid h; clear h
  simp only [Rd.rest, Rd.bad] at c0 c1
  have hx := x.toNat_lt
  have HN := Lib.hid (show rdNum most (some (x :: t)) = (0, none) from by simp [rdNum, h8])
  have h8' : (8 : Int) < (x.toNat : Int) := by omega
  have hz : (((t.length : Int) + 1) == 0) = false := by simp; omega
  go_enter Tryz.func64, Tryz.ntmps64
  go_wp2_with fail
  go_quiet (fail)
  go_wp2_with fail
  refine (r12_fail T b _ _ (H.out.drewN _)).mono ?_
  rintro e w2 ⟨rfl, h2, hch2⟩
  go_wp2_with fail
  go_ret
  rw [HN.out]
  exact ⟨rfl, h2, hch2.undrewN⟩

set_option maxRecDepth 100000 in
set_option maxHeartbeats 2000000 in
theorem r12_rnum_short (T : TypeId) (b : Nat) (x : UInt8) (t : List UInt8) (h8 : x.toNat ≤ 8) (hl : t.length < x.toNat) (most : Nat) (hm : most < 18446744073709551616) (w : World) (h : RdAt T w b (some (x :: t))) :
    Calls Tryz.prog 64 #[.pointer (some ⟨b, 0, none⟩), .int .u64 most] w fun e w' => e = .returned (.int .u64 (rdNum most (some (x :: t))).1) ∧ RdAt T w' b (rdNum most (some (x :: t))).2 ∧ Chg (· = b) w w' := by
  have c0 := h.c0; have c1 := h.c1; have f0 := h.f0; have f1 := h.f1
  have H := Lib.hid h; clear h
  simp only [Rd.rest, Rd.bad] at c0 c1
  have hx := x.toNat_lt
  have h8' : (x.toNat : Int) ≤ 8 := by omega
  have HN := Lib.hid (show rdNum most (some (x :: t)) = (0, none) from by simp [rdNum, hl])
  have hz : (((t.length : Int) + 1) == 0) = false := by simp; omega
  have hl' : (t.length : Int) + 1 < 1 + (x.toNat : Int) := by omega
  have hw := IntWalk.i64_in (1 + (x.toNat : Int)) (by omega)
  go_enter Tryz.func64, Tryz.ntmps64
  go_wp2_with fail
  go_quiet (fail)
  go_wp2_with fail
  refine (r12_fail T b _ _ (H.out.drewN _)).mono ?_
  rintro e w2 ⟨rfl, h2, hch2⟩
  go_wp2_with fail
  go_ret
  rw [HN.out]
  exact ⟨rfl, h2, hch2.undrewN⟩

set_option maxRecDepth 100000 in
set_option maxHeartbeats 2000000 in
theorem r12_rnum_ok (T : TypeId) (b : Nat) (x : UInt8) (t : List UInt8) (h8 : x.toNat ≤ 8) (hl : x.toNat ≤ t.length) (hn : need (num (t.take x.toNat)) = x.toNat) (most : Nat) (hmo : num (t.take x.toNat) ≤ most) (hm : most < 18446744073709551616) (w : World) (h : RdAt T w b (some (x :: t))) :
    Calls Tryz.prog 64 #[.pointer (some ⟨b, 0, none⟩), .int .u64 most] w fun e w' => e = .returned (.int .u64 (rdNum most (some (x :: t))).1) ∧ RdAt T w' b (rdNum most (some (x :: t))).2 ∧ Chg (· = b) w w' := by
  have c0 := h.c0; have c1 := h.c1; have f0 := h.f0; have f1 := h.f1
  have H := Lib.hid h; clear h
  simp only [Rd.rest, Rd.bad] at c0 c1
  have hx := x.toNat_lt
  have h8' : (x.toNat : Int) ≤ 8 := by omega
  have hlt : (t.take x.toNat).length ≤ 8 := by simp; omega
  have hb8 := num_lt8 _ hlt
  have hneed : need (num (t.take x.toNat)) ≤ 8 := need_le 8 _ (by simpa using hb8)
  have hnb := numB_eq x t (by omega) (by omega)
  have HN := Lib.hid (show rdNum most (some (x :: t)) = (num (t.take x.toNat), some (t.drop x.toNat)) from by
    simp only [rdNum, if_neg (show ¬ (8 < x.toNat ∨ t.length < x.toNat) from by omega)]
    rw [if_neg (by omega)])
  have hmo' : ((num (t.take x.toNat) : Nat) : Int) ≤ (most : Int) := by omega
  have hg : (numB (num (t.take x.toNat)) == List.take (1 + x.toNat) (x :: t)) = true := by
    rw [hnb.2 hn, Nat.add_comm]; simp
  clear hn
  clear hnb
  have hz : (((t.length : Int) + 1) == 0) = false := by simp; omega
  have hl' : (1 : Int) + (x.toNat : Int) ≤ (t.length : Int) + 1 := by omega
  have hw := IntWalk.i64_in (1 + (x.toNat : Int)) (by omega)
  go_enter Tryz.func64, Tryz.ntmps64
  go_wp2_with fail
  go_quiet (fail)
  go_wp2_with fail
  refine (r01_fromHigh _ hlt _).mono ?_
  rintro e w3 ⟨rfl, rfl⟩
  go_wp2_with fail
  have c4 := fun d os => cell_regrown (w := w.drewN nq) c0 d os
  refine wp_region_quietB (by kernel_rfl) (by kernel_rfl) ?_
  repeat (go_big_quiet_step ((go_at_call 53; exact Calls.regrown_of (r12_num _ hb8 _))))
  refine wpQuiet_nil ?_
  intro w4 hb4
  clear c4
  all_goals have h4 := RdAt.kept H.out (S := fun _ => False) (Chg.of_below (below_undrewN hb4)) (fun h => h)
  all_goals have f4 := h4.f0
  all_goals have c4 := h4.c0
  all_goals simp only [Rd.rest] at c4
  all_goals have hd : List.drop (1 + x.toNat) (x :: t) = t.drop x.toNat := by rw [Nat.add_comm]; rfl
  all_goals have H4 := Lib.hid h4
  all_goals clear h4
  all_goals go_wp2_with fail
  go_ret
  rw [HN.out]
  have hd2 : (t.drop x.toNat).take (t.length + 1 - (1 + x.toNat)) = t.drop x.toNat := List.take_of_length_le (by simp; omega)
  (try rw [hd2])
  exact ⟨rfl, H4.out.set0 _, (Chg.of_below (below_undrewN hb4)).trans (chg1 _ _ _ _)⟩

set_option maxRecDepth 100000 in
set_option maxHeartbeats 2000000 in
theorem r12_rnum_most (T : TypeId) (b : Nat) (x : UInt8) (t : List UInt8) (h8 : x.toNat ≤ 8) (hl : x.toNat ≤ t.length) (hn : need (num (t.take x.toNat)) = x.toNat) (most : Nat) (hmo : most < num (t.take x.toNat)) (hm : most < 18446744073709551616) (w : World) (h : RdAt T w b (some (x :: t))) :
    Calls Tryz.prog 64 #[.pointer (some ⟨b, 0, none⟩), .int .u64 most] w fun e w' => e = .returned (.int .u64 (rdNum most (some (x :: t))).1) ∧ RdAt T w' b (rdNum most (some (x :: t))).2 ∧ Chg (· = b) w w' := by
  have c0 := h.c0; have c1 := h.c1; have f0 := h.f0; have f1 := h.f1
  have H := Lib.hid h; clear h
  simp only [Rd.rest, Rd.bad] at c0 c1
  have hx := x.toNat_lt
  have h8' : (x.toNat : Int) ≤ 8 := by omega
  have hlt : (t.take x.toNat).length ≤ 8 := by simp; omega
  have hb8 := num_lt8 _ hlt
  have hneed : need (num (t.take x.toNat)) ≤ 8 := need_le 8 _ (by simpa using hb8)
  have hnb := numB_eq x t (by omega) (by omega)
  have HN := Lib.hid (show rdNum most (some (x :: t)) = (0, none) from by
    simp only [rdNum, if_neg (show ¬ (8 < x.toNat ∨ t.length < x.toNat) from by omega)]
    rw [if_pos (by omega)])
  have hmo' : (most : Int) < ((num (t.take x.toNat) : Nat) : Int) := by omega
  have hg : (numB (num (t.take x.toNat)) == List.take (1 + x.toNat) (x :: t)) = true := by
    rw [hnb.2 hn, Nat.add_comm]; simp
  clear hn
  clear hnb
  have hz : (((t.length : Int) + 1) == 0) = false := by simp; omega
  have hl' : (1 : Int) + (x.toNat : Int) ≤ (t.length : Int) + 1 := by omega
  have hw := IntWalk.i64_in (1 + (x.toNat : Int)) (by omega)
  go_enter Tryz.func64, Tryz.ntmps64
  go_wp2_with fail
  go_quiet (fail)
  go_wp2_with fail
  refine (r01_fromHigh _ hlt _).mono ?_
  rintro e w3 ⟨rfl, rfl⟩
  go_wp2_with fail
  have c4 := fun d os => cell_regrown (w := w.drewN nq) c0 d os
  refine wp_region_quietB (by kernel_rfl) (by kernel_rfl) ?_
  repeat (go_big_quiet_step ((go_at_call 53; exact Calls.regrown_of (r12_num _ hb8 _))))
  refine wpQuiet_nil ?_
  intro w4 hb4
  clear c4
  all_goals go_wp2_with fail
  all_goals
    refine (r12_fail T b _ _ (RdAt.kept H.out (S := fun _ => False) (Chg.of_below (below_undrewN hb4)) (fun h => h))).mono ?_
    rintro e w5 ⟨rfl, h5, hch5⟩
    go_wp2_with fail
    go_ret
    rw [HN.out]
    exact ⟨rfl, h5, (Chg.of_below (below_undrewN hb4)).trans hch5⟩

set_option maxRecDepth 100000 in
set_option maxHeartbeats 2000000 in
theorem r12_rnum_odd (T : TypeId) (b : Nat) (x : UInt8) (t : List UInt8) (h8 : x.toNat ≤ 8) (hl : x.toNat ≤ t.length) (hn : ¬ need (num (t.take x.toNat)) = x.toNat) (most : Nat) (hm : most < 18446744073709551616) (w : World) (h : RdAt T w b (some (x :: t))) :
    Calls Tryz.prog 64 #[.pointer (some ⟨b, 0, none⟩), .int .u64 most] w fun e w' => e = .returned (.int .u64 (rdNum most (some (x :: t))).1) ∧ RdAt T w' b (rdNum most (some (x :: t))).2 ∧ Chg (· = b) w w' := by
  have c0 := h.c0; have c1 := h.c1; have f0 := h.f0; have f1 := h.f1
  have H := Lib.hid h; clear h
  simp only [Rd.rest, Rd.bad] at c0 c1
  have hx := x.toNat_lt
  have h8' : (x.toNat : Int) ≤ 8 := by omega
  have hlt : (t.take x.toNat).length ≤ 8 := by simp; omega
  have hb8 := num_lt8 _ hlt
  have hneed : need (num (t.take x.toNat)) ≤ 8 := need_le 8 _ (by simpa using hb8)
  have hnb := numB_eq x t (by omega) (by omega)
  have HN := Lib.hid (show rdNum most (some (x :: t)) = (0, none) from by
    simp only [rdNum, if_neg (show ¬ (8 < x.toNat ∨ t.length < x.toNat) from by omega)]
    rw [if_pos (by omega)])
  have hg : (numB (num (t.take x.toNat)) == List.take (1 + x.toNat) (x :: t)) = false := by
    rw [beq_eq_false_iff_ne, Nat.add_comm, List.take_succ_cons]; exact fun h => hn (hnb.1 h)
  clear hn
  clear hnb
  have hz : (((t.length : Int) + 1) == 0) = false := by simp; omega
  have hl' : (1 : Int) + (x.toNat : Int) ≤ (t.length : Int) + 1 := by omega
  have hw := IntWalk.i64_in (1 + (x.toNat : Int)) (by omega)
  go_enter Tryz.func64, Tryz.ntmps64
  go_wp2_with fail
  go_quiet (fail)
  go_wp2_with fail
  refine (r01_fromHigh _ hlt _).mono ?_
  rintro e w3 ⟨rfl, rfl⟩
  go_wp2_with fail
  have c4 := fun d os => cell_regrown (w := w.drewN nq) c0 d os
  refine wp_region_quietB (by kernel_rfl) (by kernel_rfl) ?_
  repeat (go_big_quiet_step ((go_at_call 53; exact Calls.regrown_of (r12_num _ hb8 _))))
  refine wpQuiet_nil ?_
  intro w4 hb4
  clear c4
  all_goals go_wp2_with fail
  all_goals
    refine (r12_fail T b _ _ (RdAt.kept H.out (S := fun _ => False) (Chg.of_below (below_undrewN hb4)) (fun h => h))).mono ?_
    rintro e w5 ⟨rfl, h5, hch5⟩
    go_wp2_with fail
    go_ret
    rw [HN.out]
    exact ⟨rfl, h5, (Chg.of_below (below_undrewN hb4)).trans hch5⟩

theorem r12_rnum_any (T : TypeId) (b : Nat) (r : Rd) (most : Nat) (hm : most < 18446744073709551616) (w : World) (h : RdAt T w b r) :
    Calls Tryz.prog 64 #[.pointer (some ⟨b, 0, none⟩), .int .u64 most] w fun e w' => e = .returned (.int .u64 (rdNum most r).1) ∧ RdAt T w' b (rdNum most r).2 ∧ Chg (· = b) w w' := by
  rcases r with _ | _ | ⟨x, t⟩
  · exact r12_rnum_none T b most hm w h
  · exact r12_rnum_nil T b most hm w h
  · by_cases h8 : 8 < x.toNat
    · exact r12_rnum_great T b x t h8 most hm w h
    · by_cases hl : t.length < x.toNat
      · exact r12_rnum_short T b x t (by omega) hl most hm w h
      · by_cases hn : need (num (t.take x.toNat)) = x.toNat
        · by_cases hmo : most < num (t.take x.toNat)
          · exact r12_rnum_most T b x t (by omega) (by omega) hn most hmo hm w h
          · exact r12_rnum_ok T b x t (by omega) (by omega) hn most (by omega) hm w h
        · exact r12_rnum_odd T b x t (by omega) (by omega) hn most hm w h

set_option maxRecDepth 100000 in
set_option maxHeartbeats 2000000 in
theorem r12_text_any (T : TypeId) (b : Nat) (r : Rd) (most : Nat) (hm : most ≤ 4611686018427387904) (w : World) (h : RdAt T w b r) (hsz : r.rest.length ≤ 4611686018427387904) :
    Calls Tryz.prog 63 #[.pointer (some ⟨b, 0, none⟩), .int .i64 most] w fun e w' => e = .returned (vs (rdText most r).1) ∧ RdAt T w' b (rdText most r).2 ∧ Chg (· = b) w w' := by
  have hle := rdNum_le most r
  have HT : Hid (rdText most r = rdTake (rdNum most r).1 (rdNum most r).2) := Lib.hid rfl
  have hr2 : (rdNum most r).2.rest.length ≤ r.rest.length := rdNum_shorter most r
  go_enter Tryz.func63, Tryz.ntmps63
  go_wp2_with fail
  refine (r12_rnum_any T b r most (by omega) _ h).mono ?_
  rintro e w1 ⟨rfl, h1, hch1⟩
  generalize rdNum most r = q at *
  obtain ⟨n, r1⟩ := q
  simp only at h1 hle HT hr2 ⊢
  have c0 := h1.c0; have c1 := h1.c1; have f0 := h1.f0; have f1 := h1.f1
  have H1 := Lib.hid h1; clear h1 h
  rcases r1 with _ | s
  · simp only [Rd.rest, Rd.bad] at c0 c1
    go_wp2_with fail
    refine (r12_fail T b _ _ H1.out).mono ?_
    rintro e w2 ⟨rfl, h2, hch2⟩
    go_wp2_with fail
    go_ret
    rw [HT.out]
    exact ⟨rfl, h2, hch1.trans hch2⟩
  · simp only [Rd.rest, Rd.bad] at c0 c1 hr2
    have hs' : s.length ≤ 4611686018427387904 := Nat.le_trans hr2 hsz
    by_cases hl : n ≤ s.length
    · have HS := Lib.hid (H1.out.set0 (s.drop n))
      go_wp2_with fail
      go_ret
      rw [HT.out]
      simp only [rdTake, if_pos hl]
      exact ⟨rfl, HS.out, hch1.trans (chg1 _ _ _ _)⟩
    · go_wp2_with fail
      refine (r12_fail T b _ _ H1.out).mono ?_
      rintro e w2 ⟨rfl, h2, hch2⟩
      go_wp2_with fail
      go_ret
      rw [HT.out]
      simp only [rdTake, if_neg hl]
      exact ⟨rfl, h2, hch1.trans hch2⟩
end Go.Proofs.YtahdldbfcjbklaaGreat
