/- readers: pack.rest of the program, In of the reference. -/
import Derived.Test.YtahdldbfcjbklaaGreatPack
import Derived.BigQuiet
import Derived.Deep.QuietTactic
namespace Go.Proofs.YtahdldbfcjbklaaGreat
open Go.RowKit
/-- a reader: what is left, or it is broken -/
abbrev Rd := Option (List UInt8)
def Rd.rest : Rd → List UInt8 | some s => s | none => []
def Rd.bad : Rd → Bool | some _ => false | none => true
def RdAt (T : TypeId) (w : World) (b : Nat) (r : Rd) : Prop := w.heap[b]? = some (.cells #[vs r.rest, .bool r.bad] T (0, 0))
def rdTake (n : Nat) : Rd → List UInt8 × Rd
  | none => ([], none)
  | some s => if n ≤ s.length then (s.take n, some (s.drop n)) else ([], none)
def rdNum (most : Nat) : Rd → Nat × Rd
  | none => (0, none)
  | some [] => (0, none)
  | some (h :: t) => if 8 < h.toNat ∨ t.length < h.toNat then (0, none) else
      if need (num (t.take h.toNat)) ≠ h.toNat ∨ most < num (t.take h.toNat) then (0, none) else (num (t.take h.toNat), some (t.drop h.toNat))
def rdText (most : Nat) (r : Rd) : List UInt8 × Rd := rdTake (rdNum most r).1 (rdNum most r).2
def rdDone : Rd → Nat
  | none => 2
  | some [] => 0
  | some _ => 5

section
variable {T : TypeId} {w : World} {b : Nat} {r : Rd}
theorem RdAt.c0 (h : RdAt T w b r) : w.cell? ⟨b, 0, none⟩ = some (vs r.rest) := cell_of_row w b 0 _ _ _ h
theorem RdAt.c1 (h : RdAt T w b r) : w.cell? ⟨b, 1, none⟩ = some (.bool r.bad) := cell_of_row w b 1 _ _ _ h
theorem RdAt.f0 (h : RdAt T w b r) : w.frozen? ⟨b, 0, none⟩ = false := frozen_of_row w b 0 _ _ h
theorem RdAt.f1 (h : RdAt T w b r) : w.frozen? ⟨b, 1, none⟩ = false := frozen_of_row w b 1 _ _ h
theorem RdAt.set0 (h : RdAt T w b r) (s : List UInt8) : (w.setCell ⟨b, 0, none⟩ (vs s)).heap[b]? = some (.cells #[vs s, .bool r.bad] T (0, 0)) := heap_setCell_same _ _ _ _ _ _ h
theorem RdAt.set1 {x : Value} (h : w.heap[b]? = some (.cells #[x, .bool r.bad] T (0, 0))) (y : Bool) : (w.setCell ⟨b, 1, none⟩ (.bool y)).heap[b]? = some (.cells #[x, .bool y] T (0, 0)) := heap_setCell_same _ _ _ _ _ _ h
theorem RdAt.failed (h : RdAt T w b r) : RdAt T ((w.setCell ⟨b, 0, none⟩ (vs [])).setCell ⟨b, 1, none⟩ (.bool true)) b none := RdAt.set1 (h.set0 []) true
theorem RdAt.failed' (h : RdAt T w b r) : RdAt T ((w.setCell ⟨b, 1, none⟩ (.bool true)).setCell ⟨b, 0, none⟩ (vs [])) b none :=
  heap_setCell_same _ _ _ _ _ _ (RdAt.set1 h true)
theorem RdAt.drewN (h : RdAt T w b r) (n : Nat) : RdAt T (w.drewN n) b r := h
theorem RdAt.kept {w' : World} {S : Nat → Prop} (h : RdAt T w b r) (hc : Chg S w w') (hs : ¬ S b) : RdAt T w' b r := (hc.block b (lt_of_heap h) hs).trans h
end

set_option maxHeartbeats 400000 in
theorem fail_any (T : TypeId) (b : Nat) (r : Rd) (w : World) (h : RdAt T w b r) :
    Calls Tryz.prog 82 #[.pointer (some ⟨b, 0, none⟩)] w fun e w' => e = .returned (.tuple #[]) ∧ RdAt T w' b none ∧ Chg (· = b) w w' := by
  have hf := h.failed
  have c0 := h.c0; have c1 := h.c1; have f0 := h.f0; have f1 := h.f1
  have H := Lib.hid h; clear h
  have HF := Lib.hid hf; clear hf
  go_enter Tryz.func82, Tryz.ntmps82
  go_wp2
  go_end0
  exact ⟨rfl, HF.out, chg2 _ _ _ _ _ _⟩

set_option maxHeartbeats 400000 in
theorem r12_fail (T : TypeId) (b : Nat) (r : Rd) (w : World) (h : RdAt T w b r) :
    Calls Tryz.prog 85 #[.pointer (some ⟨b, 0, none⟩)] w fun e w' => e = .returned (.tuple #[]) ∧ RdAt T w' b none ∧ Chg (· = b) w w' := by
  have hf := h.failed'
  have c0 := h.c0; have c1 := h.c1; have f0 := h.f0; have f1 := h.f1
  have H := Lib.hid h; clear h
  have HF := Lib.hid hf; clear hf
  go_enter Tryz.func85, Tryz.ntmps85
  go_wp2
  go_end0
  exact ⟨rfl, HF.out, chg2 _ _ _ _ _ _⟩

set_option maxHeartbeats 400000 in
theorem left_any (T : TypeId) (b : Nat) (r : Rd) (w : World) (h : RdAt T w b r) :
    Calls Tryz.prog 35 #[.pointer (some ⟨b, 0, none⟩)] w fun e w' => e = .returned (.int .i64 r.rest.length) ∧ w = w' := by
  have c0 := h.c0
  have H := Lib.hid h; clear h
  go_enter Tryz.func35, Tryz.ntmps35
  go_wp2
  go_ret
  exact ⟨rfl, rfl⟩

set_option maxHeartbeats 400000 in
theorem from_any (s : List UInt8) (w : World) :
    Calls Tryz.prog 33 #[vs s] w fun e w' => e = .returned (.pointer (some ⟨w.heap.size, 0, none⟩)) ∧ RdAt 78 w' w.heap.size (some s) ∧ Below w.heap.size w w' := by
  go_enter Tryz.func33, Tryz.ntmps33
  go_wp2
  go_ret
  exact ⟨rfl, heap_alloc_new _ _, (Below.refl _ _).alloc (Nat.le_refl _) _⟩

set_option maxHeartbeats 400000 in
theorem done_any (T : TypeId) (b : Nat) (r : Rd) (w : World) (h : RdAt T w b r) :
    Calls Tryz.prog 59 #[.pointer (some ⟨b, 0, none⟩)] w fun e w' => e = .returned (.int .i64 (rdDone r)) ∧ w = w' := by
  have c0 := h.c0; have c1 := h.c1
  have H := Lib.hid h; clear h
  rcases r with _ | _ | ⟨x, s⟩
  all_goals
    simp only [Rd.rest, Rd.bad] at c0 c1
    go_enter Tryz.func59, Tryz.ntmps59
    go_wp2
    go_ret
    exact ⟨rfl, rfl⟩

set_option maxHeartbeats 400000 in
theorem r12_done (T : TypeId) (b : Nat) (r : Rd) (w : World) (h : RdAt T w b r) :
    Calls Tryz.prog 65 #[.pointer (some ⟨b, 0, none⟩)] w fun e w' => e = .returned (.int .i64 (rdDone r)) ∧ w = w' := by
  have c0 := h.c0; have c1 := h.c1
  have H := Lib.hid h; clear h
  rcases r with _ | _ | ⟨x, s⟩
  all_goals
    simp only [Rd.rest, Rd.bad] at c0 c1
    go_enter Tryz.func65, Tryz.ntmps65
    go_wp2
    go_ret
    exact ⟨rfl, rfl⟩

set_option maxHeartbeats 400000 in
theorem take_any (T : TypeId) (b : Nat) (r : Rd) (n : Nat) (hn : n ≤ 4611686018427387904) (w : World) (h : RdAt T w b r) :
    Calls Tryz.prog 81 #[.pointer (some ⟨b, 0, none⟩), .int .i64 n] w fun e w' => e = .returned (vs (rdTake n r).1) ∧ RdAt T w' b (rdTake n r).2 ∧ Chg (· = b) w w' := by
  have c0 := h.c0; have c1 := h.c1; have f0 := h.f0; have f1 := h.f1
  have H := Lib.hid h; clear h
  rcases r with _ | s
  · simp only [Rd.rest, Rd.bad] at c0 c1
    go_enter Tryz.func81, Tryz.ntmps81
    go_wp2_with (go_at_call 82; refine (fail_any T b _ _ H.out).mono ?_; rintro e w1 ⟨rfl, hr, hch⟩)
    go_ret
    exact ⟨rfl, hr, hch⟩
  · simp only [Rd.rest, Rd.bad] at c0 c1
    by_cases hle : n ≤ s.length
    · have HS := Lib.hid (H.out.set0 (s.drop n))
      go_enter Tryz.func81, Tryz.ntmps81
      go_wp2_with fail
      go_ret
      simp only [rdTake, if_pos hle]
      exact ⟨rfl, HS.out, chg1 _ _ _ _⟩
    · go_enter Tryz.func81, Tryz.ntmps81
      go_wp2_with (go_at_call 82; refine (fail_any T b _ _ H.out).mono ?_; rintro e w1 ⟨rfl, hr, hch⟩)
      go_ret
      simp only [rdTake, if_neg hle]
      exact ⟨rfl, hr, hch⟩

theorem rdNum_shorter (most : Nat) (r : Rd) : (rdNum most r).2.rest.length ≤ r.rest.length := by
  rcases r with _ | _ | ⟨h, t⟩
  · exact Nat.zero_le _
  · exact Nat.zero_le _
  · simp only [rdNum]
    split
    · exact Nat.zero_le _
    · split
      · exact Nat.zero_le _
      · simp only [Rd.rest, List.length_drop, List.length_cons]; omega
theorem rdNum_le (most : Nat) (r : Rd) : (rdNum most r).1 ≤ most := by
  rcases r with _ | _ | ⟨h, t⟩
  · exact Nat.zero_le _
  · exact Nat.zero_le _
  · simp only [rdNum]
    split
    · exact Nat.zero_le _
    · split
      · exact Nat.zero_le _
      · rename_i h2
        simp only; omega

set_option maxRecDepth 100000 in
set_option maxHeartbeats 1000000 in
theorem rnum_any (T : TypeId) (b : Nat) (r : Rd) (most : Nat) (hm : most < 18446744073709551616) (w : World) (h : RdAt T w b r) :
    Calls Tryz.prog 58 #[.pointer (some ⟨b, 0, none⟩), .int .u64 most] w fun e w' => e = .returned (.int .u64 (rdNum most r).1) ∧ RdAt T w' b (rdNum most r).2 ∧ Chg (· = b) w w' := by
  rcases r with _ | _ | ⟨x, t⟩
  case none =>
    go_enter Tryz.func58, Tryz.ntmps58
    go_wp2_with fail
    refine (take_any T b _ 1 (by omega) _ h).mono ?_
    rintro e w1 ⟨rfl, h1, hch1⟩
    have c1 := h1.c1
    simp only [rdTake, Rd.bad] at c1
    have H1 := Lib.hid h1; clear h1 h
    go_wp2_with fail
    refine (fail_any T b _ _ H1.out).mono ?_
    rintro e w2 ⟨rfl, h2, hch2⟩
    go_wp2_with fail
    go_ret
    exact ⟨rfl, h2, hch1.trans hch2⟩
  case some.nil =>
    go_enter Tryz.func58, Tryz.ntmps58
    go_wp2_with fail
    refine (take_any T b _ 1 (by omega) _ h).mono ?_
    rintro e w1 ⟨rfl, h1, hch1⟩
    have c1 := h1.c1
    simp only [rdTake, List.length_nil, if_neg (show ¬ 1 ≤ 0 from by omega), Rd.bad] at c1 h1
    have H1 := Lib.hid h1; clear h1 h
    go_wp2_with fail
    refine (fail_any T b _ _ H1.out).mono ?_
    rintro e w2 ⟨rfl, h2, hch2⟩
    go_wp2_with fail
    go_ret
    exact ⟨rfl, h2, hch1.trans hch2⟩
  case some.cons =>
    have hx := x.toNat_lt
    by_cases h8 : 8 < x.toNat
    · have HN := Lib.hid (show rdNum most (some (x :: t)) = (0, none) from by simp [rdNum, h8])
      have h8' : (8 : Int) < (x.toNat : Int) := by omega
      go_enter Tryz.func58, Tryz.ntmps58
      go_wp2_with fail
      refine (take_any T b _ 1 (by omega) _ h).mono ?_
      rintro e w1 ⟨rfl, h1, hch1⟩
      have c1 := h1.c1
      simp only [rdTake, List.length_cons, if_pos (show 1 ≤ t.length + 1 from by omega), Rd.bad, List.take_succ_cons, List.take_zero, List.drop_succ_cons, List.drop_zero] at c1 h1 ⊢
      have H1 := Lib.hid h1; clear h1 h
      go_wp2_with fail
      refine (fail_any T b _ _ H1.out).mono ?_
      rintro e w2 ⟨rfl, h2, hch2⟩
      go_wp2_with fail
      go_ret
      rw [HN.out]
      exact ⟨rfl, h2, hch1.trans hch2⟩
    · have h8' : (x.toNat : Int) ≤ 8 := by omega
      by_cases hl : t.length < x.toNat
      · have HN := Lib.hid (show rdNum most (some (x :: t)) = (0, none) from by simp [rdNum, hl])
        go_enter Tryz.func58, Tryz.ntmps58
        go_wp2_with fail
        refine (take_any T b _ 1 (by omega) _ h).mono ?_
        rintro e w1 ⟨rfl, h1, hch1⟩
        have c1 := h1.c1
        simp only [rdTake, List.length_cons, if_pos (show 1 ≤ t.length + 1 from by omega), Rd.bad, List.take_succ_cons, List.take_zero, List.drop_succ_cons, List.drop_zero] at c1 h1 ⊢
        have H1 := Lib.hid h1; clear h1 h
        go_wp2_with fail
        refine (take_any T b _ x.toNat (by omega) _ H1.out).mono ?_
        rintro e w2 ⟨rfl, h2, hch2⟩
        have c2 := h2.c1
        simp only [rdTake, if_neg (show ¬ x.toNat ≤ t.length from by omega), Rd.bad] at c2 h2 ⊢
        have H2 := Lib.hid h2; clear h2 c1
        go_wp2_with fail
        refine (fromHigh_any [] (by simp) _).mono ?_
        rintro e w3 ⟨rfl, rfl⟩
        go_wp2_with fail
        go_quiet (fail)
        go_wp2_with fail
        refine (fail_any T b _ _ (H2.out.drewN _)).mono ?_
        rintro e w4 ⟨rfl, h4, hch4⟩
        go_wp2_with fail
        go_ret
        rw [HN.out]
        exact ⟨rfl, h4, hch1.trans (hch2.trans hch4.undrewN)⟩
      · by_cases hok : need (num (t.take x.toNat)) = x.toNat ∧ ¬ most < num (t.take x.toNat)
        · obtain ⟨hn, hmo⟩ := hok
          have HN := Lib.hid (show rdNum most (some (x :: t)) = (num (t.take x.toNat), some (t.drop x.toNat)) from by simp [rdNum, hl, hn, hmo, show ¬ 8 < x.toNat from h8])
          have hlt : (t.take x.toNat).length ≤ 8 := by simp; omega
          have hb8 := num_lt8 _ hlt
          have hneed : need (num (t.take x.toNat)) ≤ 8 := need_le 8 _ (by simpa using hb8)
          go_enter Tryz.func58, Tryz.ntmps58
          go_wp2_with fail
          refine (take_any T b _ 1 (by omega) _ h).mono ?_
          rintro e w1 ⟨rfl, h1, hch1⟩
          have c1 := h1.c1
          simp only [rdTake, List.length_cons, if_pos (show 1 ≤ t.length + 1 from by omega), Rd.bad, List.take_succ_cons, List.take_zero, List.drop_succ_cons, List.drop_zero] at c1 h1 ⊢
          have H1 := Lib.hid h1; clear h1 h
          go_wp2_with fail
          refine (take_any T b _ x.toNat (by omega) _ H1.out).mono ?_
          rintro e w2 ⟨rfl, h2, hch2⟩
          have c2 := h2.c1
          simp only [rdTake, if_pos (show x.toNat ≤ t.length from by omega), Rd.bad] at c2 h2 ⊢
          have H2 := Lib.hid h2; clear h2 c1
          go_wp2_with fail
          refine (fromHigh_any _ hlt _).mono ?_
          rintro e w3 ⟨rfl, rfl⟩
          generalize num (t.take x.toNat) = y at *
          have hne : (((need y : Nat) : Int) != (x.toNat : Int)) = false := by simp [hn]
          have HE := Lib.hid hn; clear hn
          have hmo' : (y : Int) ≤ (most : Int) := by omega
          go_wp2_with fail
          go_quiet ((go_at_call 75; exact Calls.quiet_of_same ((need_any y hb8 _).mono fun e w' hw => ⟨hw.1, hw.2.symm⟩)))
          go_wp2_with fail
          go_ret
          rw [HN.out]
          exact ⟨rfl, H2.out, (hch1.trans hch2).drewN _⟩
        · have HN := Lib.hid (show rdNum most (some (x :: t)) = (0, none) from by
            simp only [rdNum, if_neg (show ¬ (8 < x.toNat ∨ t.length < x.toNat) from by omega)]
            rw [if_pos (by omega)])
          by_cases hn : need (num (t.take x.toNat)) = x.toNat
          · have hmo : most < num (t.take x.toNat) := by omega
            have hlt : (t.take x.toNat).length ≤ 8 := by simp; omega
            have hb8 := num_lt8 _ hlt
            have hneed : need (num (t.take x.toNat)) ≤ 8 := need_le 8 _ (by simpa using hb8)
            go_enter Tryz.func58, Tryz.ntmps58
            go_wp2_with fail
            refine (take_any T b _ 1 (by omega) _ h).mono ?_
            rintro e w1 ⟨rfl, h1, hch1⟩
            have c1 := h1.c1
            simp only [rdTake, List.length_cons, if_pos (show 1 ≤ t.length + 1 from by omega), Rd.bad, List.take_succ_cons, List.take_zero, List.drop_succ_cons, List.drop_zero] at c1 h1 ⊢
            have H1 := Lib.hid h1; clear h1 h
            go_wp2_with fail
            refine (take_any T b _ x.toNat (by omega) _ H1.out).mono ?_
            rintro e w2 ⟨rfl, h2, hch2⟩
            have c2 := h2.c1
            simp only [rdTake, if_pos (show x.toNat ≤ t.length from by omega), Rd.bad] at c2 h2 ⊢
            have H2 := Lib.hid h2; clear h2 c1
            go_wp2_with fail
            refine (fromHigh_any _ hlt _).mono ?_
            rintro e w3 ⟨rfl, rfl⟩
            generalize num (t.take x.toNat) = y at *
            have hne : (((need y : Nat) : Int) != (x.toNat : Int)) = false := by simp [hn]
            have HE := Lib.hid hn; clear hn hok
            have hmo' : (most : Int) < (y : Int) := by omega
            go_wp2_with fail
            go_quiet ((go_at_call 75; exact Calls.quiet_of_same ((need_any y hb8 _).mono fun e w' hw => ⟨hw.1, hw.2.symm⟩)))
            go_wp2_with fail
            refine (fail_any T b _ _ (H2.out.drewN _)).mono ?_
            rintro e w4 ⟨rfl, h4, hch4⟩
            go_wp2_with fail
            go_ret
            rw [HN.out]
            exact ⟨rfl, h4, hch1.trans (hch2.trans hch4.undrewN)⟩
          · clear hok
            have hlt : (t.take x.toNat).length ≤ 8 := by simp; omega
            have hb8 := num_lt8 _ hlt
            have hneed : need (num (t.take x.toNat)) ≤ 8 := need_le 8 _ (by simpa using hb8)
            go_enter Tryz.func58, Tryz.ntmps58
            go_wp2_with fail
            refine (take_any T b _ 1 (by omega) _ h).mono ?_
            rintro e w1 ⟨rfl, h1, hch1⟩
            have c1 := h1.c1
            simp only [rdTake, List.length_cons, if_pos (show 1 ≤ t.length + 1 from by omega), Rd.bad, List.take_succ_cons, List.take_zero, List.drop_succ_cons, List.drop_zero] at c1 h1 ⊢
            have H1 := Lib.hid h1; clear h1 h
            go_wp2_with fail
            refine (take_any T b _ x.toNat (by omega) _ H1.out).mono ?_
            rintro e w2 ⟨rfl, h2, hch2⟩
            have c2 := h2.c1
            simp only [rdTake, if_pos (show x.toNat ≤ t.length from by omega), Rd.bad] at c2 h2 ⊢
            have H2 := Lib.hid h2; clear h2 c1
            go_wp2_with fail
            refine (fromHigh_any _ hlt _).mono ?_
            rintro e w3 ⟨rfl, rfl⟩
            generalize num (t.take x.toNat) = y at *
            have hne : (((need y : Nat) : Int) != (x.toNat : Int)) = true := by simp; omega
            have HE := Lib.hid hn; clear hn
            go_wp2_with fail
            go_quiet ((go_at_call 75; exact Calls.quiet_of_same ((need_any y hb8 _).mono fun e w' hw => ⟨hw.1, hw.2.symm⟩)))
            go_wp2_with fail
            refine (fail_any T b _ _ (H2.out.drewN _)).mono ?_
            rintro e w4 ⟨rfl, h4, hch4⟩
            go_wp2_with fail
            go_ret
            rw [HN.out]
            exact ⟨rfl, h4, hch1.trans (hch2.trans hch4.undrewN)⟩

set_option maxHeartbeats 1000000 in
theorem rtext_any (T : TypeId) (b : Nat) (r : Rd) (most : Nat) (hm : most ≤ 4611686018427387904) (w : World) (h : RdAt T w b r) :
    Calls Tryz.prog 57 #[.pointer (some ⟨b, 0, none⟩), .int .i64 most] w fun e w' => e = .returned (vs (rdText most r).1) ∧ RdAt T w' b (rdText most r).2 ∧ Chg (· = b) w w' := by
  have hle := rdNum_le most r
  go_enter Tryz.func57, Tryz.ntmps57
  go_wp2_with fail
  refine (rnum_any T b r most (by omega) _ h).mono ?_
  rintro e w1 ⟨rfl, h1, hch1⟩
  clear h
  go_wp2_with fail
  refine (take_any T b _ _ (by omega) _ h1).mono ?_
  rintro e w2 ⟨rfl, h2, hch2⟩
  go_wp2_with fail
  go_ret
  exact ⟨rfl, h2, hch1.trans hch2⟩

theorem num_highB (l : List UInt8) : highB (num l) l.length = l := by
  unfold highB
  have h : ∀ m : List UInt8, lowB (num m.reverse) m.length = m := by
    intro m
    induction m with
    | nil => rfl
    | cons b m ih =>
      rw [List.reverse_cons, num_snoc]
      have hb := b.toNat_lt
      have e : lowB (num m.reverse * 256 + b.toNat) (m.length + 1) = UInt8.ofNat (num m.reverse * 256 + b.toNat) :: lowB (num m.reverse) m.length := by
        simp only [lowB, List.range_succ_eq_map, List.map_cons, List.map_map, Nat.pow_zero, Nat.div_one]
        congr 1
        refine List.map_congr_left fun i _ => ?_
        simp only [Function.comp, Nat.pow_succ', ← Nat.div_div_eq_div_mul]
        congr 2; omega
      rw [List.length_cons, e, ih]
      congr 1
      apply UInt8.toNat_inj.1
      simp
  have := h l.reverse
  rw [List.reverse_reverse, List.length_reverse] at this
  rw [this, List.reverse_reverse]

/-- the bytes that a number has are its own, if it is laid in the one way -/
theorem numB_eq (x : UInt8) (t : List UInt8) (hx : x.toNat ≤ t.length) (h8 : x.toNat ≤ 8) :
    (numB (num (t.take x.toNat)) = x :: t.take x.toNat) ↔ need (num (t.take x.toNat)) = x.toNat := by
  have hl : (t.take x.toNat).length = x.toNat := by simp; omega
  have hn : need (num (t.take x.toNat)) ≤ 8 := need_le 8 _ (by simpa using num_lt8 _ (by omega))
  constructor
  · intro h
    have h1 := congrArg UInt8.toNat (List.cons.inj h).1
    simp only [UInt8.toNat_ofNat'] at h1
    omega
  · intro h
    rw [numB, h]
    have e := num_highB (t.take x.toNat)
    rw [hl] at e
    rw [e]
    congr 1
    simp
end Go.Proofs.YtahdldbfcjbklaaGreat
