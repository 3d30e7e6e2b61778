/- RingDoes: awake's walk; large. -/
import Derived.Test.YtahdldbfcjbklaaGreatLaw3
namespace Go.Proofs.YtahdldbfcjbklaaGreat
open Go.RowKit
theorem SideATo.next {B : Nat} {w w' : World} {F : Nat → Prop} {b : Nat} {d : DS} {o : Option (List Rw)} {v : Value} (h : SideATo w F b d o v w') (hF : ∀ k, F k → B ≤ k) (hB : B ≤ w.heap.size) : ∃ F', SideA w' F' b d o v ∧ (∀ k, F' k → B ≤ k) ∧ Below B w w' ∧ (∀ x, x < w.heap.size → ¬ F x → ¬ F' x) := by
  obtain ⟨⟨F', h1, h2⟩, h3⟩ := h
  exact ⟨F', h1, fun k hk => (h2 k hk).elim (hF k) (fun h => by omega), h3.below hB hF, fun x hx hn h => (h2 x h).elim hn (fun h => by omega)⟩
theorem SideA.ptr {w : World} {F : Nat → Prop} {b : Nat} {d : DS} {L : List Rw} {v : Value} (h : SideA w F b d (some L) v) : ∃ r, v = .pointer (some ⟨r, 0, none⟩) := by
  obtain ⟨FD, hd, r, FR, h1, _⟩ := h.ex
  exact ⟨r, h1⟩
theorem SideB.ptr {w : World} {F : Nat → Prop} {b : Nat} {d : DS} {L : List Rw} {v : Value} (h : SideB w F b d (some L) v) : ∃ r, v = .pointer (some ⟨r, 0, none⟩) := by
  obtain ⟨FD, hd, r, FR, h1, _⟩ := h.ex
  exact ⟨r, h1⟩

set_option maxRecDepth 100000 in
theorem open_nil (w : World) : Calls Tryz.prog 7 #[.pointer none] w fun e w' => e = .returned (.tuple #[.pointer none, .int .i64 1]) ∧ w = w' := by
  go_enter Tryz.func7, Tryz.ntmps7
  go_wp2
  go_ret2
  exact ⟨rfl, rfl⟩

set_option maxRecDepth 100000 in
theorem large_any (k n : Int) (s : Bs) (w : World) (hs : s.length ≤ 9223372036854775807) : Calls Tryz.prog 9 #[.agg #[.int .i64 k, .int .i64 n, vs s]] w fun e w' => e = .returned (.bool (decide (1000 < s.length))) ∧ Below w.heap.size w w' := by
  by_cases h : 1000 < s.length
  · have hi : (1000 : Int) < (s.length : Int) := by omega
    go_enter Tryz.func9, Tryz.ntmps9
    go_wp2
    go_ret
    exact ⟨by simp [h], (Below.refl _ _).alloc (Nat.le_refl _) _⟩
  · have hi : (s.length : Int) ≤ 1000 := by omega
    go_enter Tryz.func9, Tryz.ntmps9
    go_wp2
    go_ret
    exact ⟨by simp [h]; omega, (Below.refl _ _).alloc (Nat.le_refl _) _⟩

theorem key_a1 : textB nA ++ numB 1 = [1, 1, 97, 1, 1] := by
  have h1 : need 1 = 1 := by rw [need_pos (by omega)]; simp [need]
  simp [textB, numB, h1, highB, lowB, List.range_succ]

set_option maxRecDepth 100000 in
set_option maxHeartbeats 4000000 in
theorem awake_any (w : World) : Calls Tryz.prog 4 #[] w fun e w' => e = .returned (.bool true) ∧ Below w.heap.size w w' := by
  obtain ⟨d1, d2, d3, p1, p2, p3, p4, p5, p6⟩ := awake_plain
  have r1 := openR_ok RD.new
  rw [p1] at r1
  have l1 := r1.2 _ rfl
  have r2 := beginR_ok r1.1 l1 nA
  rw [p2] at r2
  have r3 := endR_ok r2.1 r2.2 nA
  rw [p4] at r3
  simp only at r1 r2 r3
  have R1 := Lib.hid r1.1; have L1 := Lib.hid l1; have R2 := Lib.hid r2.1; have L2 := Lib.hid r2.2; have R3 := Lib.hid r3.1; have L3 := Lib.hid r3.2
  have P1 := Lib.hid p1; have P2 := Lib.hid p2; have P3 := Lib.hid p3; have P4 := Lib.hid p4; have P5 := Lib.hid p5; have P6 := Lib.hid p6
  clear r1 l1 r2 r3 p1 p2 p3 p4 p5 p6
  have s2 : stR [⟨nA, 2, 1⟩] nA = (2, 1) := by simp [stR, lastR]
  have s3 : stR [⟨nA, 2, 1⟩, ⟨nA, 2, 0⟩] nA = (2, 0) := by simp [stR, lastR]
  have s4 : stR [⟨nA, 2, 1⟩, ⟨nA, 2, 0⟩] nB = (1, 0) := by simp [stR, lastR]
  have S2 := Lib.hid s2; have S3 := Lib.hid s3; have S4 := Lib.hid s4
  clear s2 s3 s4
  go_enter Tryz.func4, Tryz.ntmps4
  go_wp2_with fail
  refine (new_any w (by decide)).mono ?_
  rintro e w1 ⟨rfl, ⟨F1, hd1, hf1⟩, hb1⟩
  have HS1 := Lib.hid (show SideA w1 F1 (w.heap.size + 2) DS.new none (.pointer none) from ⟨F1, hd1, rfl, fun _ => Iff.rfl⟩)
  have HF1 := Lib.hid hf1
  have HB1 := Lib.hid hb1
  have z1 := hb1.size
  clear hd1 hf1 hb1
  go_wp2_with fail
  refine (openA _ _ _ _ _ _ HS1.out RD.new (by omega) (by omega)).mono ?_
  rintro e w2 ⟨va, rfl, ht⟩
  rw [P1.out] at ht ⊢
  obtain ⟨F2, hs2, hf2, hb2, hn2⟩ := ht.next HF1.out z1
  obtain ⟨r, rfl⟩ := hs2.ptr
  have HS2 := Lib.hid hs2; have HF2 := Lib.hid hf2; have HB2 := Lib.hid (HB1.out.trans hb2)
  have z2 := HB2.out.size
  clear hs2 hf2 hb2 hn2 ht
  go_wp2_with fail
  refine (beginA _ _ _ _ [] r nA HS2.out R1.out L1.out (by omega) (by omega) (by omega) (by simp)).mono ?_
  rintro e w3 ⟨rfl, ht⟩
  rw [P2.out] at ht ⊢
  obtain ⟨F3, hs3, hf3, hb3, hn3⟩ := ht.next HF2.out z2
  have HS3 := Lib.hid hs3; have HF3 := Lib.hid hf3; have HB3 := Lib.hid (HB2.out.trans hb3)
  have z3 := HB3.out.size
  clear hs3 hf3 hb3 hn3 ht
  go_wp2_with fail
  refine (beginA _ _ _ _ _ r nA HS3.out R2.out L2.out (by omega) (by omega) (by omega) (by simp)).mono ?_
  rintro e w4 ⟨rfl, ht⟩
  rw [P3.out] at ht ⊢
  obtain ⟨F4, hs4, hf4, hb4, hn4⟩ := ht.next HF3.out z3
  have HS4 := Lib.hid hs4; have HF4 := Lib.hid hf4; have HB4 := Lib.hid (HB3.out.trans hb4)
  have z4 := HB4.out.size
  clear hs4 hf4 hb4 hn4 ht
  go_wp2_with fail
  refine (stateA _ _ _ _ _ r nA HS4.out L2.out (by omega)).mono ?_
  rintro e w5 ⟨rfl, hb5⟩
  rw [S2.out]
  have HX5 := Lib.hid (heap_alloc_new w5 (.cells #[.int .u64 ((2 : Nat) : Int), .int .u64 ((1 : Nat) : Int)] 51))
  have hba := hb5.alloc hb5.size (.cells #[.int .u64 ((2 : Nat) : Int), .int .u64 ((1 : Nat) : Int)] 51)
  have HS5 := Lib.hid (HS4.out.keptB hba)
  have HB5 := Lib.hid (HB4.out.trans (hba.mono z4))
  have z5 := hb5.size
  have z5' := HB5.out.size
  clear hba hb5
  go_wp2_with fail
  refine (endA _ _ _ _ _ r nA HS5.out R2.out L2.out (by omega) (by omega) (by omega) (by simp)).mono ?_
  rintro e w6 ⟨rfl, ht⟩
  rw [P4.out] at ht ⊢
  obtain ⟨F6, hs6, hf6, hb6, hn6⟩ := ht.next HF4.out z5'
  have HX6 := Lib.hid ((ht.chg.block w5.heap.size (by simp) (fun h => by have := HS4.out.lt _ h; omega)).trans HX5.out)
  have HS6 := Lib.hid hs6; have HF6 := Lib.hid hf6; have HB6 := Lib.hid (HB5.out.trans hb6)
  have z6 := HB6.out.size
  have y6 : w5.heap.size < w6.heap.size := lt_of_heap HX6.out
  have HN6 := Lib.hid (hn6 w5.heap.size (by simp) (fun h => by have := HS4.out.lt _ h; omega))
  clear hs6 hf6 hb6 hn6 ht
  go_wp2_with fail
  refine (endA _ _ _ _ _ r nA HS6.out R3.out L3.out (by omega) (by omega) (by omega) (by simp)).mono ?_
  rintro e w7 ⟨rfl, ht⟩
  rw [P5.out] at ht ⊢
  obtain ⟨F7, hs7, hf7, hb7, hn7⟩ := ht.next HF6.out z6
  have HX7 := Lib.hid ((ht.chg.block w5.heap.size y6 HN6.out).trans HX6.out)
  have HS7 := Lib.hid hs7; have HF7 := Lib.hid hf7; have HB7 := Lib.hid (HB6.out.trans hb7)
  have z7 := HB7.out.size
  have y7 : w5.heap.size < w7.heap.size := lt_of_heap HX7.out
  have HN7 := Lib.hid (hn7 w5.heap.size y6 HN6.out)
  clear hs7 hf7 hb7 hn7 ht
  go_wp2_with fail
  refine (openA _ _ _ _ _ _ HS7.out R3.out (by omega) (by omega)).mono ?_
  rintro e w8 ⟨va, rfl, ht⟩
  rw [P6.out] at ht ⊢
  obtain ⟨F8, hs8, hf8, hb8, hn8⟩ := ht.next HF7.out z7
  obtain ⟨r2, rfl⟩ := hs8.ptr
  have HX8 := Lib.hid ((ht.chg.block w5.heap.size y7 HN7.out).trans HX7.out)
  have HS8 := Lib.hid hs8; have HF8 := Lib.hid hf8; have HB8 := Lib.hid (HB7.out.trans hb8)
  have z8 := HB8.out.size
  have y8 : w5.heap.size < w8.heap.size := lt_of_heap HX8.out
  clear hs8 hf8 hb8 hn8 ht
  go_wp2_with fail
  refine (open_nil _).mono ?_
  rintro e w8' ⟨rfl, rfl⟩
  have x0 := cell_of_row w8 _ 0 _ _ _ HX8.out
  have x1 := cell_of_row w8 _ 1 _ _ _ HX8.out
  simp only [List.getElem?_toArray, List.getElem?_cons_zero, List.getElem?_cons_succ] at x0 x1
  go_wp2_with fail
  refine (stateA _ _ _ _ _ r2 nA HS8.out L3.out (by omega)).mono ?_
  rintro e w9 ⟨rfl, hb9⟩
  rw [S3.out]
  have HS9 := Lib.hid (HS8.out.keptB hb9); have HB9 := Lib.hid (HB8.out.trans (hb9.mono z8)); have z9 := HB9.out.size
  clear hb9 x0 x1
  go_wp2_with fail
  refine (stateA _ _ _ _ _ r2 nB HS9.out L3.out (by omega)).mono ?_
  rintro e w10 ⟨rfl, hb10⟩
  rw [S4.out]
  have HS10 := Lib.hid (HS9.out.keptB hb10); have HB10 := Lib.hid (HB9.out.trans (hb10.mono z9)); have z10 := HB10.out.size
  clear hb10
  go_wp2_with fail
  refine (liveA _ _ _ _ _ r2 nA 2 HS10.out L3.out (by omega)).mono ?_
  rintro e w11 ⟨rfl, hb11⟩
  rw [S3.out, show liveR (2, 0) 2 = true from by decide]
  have HS11 := Lib.hid (HS10.out.keptB hb11); have HB11 := Lib.hid (HB10.out.trans (hb11.mono z10)); have z11 := HB11.out.size
  clear hb11
  go_wp2_with fail
  refine (liveA _ _ _ _ _ r2 nA 1 HS11.out L3.out (by omega)).mono ?_
  rintro e w12 ⟨rfl, hb12⟩
  rw [S3.out, show liveR (2, 0) 1 = false from by decide]
  have HS12 := Lib.hid (HS11.out.keptB hb12); have HB12 := Lib.hid (HB11.out.trans (hb12.mono z11)); have z12 := HB12.out.size
  clear hb12
  go_wp2_with fail
  refine (liveA _ _ _ _ _ r2 nA 0 HS12.out L3.out (by omega)).mono ?_
  rintro e w13 ⟨rfl, hb13⟩
  rw [S3.out, show liveR (2, 0) 0 = false from by decide]
  have HS13 := Lib.hid (HS12.out.keptB hb13); have HB13 := Lib.hid (HB12.out.trans (hb13.mono z12)); have z13 := HB13.out.size
  clear hb13
  go_wp2_with fail
  refine (domainsA _ _ _ _ _ r2 HS13.out L3.out (by omega)).mono ?_
  rintro e w14 ⟨v, rfl, hv, hb14⟩
  have hd1 : domR [⟨nA, 2, 1⟩, ⟨nA, 2, 0⟩] = [nA] := by simp [domR, insD]
  rw [hd1] at hv
  obtain ⟨av, cv, rfl⟩ := ownsRow_val hv
  simp only [List.length_singleton]
  have HB14 := Lib.hid (HB13.out.trans (hb14.mono z13)); have z14 := HB14.out.size
  clear hb14 hv hd1
  go_wp2_with fail
  refine (key_any nA (by simp) 1 (by omega) _).mono ?_
  rintro e w15 ⟨rfl, hb15⟩
  rw [key_a1]
  have HB15 := Lib.hid (HB14.out.trans (hb15.mono z14))
  clear hb15
  go_wp2_with fail
  go_ret
  exact ⟨rfl, HB15.out⟩
end Go.Proofs.YtahdldbfcjbklaaGreat
