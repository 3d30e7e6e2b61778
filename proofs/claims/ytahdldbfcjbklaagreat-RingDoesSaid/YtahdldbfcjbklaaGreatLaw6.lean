/- RingDoes: the law's walk. -/
import Derived.Test.YtahdldbfcjbklaaGreatLaw5
namespace Go.Proofs.YtahdldbfcjbklaaGreat
open Go.RowKit
/-- the rows of an open ring are few -/
def OOk (N : Nat) (o : Option (List Rw)) : Prop := ∀ L, o = some L → LOk N L
theorem OOk.mono {N N' : Nat} {o : Option (List Rw)} (h : OOk N o) (hN : N ≤ N') : OOk N' o := fun L hL => (h L hL).mono hN

set_option maxRecDepth 100000 in
set_option maxHeartbeats 8000000 in
theorem law_walk (v : Value) (acts : List (Int × Int × Bs)) (ep : Nat) (hep : ep < 18446744073709551616) (w : World) (ha : ActsAt w w.heap.size v acts) :
    Calls Tryz.prog 3 #[v, .int .u64 ep] w fun e w' => e = .returned (.bool true) ∧ Below w.heap.size w w' := by
  obtain ⟨av, cv, rfl, ha0, ha1, ha2, hA⟩ := ha.ex
  have HA := Lib.hid hA
  clear ha hA
  go_enter Tryz.func3, Tryz.ntmps3
  go_wp2_with fail
  refine (awake_any w).mono ?_
  rintro e w1 ⟨rfl, hb1⟩
  have HB1 := Lib.hid hb1
  have z1 := hb1.size
  clear hb1
  go_wp2_with fail
  refine (new_any w1 (by decide)).mono ?_
  rintro e w2 ⟨rfl, ⟨F2, hd2, hf2⟩, hb2⟩
  have HA2 := Lib.hid (show SideA w2 F2 (w1.heap.size + 2) DS.new none (.pointer none) from ⟨F2, hd2, rfl, fun _ => Iff.rfl⟩)
  have HF2 := Lib.hid hf2
  have HB2 := Lib.hid (HB1.out.trans (hb2.mono z1))
  have z2 := HB2.out.size
  clear hd2 hf2 hb2
  go_wp2_with fail
  refine (r11_new w2).mono ?_
  rintro e w3 ⟨rfl, ⟨F3, hd3, hf3⟩, hb3⟩
  have HM3 := Lib.hid (show LawMid w.heap.size 0 none w3 (w1.heap.size + 2) w2.heap.size DS.new DS.new none none (.pointer none) (.pointer none) from
    ⟨F2, F3, HA2.out.keptB hb3, ⟨F3, hd3, rfl, fun _ => Iff.rfl⟩, fun k hk hx => by have := HA2.out.lt k hk; have := hf3 k hx; omega, fun k hk => by have := HF2.out k hk; omega, fun k hk => by have := hf3 k hk; omega, fun z hz => by cases hz⟩)
  have HB3 := Lib.hid (HB2.out.trans (hb3.mono z2))
  have z3 := HB3.out.size
  clear hd3 hf3 hb3
  obtain ⟨bd, hbd⟩ : ∃ bd, bd = w1.heap.size + 2 := ⟨_, rfl⟩
  obtain ⟨bx, hbx⟩ : ∃ bx, bx = w2.heap.size := ⟨_, rfl⟩
  rw [← hbd, ← hbx] at HM3
  have HBD := Lib.hid hbd
  have HBX := Lib.hid hbx
  clear hbd hbx
  go_wp2_with fail
  rw [← HBD.out]
  rw [← HBX.out]
  refine (LawMid.openA' HM3.out z3 RD.new (by omega) (by omega)).mono ?_
  rintro e w4 ⟨va, rfl, hm4, hb4⟩
  have HM4 := Lib.hid hm4
  have HB4 := Lib.hid (HB3.out.trans hb4)
  have z4 := HB4.out.size
  clear hm4 hb4 HBD HBX
  have hro := openR_ok RD.new
  have HRO := Lib.hid hro
  clear hro
  have HOP : Hid (∀ x, x = openR DS.new → openR DS.new = x) := Lib.hid (fun x h => h.symm)
  generalize hop : openR DS.new = op at *
  have HOP2 := Lib.hid hop
  clear hop HOP
  obtain ⟨d0, o0, c0⟩ := op
  simp only at HM4 HRO ⊢
  go_wp2_with fail
  refine (LawMid.openB' HM4.out z4 RD.new (by omega) (by omega)).mono ?_
  rintro e w5 ⟨vb, rfl, hm5, hb5⟩
  rw [HOP2.out] at hm5 ⊢
  have HL5 := Lib.hid hm5
  have HB5 := Lib.hid (HB4.out.trans hb5)
  have z5 := HB5.out.size
  have HRD0 := Lib.hid HRO.out.1
  have HLO0 := Lib.hid (show OOk 1101 o0 from fun L hL => (HRO.out.2 L hL).mono (by omega))
  clear hm5 hb5 HRO HOP2 HM3 HM4
  go_wp2_with fail
  go_loopw [7, 8, 9, 10, 11] (fun a e b f i wx => ∃ (n : Nat) (d : DS) (o : Option (List Rw)) (c : Nat), n ≤ acts.length ∧ n ≤ 60 ∧ i = .int .i64 n ∧ e = .int .i64 c ∧ f = .int .i64 c ∧ LawAt w.heap.size 0 none wx bd bx d o a b ∧ RD (1100 * (n + 1)) (8 * (n + 1)) d ∧ OOk (1101 * (n + 1)) o ∧ Below w.heap.size w wx) (fun _ _ _ _ i _ => 60 - (intOf i).toNat)
  case atStart => exact ⟨0, d0, o0, c0, Nat.zero_le _, Nat.zero_le _, rfl, rfl, rfl, HL5.out, HRD0.out.mono (by omega) (by omega), HLO0.out, HB5.out⟩
  case round =>
    obtain ⟨n, d, o, c, hn, hn60, rfl, rfl, rfl, hla, hrd, hlo, hb⟩ := hrel
    have HLA := Lib.hid hla
    have HRD := Lib.hid hrd
    have HLO := Lib.hid hlo
    have HB := Lib.hid hb
    have z := hb.size
    clear hla hrd hlo hb HL5 HRD0 HLO0 HB5 HB4 HB3 HB2 HB1 HA2 HF2
    by_cases hlt : n < acts.length
    · by_cases hlt60 : n < 60
      · obtain ⟨⟨K, N, S⟩, hy⟩ : ∃ y, acts[n]? = some y := ⟨_, List.getElem?_eq_getElem hlt⟩
        obtain ⟨g, off, rfl, hg, h0, h1, h2, hNr, hSl⟩ := HA.out n _ hy
        have k0 := (HB.out.cell (p := ⟨g, off + n * 3, none⟩) hg).trans h0
        have k1 := (HB.out.cell (p := ⟨g, off + n * 3 + 1, none⟩) hg).trans h1
        have k2 := (HB.out.cell (p := ⟨g, off + n * 3 + 2, none⟩) hg).trans h2
        have b1 : (n : Int) < (acts.length : Int) := by omega
        have b2 : (n : Int) < 60 := by omega
        have HNR := Lib.hid hNr
        simp only at k0 k1 k2 hSl
        clear h0 h1 h2 hy hg hNr
        go_wp2_with fail
        refine (large_any K N S _ hSl).mono ?_
        rintro e w6 ⟨rfl, hb6⟩
        have HLB := Lib.hid ((HLA.out.boxed (.cells #[.int .i64 K, .int .i64 N, vs S] 37)).keptB hb6)
        have HB6 := Lib.hid ((HB.out.alloc (by omega) (.cells #[.int .i64 K, .int .i64 N, vs S] 37)).trans (hb6.mono (by simp; omega)))
        have z6 := HB6.out.size
        clear hb6 k0 k1 k2
        by_cases hS : 1000 < S.length
        · have e1 : decide (1000 < S.length) = true := by simp [hS]
          rw [e1]
          go_wp2_with fail
          go_ret
          exact ⟨rfl, HB6.out⟩
        · have e1 : decide (1000 < S.length) = false := by simp [hS]
          rw [e1]
          have hS2 : S.length ≤ 1000 := by omega
          clear hS e1
          obtain ⟨q, hq⟩ : ∃ q, q = wr.heap.size := ⟨_, rfl⟩
          rw [← hq] at HLB ⊢
          have HQ := Lib.hid hq
          clear hq
          go_upto_block 2 with (fail)
          go_cut [] (fun wy => ∃ (d' : DS) (o' : Option (List Rw)), LawAt w.heap.size q (some (.cells #[.int .i64 K, .int .i64 N, vs S] 37 (0, 0))) wy bd bx d' o' u7 u9 ∧ RD (1100 * (n + 1) + 1100) (8 * (n + 1) + 4) d' ∧ OOk (1101 * (n + 1) + 1) o' ∧ Below w.heap.size w wy)
          case first =>
            have x0 := cell_of_row _ q 0 _ _ _ (HLB.out.box); have x1 := cell_of_row _ q 1 _ _ _ (HLB.out.box); have x2 := cell_of_row _ q 2 _ _ _ (HLB.out.box); simp only [List.getElem?_toArray, List.getElem?_cons_zero, List.getElem?_cons_succ] at x0 x1 x2
            rcases (by omega : K = 0 ∨ K = 1 ∨ K = 3 ∨ K = 4 ∨ K = 5 ∨ K = 6 ∨ (K ≠ 0 ∧ K ≠ 1 ∧ K ≠ 3 ∧ K ≠ 4 ∧ K ≠ 5 ∧ K ≠ 6)) with rfl | rfl | rfl | rfl | rfl | rfl | ⟨k0, k1, k3, k4, k5, k6⟩
            · as_aux_lemma =>
              cases o with
              | none =>
                obtain ⟨rfl, rfl⟩ := LawAt.none_ptr HLB.out
                go_wp2_with fail
                go_meet
                case rel => exact ⟨d, none, HLB.out, HRD.out.mono (by omega) (by omega), HLO.out.mono (by omega), HB6.out⟩
              | some L =>
                obtain ⟨r, s, rfl, rfl⟩ := LawAt.some_ptr HLB.out
                have HL := Lib.hid (HLO.out L rfl)
                have HOK := Lib.hid (beginR_ok HRD.out HL.out S)
                go_wp2_with fail
                refine (LawMid.beginA' HLB.out z6 S HRD.out HL.out (by omega) (by omega) (by omega) hS2).mono ?_
                rintro e w7 ⟨rfl, hm7, hb7⟩
                have y0 := cell_of_row _ q 0 _ _ _ (hm7.box); have y1 := cell_of_row _ q 1 _ _ _ (hm7.box); have y2 := cell_of_row _ q 2 _ _ _ (hm7.box); simp only [List.getElem?_toArray, List.getElem?_cons_zero, List.getElem?_cons_succ] at y0 y1 y2
                have HM7 := Lib.hid hm7
                have HB7 := Lib.hid (HB6.out.trans hb7)
                have z7 := HB7.out.size
                clear hm7 hb7
                go_wp2_with fail
                refine (LawMid.beginB' HM7.out z7 S HRD.out HL.out (by omega) (by omega) (by omega) hS2).mono ?_
                rintro e w8 ⟨rfl, hm8, hb8⟩
                have HM8 := Lib.hid hm8
                have HB8 := Lib.hid (HB7.out.trans hb8)
                clear hm8 hb8 HM7
                generalize beginR d L S = br at *
                obtain ⟨d', L', m', e'⟩ := br
                simp only at HM8 HOK ⊢
                have v0 := cell_of_row _ q 0 _ _ _ (HM8.out.box); have v1 := cell_of_row _ q 1 _ _ _ (HM8.out.box); have v2 := cell_of_row _ q 2 _ _ _ (HM8.out.box); simp only [List.getElem?_toArray, List.getElem?_cons_zero, List.getElem?_cons_succ] at v0 v1 v2
                go_wp2_with fail
                go_meet
                case rel => exact ⟨d', some L', HM8.out, HOK.out.1.mono (by omega) (by omega), fun L'' hL => by cases hL; exact HOK.out.2, HB8.out⟩
            · as_aux_lemma =>
              cases o with
              | none =>
                obtain ⟨rfl, rfl⟩ := LawAt.none_ptr HLB.out
                go_wp2_with fail
                go_meet
                case rel => exact ⟨d, none, HLB.out, HRD.out.mono (by omega) (by omega), HLO.out.mono (by omega), HB6.out⟩
              | some L =>
                obtain ⟨r, s, rfl, rfl⟩ := LawAt.some_ptr HLB.out
                have HL := Lib.hid (HLO.out L rfl)
                have HOK := Lib.hid (endR_ok HRD.out HL.out S)
                go_wp2_with fail
                go_region_with (first | (go_at_call 12; refine (LawMid.endA' HM_w7b.out z_w7b S HRD.out HL.out (by omega) (by omega) (by omega) hS2).mono ?_; rintro e w8 ⟨rfl, hm_w8, hb_w8⟩; have HM_w8 := Lib.hid hm_w8; have HB_w8 := Lib.hid ((HB_w7b.out.trans hb_w8)); have z_w8 := HB_w8.out.size; clear hm_w8 hb_w8; have v_w8_0 := cell_of_row _ q 0 _ _ _ (HM_w8.out.box); have v_w8_1 := cell_of_row _ q 1 _ _ _ (HM_w8.out.box); have v_w8_2 := cell_of_row _ q 2 _ _ _ (HM_w8.out.box); simp only [List.getElem?_toArray, List.getElem?_cons_zero, List.getElem?_cons_succ] at v_w8_0 v_w8_1 v_w8_2) | (go_at_call 12; refine (LawMid.endA' (HLB.out.keptB (Below.refl _ _).drew) z6 S HRD.out HL.out (by omega) (by omega) (by omega) hS2).mono ?_; rintro e w7a ⟨rfl, hm_w7a, hb_w7a⟩; have HM_w7a := Lib.hid hm_w7a; have HB_w7a := Lib.hid ((HB6.out.drew.trans hb_w7a)); have z_w7a := HB_w7a.out.size; clear hm_w7a hb_w7a; have v_w7a_0 := cell_of_row _ q 0 _ _ _ (HM_w7a.out.box); have v_w7a_1 := cell_of_row _ q 1 _ _ _ (HM_w7a.out.box); have v_w7a_2 := cell_of_row _ q 2 _ _ _ (HM_w7a.out.box); simp only [List.getElem?_toArray, List.getElem?_cons_zero, List.getElem?_cons_succ] at v_w7a_0 v_w7a_1 v_w7a_2) | (go_at_call 13; refine (LawMid.endB' HM_w7a.out z_w7a S HRD.out HL.out (by omega) (by omega) (by omega) hS2).mono ?_; rintro e w8 ⟨rfl, hm_w8, hb_w8⟩; have HM_w8 := Lib.hid hm_w8; have HB_w8 := Lib.hid ((HB_w7a.out.trans hb_w8)); have z_w8 := HB_w8.out.size; clear hm_w8 hb_w8; have v_w8_0 := cell_of_row _ q 0 _ _ _ (HM_w8.out.box); have v_w8_1 := cell_of_row _ q 1 _ _ _ (HM_w8.out.box); have v_w8_2 := cell_of_row _ q 2 _ _ _ (HM_w8.out.box); simp only [List.getElem?_toArray, List.getElem?_cons_zero, List.getElem?_cons_succ] at v_w8_0 v_w8_1 v_w8_2) | (go_at_call 13; refine (LawMid.endB' (HLB.out.keptB (Below.refl _ _).drew) z6 S HRD.out HL.out (by omega) (by omega) (by omega) hS2).mono ?_; rintro e w7b ⟨rfl, hm_w7b, hb_w7b⟩; have HM_w7b := Lib.hid hm_w7b; have HB_w7b := Lib.hid ((HB6.out.drew.trans hb_w7b)); have z_w7b := HB_w7b.out.size; clear hm_w7b hb_w7b; have v_w7b_0 := cell_of_row _ q 0 _ _ _ (HM_w7b.out.box); have v_w7b_1 := cell_of_row _ q 1 _ _ _ (HM_w7b.out.box); have v_w7b_2 := cell_of_row _ q 2 _ _ _ (HM_w7b.out.box); simp only [List.getElem?_toArray, List.getElem?_cons_zero, List.getElem?_cons_succ] at v_w7b_0 v_w7b_1 v_w7b_2))
                all_goals
                  go_wp2_with fail
                  go_meet
                  case rel => exact ⟨_, _, HM_w8.out, HOK.out.1.mono (by omega) (by omega), fun L'' hL => by cases hL; exact HOK.out.2, HB_w8.out⟩
            · as_aux_lemma =>
              go_wp2_with fail
              refine (LawMid.fuseA' HLB.out z6 N).mono ?_
              rintro e w7 ⟨rfl, hm7, hb7⟩
              have y0 := cell_of_row _ q 0 _ _ _ (hm7.box); have y1 := cell_of_row _ q 1 _ _ _ (hm7.box); have y2 := cell_of_row _ q 2 _ _ _ (hm7.box); simp only [List.getElem?_toArray, List.getElem?_cons_zero, List.getElem?_cons_succ] at y0 y1 y2
              have z7 := hb7.size
              have HM7 := Lib.hid hm7
              have HB7 := Lib.hid (HB6.out.trans hb7)
              clear hm7 hb7
              go_wp2_with fail
              refine (LawMid.fuseB' HM7.out (by omega) N).mono ?_
              rintro e w8 ⟨rfl, hm8, hb8⟩
              have HM8 := Lib.hid hm8
              have HB8 := Lib.hid (HB7.out.trans hb8)
              clear hm8 hb8
              have v0 := cell_of_row _ q 0 _ _ _ (HM8.out.box); have v1 := cell_of_row _ q 1 _ _ _ (HM8.out.box); have v2 := cell_of_row _ q 2 _ _ _ (HM8.out.box); simp only [List.getElem?_toArray, List.getElem?_cons_zero, List.getElem?_cons_succ] at v0 v1 v2
              go_wp2_with fail
              go_meet
              case rel => exact ⟨_, o, HM8.out, (HRD.out.setFuse N HNR.out).mono (by omega) (by omega), HLO.out.mono (by omega), HB8.out⟩
            · as_aux_lemma =>
              go_wp2_with fail
              refine (LawMid.crashA' HLB.out z6 N HRD.out (by omega) (by omega)).mono ?_
              rintro e w7 ⟨rfl, hm7, hb7⟩
              have y0 := cell_of_row _ q 0 _ _ _ (hm7.box); have y1 := cell_of_row _ q 1 _ _ _ (hm7.box); have y2 := cell_of_row _ q 2 _ _ _ (hm7.box); simp only [List.getElem?_toArray, List.getElem?_cons_zero, List.getElem?_cons_succ] at y0 y1 y2
              have z7 := hb7.size
              have HM7 := Lib.hid hm7
              have HB7 := Lib.hid (HB6.out.trans hb7)
              clear hm7 hb7
              go_wp2_with fail
              refine (LawMid.crashB' HM7.out (by omega) N HRD.out (by omega) (by omega)).mono ?_
              rintro e w8 ⟨rfl, hm8, hb8⟩
              have HM8 := Lib.hid hm8
              have HB8 := Lib.hid (HB7.out.trans hb8)
              clear hm8 hb8
              have v0 := cell_of_row _ q 0 _ _ _ (HM8.out.box); have v1 := cell_of_row _ q 1 _ _ _ (HM8.out.box); have v2 := cell_of_row _ q 2 _ _ _ (HM8.out.box); simp only [List.getElem?_toArray, List.getElem?_cons_zero, List.getElem?_cons_succ] at v0 v1 v2
              go_wp2_with fail
              go_meet
              case rel => exact ⟨_, o, HM8.out, (HRD.out.crash N).mono (by omega) (by omega), HLO.out.mono (by omega), HB8.out⟩
            · as_aux_lemma =>
              go_wp2_with fail
              refine (LawMid.quotaA' HLB.out z6 N).mono ?_
              rintro e w7 ⟨rfl, hm7, hb7⟩
              have y0 := cell_of_row _ q 0 _ _ _ (hm7.box); have y1 := cell_of_row _ q 1 _ _ _ (hm7.box); have y2 := cell_of_row _ q 2 _ _ _ (hm7.box); simp only [List.getElem?_toArray, List.getElem?_cons_zero, List.getElem?_cons_succ] at y0 y1 y2
              have z7 := hb7.size
              have HM7 := Lib.hid hm7
              have HB7 := Lib.hid (HB6.out.trans hb7)
              clear hm7 hb7
              go_wp2_with fail
              refine (LawMid.quotaB' HM7.out (by omega) N).mono ?_
              rintro e w8 ⟨rfl, hm8, hb8⟩
              have HM8 := Lib.hid hm8
              have HB8 := Lib.hid (HB7.out.trans hb8)
              clear hm8 hb8
              have v0 := cell_of_row _ q 0 _ _ _ (HM8.out.box); have v1 := cell_of_row _ q 1 _ _ _ (HM8.out.box); have v2 := cell_of_row _ q 2 _ _ _ (HM8.out.box); simp only [List.getElem?_toArray, List.getElem?_cons_zero, List.getElem?_cons_succ] at v0 v1 v2
              go_wp2_with fail
              go_meet
              case rel => exact ⟨_, o, HM8.out, (HRD.out.setQuota N HNR.out).mono (by omega) (by omega), HLO.out.mono (by omega), HB8.out⟩
            · as_aux_lemma =>
              go_wp2_with fail
              go_region_with (first | (go_at_call 20; refine (LawMid.editA' HM_w7b.out z_w7b S HRD.out).mono ?_; rintro e w8 ⟨rfl, hm_w8, hb_w8⟩; have HM_w8 := Lib.hid hm_w8; have HB_w8 := Lib.hid ((HB_w7b.out.trans hb_w8)); have z_w8 := HB_w8.out.size; clear hm_w8 hb_w8; have v_w8_0 := cell_of_row _ q 0 _ _ _ (HM_w8.out.box); have v_w8_1 := cell_of_row _ q 1 _ _ _ (HM_w8.out.box); have v_w8_2 := cell_of_row _ q 2 _ _ _ (HM_w8.out.box); simp only [List.getElem?_toArray, List.getElem?_cons_zero, List.getElem?_cons_succ] at v_w8_0 v_w8_1 v_w8_2) | (go_at_call 20; refine (LawMid.editA' (HLB.out.keptB (Below.refl _ _).drew) z6 S HRD.out).mono ?_; rintro e w7a ⟨rfl, hm_w7a, hb_w7a⟩; have HM_w7a := Lib.hid hm_w7a; have HB_w7a := Lib.hid ((HB6.out.drew.trans hb_w7a)); have z_w7a := HB_w7a.out.size; clear hm_w7a hb_w7a; have v_w7a_0 := cell_of_row _ q 0 _ _ _ (HM_w7a.out.box); have v_w7a_1 := cell_of_row _ q 1 _ _ _ (HM_w7a.out.box); have v_w7a_2 := cell_of_row _ q 2 _ _ _ (HM_w7a.out.box); simp only [List.getElem?_toArray, List.getElem?_cons_zero, List.getElem?_cons_succ] at v_w7a_0 v_w7a_1 v_w7a_2) | (go_at_call 21; refine (LawMid.editB' HM_w7a.out z_w7a S HRD.out).mono ?_; rintro e w8 ⟨rfl, hm_w8, hb_w8⟩; have HM_w8 := Lib.hid hm_w8; have HB_w8 := Lib.hid ((HB_w7a.out.trans hb_w8)); have z_w8 := HB_w8.out.size; clear hm_w8 hb_w8; have v_w8_0 := cell_of_row _ q 0 _ _ _ (HM_w8.out.box); have v_w8_1 := cell_of_row _ q 1 _ _ _ (HM_w8.out.box); have v_w8_2 := cell_of_row _ q 2 _ _ _ (HM_w8.out.box); simp only [List.getElem?_toArray, List.getElem?_cons_zero, List.getElem?_cons_succ] at v_w8_0 v_w8_1 v_w8_2) | (go_at_call 21; refine (LawMid.editB' (HLB.out.keptB (Below.refl _ _).drew) z6 S HRD.out).mono ?_; rintro e w7b ⟨rfl, hm_w7b, hb_w7b⟩; have HM_w7b := Lib.hid hm_w7b; have HB_w7b := Lib.hid ((HB6.out.drew.trans hb_w7b)); have z_w7b := HB_w7b.out.size; clear hm_w7b hb_w7b; have v_w7b_0 := cell_of_row _ q 0 _ _ _ (HM_w7b.out.box); have v_w7b_1 := cell_of_row _ q 1 _ _ _ (HM_w7b.out.box); have v_w7b_2 := cell_of_row _ q 2 _ _ _ (HM_w7b.out.box); simp only [List.getElem?_toArray, List.getElem?_cons_zero, List.getElem?_cons_succ] at v_w7b_0 v_w7b_1 v_w7b_2))
              all_goals
                go_wp2_with fail
                go_meet
                case rel => exact ⟨_, _, HM_w8.out, (HRD.out.edit S).mono (by omega) (by omega), HLO.out.mono (by omega), HB_w8.out⟩
            · as_aux_lemma =>
              have f0 : (K == 0) = false := by rw [beq_eq_false_iff_ne]; exact k0
              have f1 : (K == 1) = false := by rw [beq_eq_false_iff_ne]; exact k1
              have f3 : (K == 3) = false := by rw [beq_eq_false_iff_ne]; exact k3
              have f4 : (K == 4) = false := by rw [beq_eq_false_iff_ne]; exact k4
              have f5 : (K == 5) = false := by rw [beq_eq_false_iff_ne]; exact k5
              have f6 : (K == 6) = false := by rw [beq_eq_false_iff_ne]; exact k6
              clear k0 k1 k3 k4 k5 k6
              go_wp2_with fail
              go_meet
              case rel => exact ⟨d, o, HLB.out, HRD.out.mono (by omega) (by omega), HLO.out.mono (by omega), HB6.out⟩
          case rest =>
            obtain ⟨w7, rfl⟩ : ∃ w7, w7 = wc := ⟨_, rfl⟩
            obtain ⟨d1, o1, hla1, hrd1, hlo1, hb1⟩ := hcut
            have HL1 := Lib.hid hla1
            have HRD1 := Lib.hid hrd1
            have HLO1 := Lib.hid hlo1
            have HB1 := Lib.hid hb1
            have z7 := hb1.size
            clear hla1 hrd1 hlo1 hb1 HLB HRD HLO HB HB6 HLA
            have x0 := cell_of_row _ q 0 _ _ _ (HL1.out.box); have x1 := cell_of_row _ q 1 _ _ _ (HL1.out.box); have x2 := cell_of_row _ q 2 _ _ _ (HL1.out.box); simp only [List.getElem?_toArray, List.getElem?_cons_zero, List.getElem?_cons_succ] at x0 x1 x2
            go_step; go_step
            go_cut [7, 8, 9, 10] (fun a e b f wy => ∃ (d' : DS) (o' : Option (List Rw)) (c' : Nat), e = .int .i64 c' ∧ f = .int .i64 c' ∧ LawAt w.heap.size q (some (.cells #[.int .i64 K, .int .i64 N, vs S] 37 (0, 0))) wy bd bx d' o' a b ∧ RD (1100 * (n + 1) + 1100) (8 * (n + 1) + 8) d' ∧ OOk (1101 * (n + 1) + 1101) o' ∧ Below w.heap.size w wy)
            case first =>
             as_aux_lemma =>
              by_cases hK : K = 2 ∨ K = 4
              · rcases hK with rfl | rfl
                all_goals
                  go_wp2_with fail
                  refine (LawMid.openA' HL1.out z7 HRD1.out (by omega) (by omega)).mono ?_
                  rintro e w8 ⟨v8, rfl, hm8, hb8⟩
                  have HM8 := Lib.hid hm8
                  have HB8 := Lib.hid (HB1.out.trans hb8)
                  have z8 := HB8.out.size
                  have HOK := Lib.hid (openR_ok HRD1.out)
                  clear hm8 hb8
                  go_wp2_with fail
                  refine (LawMid.openB' HM8.out z8 HRD1.out (by omega) (by omega)).mono ?_
                  rintro e w9 ⟨v9, rfl, hm9, hb9⟩
                  have HM9 := Lib.hid hm9
                  have HB9 := Lib.hid (HB8.out.trans hb9)
                  clear hm9 hb9 HM8
                  generalize openR d1 = op at *
                  obtain ⟨d2, o2, c2⟩ := op
                  simp only at HM9 HOK ⊢
                  go_wp2_with fail
                  go_meet
                  case rel => exact ⟨d2, o2, c2, rfl, rfl, HM9.out, HOK.out.1.mono (by omega) (by omega), fun L hL => (HOK.out.2 L hL).mono (by omega), HB9.out⟩
              · have f2 : (K == 2) = false := by rw [beq_eq_false_iff_ne]; omega
                have f4 : (K == 4) = false := by rw [beq_eq_false_iff_ne]; omega
                clear hK
                go_wp2_with fail
                go_meet
                case rel => exact ⟨d1, o1, c, rfl, rfl, HL1.out, HRD1.out.mono (by omega) (by omega), HLO1.out.mono (by omega), HB1.out⟩
            case rest =>
              obtain ⟨w8, rfl⟩ : ∃ w8, w8 = wc := ⟨_, rfl⟩
              obtain ⟨d2, o2, c2, rfl, rfl, hla2, hrd2, hlo2, hb2⟩ := hcut
              have HL2 := Lib.hid hla2
              have HRD2 := Lib.hid hrd2
              have HLO2 := Lib.hid hlo2
              have HB2 := Lib.hid hb2
              have z8 := hb2.size
              clear hla2 hrd2 hlo2 hb2 HL1 HRD1 HLO1 HB1 x0 x1 x2
              have x2 := cell_of_row _ q 2 _ _ _ (HL2.out.box); simp only [List.getElem?_toArray, List.getElem?_cons_zero, List.getElem?_cons_succ] at x2
              go_wp2_with fail
              refine (LawMid.readA' HL2.out HRD2.out).mono ?_
              rintro e w' ⟨rfl, rfl⟩
              go_wp2_with fail
              refine (LawMid.readB' HL2.out HRD2.out).mono ?_
              rintro e w' ⟨rfl, rfl⟩
              generalize d2.read ringN = rd at *
              obtain ⟨rs, rc⟩ := rd
              simp only
              have x2' := fun dd os => cell_regrown (w := w8) x2 dd os
              cases o2 with
              | none =>
               as_aux_lemma =>
                obtain ⟨rfl, rfl⟩ := LawAt.none_ptr HL2.out
                go_wp2_with fail
                refine wp_region_quietB (by kernel_rfl) (by kernel_rfl) ?_
                repeat (go_big_quiet_step ((first | (go_at_call 24; exact Calls.regrown_of (key_any S hS2 ep hep _)) | (go_at_call 25; exact Calls.regrown_of (r14_key S hS2 ep hep _)))))
                refine wpQuiet_nil ?_
                intro w9 hb9
                go_wp2_with fail
                go_roundw
                case rel => exact ⟨n + 1, d2, none, c2, by omega, by omega, by go_num, rfl, rfl, (HL2.out.keptB hb9).plain, HRD2.out.mono (by omega) (by omega), HLO2.out.mono (by omega), HB2.out.trans (hb9.mono z8)⟩
                case measure => simp [intOf]; omega
              | some L =>
               as_aux_lemma =>
                obtain ⟨r, s, rfl, rfl⟩ := LawAt.some_ptr HL2.out
                have HLK := Lib.hid (HLO2.out L rfl)
                go_wp2_with fail
                refine wp_region_quietB (by kernel_rfl) (by kernel_rfl) ?_
                repeat (go_big_quiet_step ((first | (go_at_call 24; exact Calls.regrown_of (key_any S hS2 ep hep _)) | (go_at_call 25; exact Calls.regrown_of (r14_key S hS2 ep hep _)))))
                refine wpQuiet_nil ?_
                intro w9 hb9
                have HL9 := Lib.hid (HL2.out.keptB hb9)
                have HB9 := Lib.hid (HB2.out.trans (hb9.mono z8))
                have z9 := HB9.out.size
                have y2 := cell_of_row _ q 2 _ _ _ (HL9.out.box); simp only [List.getElem?_toArray, List.getElem?_cons_zero, List.getElem?_cons_succ] at y2
                clear hb9 x2 x2'
                go_wp2_with fail
                refine (LawMid.stateB' HL9.out S HLK.out (by omega)).mono ?_
                rintro e w10 ⟨rfl, hb10⟩
                have hdl : (domR L).length ≤ 1000000000 := by have h1 := domR_len L; have h2 := HLK.out.len; omega
                have HB11 := Lib.hid (HB9.out.trans ((hb10.alloc hb10.size (.cells #[vs S, .int .u64 ((stR L S).1 : Nat), .int .u64 ((stR L S).2 : Nat)] 48)).mono z9))
                have HL11 := Lib.hid (HL9.out.keptB (hb10.alloc hb10.size (.cells #[vs S, .int .u64 ((stR L S).1 : Nat), .int .u64 ((stR L S).2 : Nat)] 48)))
                have hx11 := heap_alloc_new w10 (.cells #[vs S, .int .u64 ((stR L S).1 : Nat), .int .u64 ((stR L S).2 : Nat)] 48)
                have hs10 := HLK.out.st S
                clear hb10 y2
                go_wp2_with fail
                generalize hst : stR L S = st at *
                obtain ⟨sn, so⟩ := st
                simp only at hx11 HB11 HL11 hs10 ⊢
                obtain ⟨w11, ew, HB11, HL11, hx11⟩ : ∃ w11, w11 = w10.alloc (.cells #[vs S, .int .u64 (sn : Nat), .int .u64 (so : Nat)] 48) ∧ Hid (Below w.heap.size w w11) ∧ Hid (LawAt w.heap.size q (some (.cells #[.int .i64 K, .int .i64 N, vs S] 37 (0, 0))) w11 bd bx d2 (some L) (.pointer (some ⟨r, 0, none⟩)) (.pointer (some ⟨s, 0, none⟩))) ∧ w11.heap[w10.heap.size]? = some (.cells #[vs S, .int .u64 (sn : Nat), .int .u64 (so : Nat)] 48 (0, 0)) := ⟨_, rfl, HB11, HL11, hx11⟩
                rw [← ew]
                obtain ⟨q2, hq2⟩ : ∃ q2, q2 = w10.heap.size := ⟨_, rfl⟩
                rw [← hq2] at hx11 ⊢
                have HST := Lib.hid hst
                clear ew hq2 hst
                have u1 := cell_of_row _ q2 1 _ _ _ hx11
                have u2 := cell_of_row _ q2 2 _ _ _ hx11
                have y2 := cell_of_row _ q 2 _ _ _ (HL11.out.box)
                simp only [List.getElem?_toArray, List.getElem?_cons_zero, List.getElem?_cons_succ] at u1 u2 y2
                have hql := lt_of_heap (HL11.out.box)
                have hq2l := lt_of_heap hx11
                clear hx11
                go_region_held3 (fun w' => w'.cell? ⟨q, 2, none⟩ = some (vs S) ∧ w'.cell? ⟨q2, 1, none⟩ = some (.int .u64 (sn : Nat)) ∧ w'.cell? ⟨q2, 2, none⟩ = some (.int .u64 (so : Nat)) ∧ Below w11.heap.size w11 w') ((go_split_ands; refine ⟨?_, ?_, ?_, ?_⟩ <;> first | exact (Below.refl _ _).drew | exact hbz.out | exact cell_below hbz.out y2 | exact cell_below hbz.out u1 | exact cell_below hbz.out u2 | exact cell_below (Below.refl _ _).drew y2 | exact cell_below (Below.refl _ _).drew u1 | exact cell_below (Below.refl _ _).drew u2))
                  (first | (go_at_call 27; refine (LawMid.stateA' (HL11.out.keptB (‹_ ∧ _ ∧ _ ∧ Below w11.heap.size w11 _›).2.2.2) S HLK.out (by omega)).mono ?_; rintro e wv ⟨rfl, hbv⟩; (try rw [HST.out]); have hbz := Lib.hid ((‹_ ∧ _ ∧ _ ∧ Below w11.heap.size w11 _›).2.2.2.trans (hbv.mono ((‹_ ∧ _ ∧ _ ∧ Below w11.heap.size w11 _›).2.2.2.size))); clear hbv) | (go_at_call 31; refine (LawMid.liveA' (HL11.out.keptB (‹_ ∧ _ ∧ _ ∧ Below w11.heap.size w11 _›).2.2.2) S _ HLK.out (by omega)).mono ?_; rintro e wv ⟨rfl, hbv⟩; (try rw [HST.out]); have hbz := Lib.hid ((‹_ ∧ _ ∧ _ ∧ Below w11.heap.size w11 _›).2.2.2.trans (hbv.mono ((‹_ ∧ _ ∧ _ ∧ Below w11.heap.size w11 _›).2.2.2.size))); clear hbv) | (go_at_call 32; refine (LawMid.liveB' (HL11.out.keptB (‹_ ∧ _ ∧ _ ∧ Below w11.heap.size w11 _›).2.2.2) S _ HLK.out (by omega)).mono ?_; rintro e wv ⟨rfl, hbv⟩; (try rw [HST.out]); have hbz := Lib.hid ((‹_ ∧ _ ∧ _ ∧ Below w11.heap.size w11 _›).2.2.2.trans (hbv.mono ((‹_ ∧ _ ∧ _ ∧ Below w11.heap.size w11 _›).2.2.2.size))); clear hbv) | (go_at_call 29; refine (LawMid.domainsA' (HL11.out.keptB (‹_ ∧ _ ∧ _ ∧ Below w11.heap.size w11 _›).2.2.2) HLK.out (by omega)).mono ?_; rintro e wv ⟨vA, rfl, hvA, hbv⟩; have HVA := Lib.hid (ownsRow_base hvA (Nat.zero_le _)); (try have HVB2 := Lib.hid (NamesV.keptB HVB.out hbv)); have hbz := Lib.hid ((‹_ ∧ _ ∧ _ ∧ Below w11.heap.size w11 _›).2.2.2.trans (hbv.mono ((‹_ ∧ _ ∧ _ ∧ Below w11.heap.size w11 _›).2.2.2.size))); clear hbv hvA) | (go_at_call 30; refine (LawMid.domainsB' (HL11.out.keptB (‹_ ∧ _ ∧ _ ∧ Below w11.heap.size w11 _›).2.2.2) HLK.out (by omega)).mono ?_; rintro e wv ⟨vB, rfl, hvB, hbv⟩; have HVB := Lib.hid (ownsRow_base hvB (Nat.zero_le _)); (try have HVA2 := Lib.hid (NamesV.keptB HVA.out hbv)); have hbz := Lib.hid ((‹_ ∧ _ ∧ _ ∧ Below w11.heap.size w11 _›).2.2.2.trans (hbv.mono ((‹_ ∧ _ ∧ _ ∧ Below w11.heap.size w11 _›).2.2.2.size))); clear hbv hvB) | (go_at_call 28; refine (r08_same (domR L) (domR L) vA vB 0 _ HVA2.out HVB.out hdl hdl).mono ?_; rintro e wv ⟨rfl, nn, rfl⟩; have hbz := Lib.hid (belowN (‹_ ∧ _ ∧ _ ∧ Below w11.heap.size w11 _›).2.2.2 nn)) | (go_at_call 28; refine (r08_same (domR L) (domR L) vA vB 0 _ HVA.out HVB2.out hdl hdl).mono ?_; rintro e wv ⟨rfl, nn, rfl⟩; have hbz := Lib.hid (belowN (‹_ ∧ _ ∧ _ ∧ Below w11.heap.size w11 _›).2.2.2 nn)))
                all_goals
                  have HFZ := Lib.hid ((‹_ ∧ _ ∧ _ ∧ Below w11.heap.size w11 _›).2.2.2)
                  go_wp2_with fail
                  go_roundw
                  case rel => exact ⟨n + 1, d2, some L, c2, by omega, by omega, by go_num, rfl, rfl, (HL11.out.keptB HFZ.out).plain, HRD2.out.mono (by omega) (by omega), HLO2.out.mono (by omega), HB11.out.trans (HFZ.out.mono HB11.out.size)⟩
                  case measure => simp [intOf]; omega
      · obtain rfl : n = 60 := by omega
        go_wp2_with fail
        go_ret
        exact ⟨rfl, HB.out⟩
    · obtain rfl : n = acts.length := by omega
      go_wp2_with fail
      go_ret
      exact ⟨rfl, HB.out⟩
end Go.Proofs.YtahdldbfcjbklaaGreat
