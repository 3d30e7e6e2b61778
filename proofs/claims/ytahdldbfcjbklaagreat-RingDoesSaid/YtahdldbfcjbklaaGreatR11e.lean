/- posthornref11: May, Size, Write, Append, Edit, New. -/
import Derived.Test.YtahdldbfcjbklaaGreatR11d
namespace Go.Proofs.YtahdldbfcjbklaaGreat
open Go.RowKit
theorem mayC_false (c : UInt8) (h : ((c.toNat : Int) < 48 ∨ (57 < (c.toNat : Int) ∧ (c.toNat : Int) < 97) ∨ 122 < (c.toNat : Int)) ∧ (c.toNat : Int) ≠ 46 ∧ (c.toNat : Int) ≠ 95 ∧ (c.toNat : Int) ≠ 45 ∧ (c.toNat : Int) ≠ 47) : mayC c = false := by
  unfold mayC
  generalize c.toNat = n at *
  simp only [Bool.or_eq_false_iff, Bool.and_eq_false_iff, decide_eq_false_iff_not, beq_eq_false_iff_ne]
  omega
theorem mayC_true (c : UInt8) (h : (97 ≤ (c.toNat : Int) ∧ (c.toNat : Int) ≤ 122) ∨ (48 ≤ (c.toNat : Int) ∧ (c.toNat : Int) ≤ 57) ∨ (c.toNat : Int) = 46 ∨ (c.toNat : Int) = 95 ∨ (c.toNat : Int) = 45 ∨ (c.toNat : Int) = 47) : mayC c = true := by
  unfold mayC
  generalize c.toNat = n at *
  simp only [Bool.or_eq_true, Bool.and_eq_true, decide_eq_true_eq, beq_iff_eq]
  omega

set_option maxRecDepth 100000 in
set_option maxHeartbeats 2000000 in
theorem r11_may (s : Bs) (hs : s.length ≤ 1000000000000) (w : World) :
    Calls Tryz.prog 66 #[vs s] w fun e w' => e = .returned (.bool (mayN s)) ∧ w = w' := by
  go_enter Tryz.func66, Tryz.ntmps66
  go_wp2
  go_loop [3] (fun i => ∃ j : Nat, j ≤ s.length ∧ i = .int .i64 j ∧ Hid ((s.take j).all mayC = true)) (fun i => s.length - (intOf i).toNat)
  case atStart => exact ⟨0, Nat.zero_le _, rfl, Lib.hid (by simp)⟩
  case round =>
    obtain ⟨j, hj, rfl, HA⟩ := hrel
    by_cases hlt : j < s.length
    · have HT := Lib.hid (show mayC s[j] = true → (s.take (j + 1)).all mayC = true from fun h => by rw [List.take_add_one, List.getElem?_eq_getElem hlt, List.all_append]; simp [HA.out, h])
      have HN := Lib.hid (show mayC s[j] = false → mayN s = false from fun h => by
        have : s.all mayC = false := by
          rw [List.all_eq_false]; exact ⟨s[j], List.getElem_mem hlt, by simp [h]⟩
        simp [mayN, this])
      have HY := Lib.hid (mayC_true s[j])
      have HZ := Lib.hid (mayC_false s[j])
      have hlo : (0 : Int) ≤ (s[j].toNat : Int) := by omega
      generalize hc : s[j] = c at *
      have hcase : (97 ≤ (c.toNat : Int) ∧ (c.toNat : Int) ≤ 122) ∨ (48 ≤ (c.toNat : Int) ∧ (c.toNat : Int) ≤ 57) ∨ (c.toNat : Int) = 46 ∨ (c.toNat : Int) = 95 ∨ (c.toNat : Int) = 45 ∨ (c.toNat : Int) = 47 ∨ (((c.toNat : Int) < 48 ∨ (57 < (c.toNat : Int) ∧ (c.toNat : Int) < 97) ∨ 122 < (c.toNat : Int)) ∧ (c.toNat : Int) ≠ 46 ∧ (c.toNat : Int) ≠ 95 ∧ (c.toNat : Int) ≠ 45 ∧ (c.toNat : Int) ≠ 47) := by omega
      generalize hcn : (c.toNat : Int) = n at *
      rcases hcase with ⟨a1, a2⟩ | ⟨a1, a2⟩ | rfl | rfl | rfl | rfl | ⟨hrest, n1, n2, n3, n4⟩
      · have HM := Lib.hid (HT.out (HY.out (.inl ⟨a1, a2⟩)))
        go_wp2
        go_round
        case rel => exact ⟨j + 1, by omega, by go_num, HM⟩
        case measure => simp [intOf]; omega
      · have HM := Lib.hid (HT.out (HY.out (.inr (.inl ⟨a1, a2⟩))))
        have b1 : n < 97 := by omega
        go_wp2
        go_round
        case rel => exact ⟨j + 1, by omega, by go_num, HM⟩
        case measure => simp [intOf]; omega
      · have HM := Lib.hid (HT.out (HY.out (by omega)))
        go_wp2
        go_round
        case rel => exact ⟨j + 1, by omega, by go_num, HM⟩
        case measure => simp [intOf]; omega
      · have HM := Lib.hid (HT.out (HY.out (by omega)))
        go_wp2
        go_round
        case rel => exact ⟨j + 1, by omega, by go_num, HM⟩
        case measure => simp [intOf]; omega
      · have HM := Lib.hid (HT.out (HY.out (by omega)))
        go_wp2
        go_round
        case rel => exact ⟨j + 1, by omega, by go_num, HM⟩
        case measure => simp [intOf]; omega
      · have HM := Lib.hid (HT.out (HY.out (by omega)))
        go_wp2
        go_round
        case rel => exact ⟨j + 1, by omega, by go_num, HM⟩
        case measure => simp [intOf]; omega
      · have HM := Lib.hid (HN.out (HZ.out ⟨hrest, n1, n2, n3, n4⟩))
        have e1 : (n == 46) = false := by simpa using n1
        have e2 : (n == 95) = false := by simpa using n2
        have e3 : (n == 45) = false := by simpa using n3
        have e4 : (n == 47) = false := by simpa using n4
        have g1 : (n != 46) = true := by simpa using n1
        have g2 : (n != 95) = true := by simpa using n2
        have g3 : (n != 45) = true := by simpa using n3
        have g4 : (n != 47) = true := by simpa using n4
        clear n1 n2 n3 n4
        rcases hrest with hr | ⟨hr1, hr2⟩ | hr
        · have b1 : n < 97 := by omega
          go_wp2
          go_ret
          rw [HM.out]; exact ⟨rfl, rfl⟩
        · have b1 : ¬ n < 48 := by omega
          go_wp2
          go_ret
          rw [HM.out]; exact ⟨rfl, rfl⟩
        · have b1 : ¬ n < 97 := by omega
          have b2 : ¬ n < 48 := by omega
          have b3 : 57 < n := by omega
          go_wp2
          go_ret
          rw [HM.out]; exact ⟨rfl, rfl⟩
    · obtain rfl : j = s.length := by omega
      have HA2 := Lib.hid (show s.all mayC = true from by have := HA.out; rwa [List.take_length] at this)
      by_cases h1 : 1 ≤ s.length
      · by_cases h80 : s.length ≤ 80
        · have HN := Lib.hid (show mayN s = true from by simp [mayN, HA2.out, h1, h80])
          go_wp2
          go_ret
          rw [HN.out]
          exact ⟨by first | rfl | (simp [h80]; done) | (simp; omega), rfl⟩
        · have HN := Lib.hid (show mayN s = false from by simp [mayN, h80])
          go_wp2
          go_ret
          rw [HN.out]
          exact ⟨by first | rfl | (simp [h80]; done) | (simp; omega), rfl⟩
      · have HN := Lib.hid (show mayN s = false from by simp [mayN, h1])
        go_wp2
        go_ret
        rw [HN.out]
        exact ⟨by first | rfl | (simp [h1]; done) | (simp; omega), rfl⟩

theorem sizeF_take_succ (l : Files) (k : Nat) (p : Bs × Bs) (hp : l[k]? = some p) : sizeF (l.take (k + 1)) = sizeF (l.take k) + p.2.length := by
  rw [List.take_add_one, hp]; simp [sizeF]
theorem sizeF_take_le (l : Files) (k : Nat) : sizeF (l.take k) ≤ sizeF l := by
  conv => rhs; rw [← List.take_append_drop k l]
  simp only [sizeF, List.map_append, List.sum_append]; omega

set_option maxRecDepth 100000 in
set_option maxHeartbeats 1000000 in
theorem r11_size (F : Nat → Prop) (b : Nat) (d : DS) (w : World) (h : R11At w F b d) (hn : d.now.length ≤ 900000000) (hsz : sizeF d.now ≤ 1099511627776) :
    Calls Tryz.prog 67 #[.pointer (some ⟨b, 0, none⟩)] w fun r w' => r = .returned (.int .i64 (sizeF d.now)) ∧ w = w' := by
  obtain ⟨aN, cN, aS, cS, aP, cP, aT, cT, hb, hN, hS, hP, hT, hF⟩ := h.open
  have c0 := cell_of_row w b 0 _ _ _ hb
  simp only [List.getElem?_toArray, List.getElem?_cons_zero] at c0
  have HN := Lib.hid hN
  clear hb hP hT hF hS hN h
  go_enter Tryz.func67, Tryz.ntmps67
  go_wp2
  go_loop [3, 4] (fun n i => ∃ k : Nat, k ≤ d.now.length ∧ i = .int .i64 k ∧ n = .int .i64 (sizeF (d.now.take k))) (fun _ i => d.now.length - (intOf i).toNat)
  case atStart => exact ⟨0, Nat.zero_le _, rfl, rfl⟩
  case round =>
    obtain ⟨k, hk, rfl, rfl⟩ := hrel
    by_cases hlt : k < d.now.length
    · obtain ⟨g, rfl, hc, _, _, hcv, hcm⟩ := ownsRow_some HN.out (by omega)
      obtain ⟨p, hp⟩ : ∃ p, d.now[k]? = some p := ⟨_, List.getElem?_eq_getElem hlt⟩
      have d1 := rec_cells fileV_length hc hp 1 (by omega)
      simp only [fileV, List.getElem?_cons_zero, List.getElem?_cons_succ] at d1
      have HS := Lib.hid (sizeF_take_succ d.now k p hp)
      have hle := sizeF_take_le d.now (k + 1)
      have hle2 : sizeF (d.now.take k) + p.2.length ≤ 1099511627776 := by rw [HS.out] at hle; omega
      clear hle hc hp
      unfold maxLen at hcm
      go_wp2
      go_round
      case rel => exact ⟨k + 1, by omega, by go_num, by rw [HS.out]; go_num⟩
      case measure => simp [intOf]; omega
    · obtain rfl : k = d.now.length := by omega
      have HL := Lib.hid (show d.now.take d.now.length = d.now from List.take_length)
      go_wp2
      go_ret
      first | exact ⟨rfl, rfl⟩ | (rw [HL.out]; exact ⟨rfl, rfl⟩)

/-- what find tells, and what it means -/
theorem find_cases (l : Files) (n : Bs) : (getF l n = none ∧ findF l n < 0) ∨ ((∃ x, getF l n = some x) ∧ 0 ≤ findF l n) := by
  obtain ⟨f1, f2⟩ := findF_neg l n
  cases hg : getF l n with
  | none => exact .inl ⟨rfl, by rw [f1.1 hg]; decide⟩
  | some x => obtain ⟨k, hk, _⟩ := f2 x hg; exact .inr ⟨⟨x, rfl⟩, by rw [hk]; omega⟩

set_option maxRecDepth 100000 in
set_option maxHeartbeats 1000000 in
theorem r11_append (F : Nat → Prop) (b : Nat) (d : DS) (n a : Bs) (w : World) (h : R11At w F b d) (ho : DiskOk d) (hn : d.now.length ≤ 900000000) (ha : a.length ≤ 549755813888) :
    Calls Tryz.prog 71 #[.pointer (some ⟨b, 0, none⟩), vs n, vs a] w fun r w' => r = .returned (.int .i64 ((d.append n a).2 : Nat)) ∧ R11To w F b (d.append n a).1 w' := by
  obtain ⟨aN, cN, aS, cS, aP, cP, aT, cT, hb, hN, hS, hP, hT, hF⟩ := h.open
  have c0 := cell_of_row w b 0 _ _ _ hb
  have c4 := cell_of_row w b 4 _ _ _ hb
  simp only [List.getElem?_toArray, List.getElem?_cons_zero, List.getElem?_cons_succ] at c0 c4
  have HC := Lib.hid (r11_find d.now _ n w hN (by omega))
  have H := Lib.hid h
  have HO := Lib.hid ho
  have hw := ho.now
  have hwr : IntKind.i64.wrap ((sizeF d.now : Int) + (a.length : Int)) = (sizeF d.now : Int) + (a.length : Int) := IntWalk.i64_in _ (by omega)
  have c4' := fun nq => (show (w.drewN nq).cell? ⟨b, 4, none⟩ = some (.int .i64 d.quota) from c4)
  have HSZ2 := fun nq => Lib.hid ((r11_size F b d (w.drewN nq) (h.kept (S := fun _ => False) ((Chg.refl _ w).drewN nq) (fun _ _ h => h)) hn (by omega)).mono (fun e w' q => (⟨q.1, q.2.symm⟩ : e = .returned (.int .i64 (sizeF d.now)) ∧ w' = w.drewN nq)))
  have HW := Lib.hid hw
  clear hb hP hT hF hS hN h ho hw
  rcases find_cases d.now n with ⟨hg, hz⟩ | ⟨⟨x, hg⟩, hz⟩
  · have HR := Lib.hid (show d.append n a = (d, 10) from by simp [DS.append, hg])
    clear hg
    go_enter Tryz.func71, Tryz.ntmps71
    go_wp2_with fail
    refine HC.out.mono ?_
    rintro e w' ⟨rfl, rfl⟩
    generalize findF d.now n = z at *
    go_wp2_with fail
    go_ret
    rw [HR.out]
    exact ⟨rfl, H.out.to (Chg.refl _ _)⟩
  · by_cases hq : d.quota < (sizeF d.now : Int) + (a.length : Int)
    · have HR := Lib.hid (show d.append n a = (d, 12) from by simp [DS.append, hg, hq])
      clear hg
      go_enter Tryz.func71, Tryz.ntmps71
      go_wp2_with fail
      refine HC.out.mono ?_
      rintro e w' ⟨rfl, rfl⟩
      generalize findF d.now n = z at *
      go_wp2_with fail
      go_quiet ((go_at_call 67; exact Calls.quiet_of_same (HSZ2 _).out))
      go_wp2_with fail
      go_ret
      rw [HR.out]
      exact ⟨rfl, (H.out.kept (S := fun _ => False) ((Chg.refl _ _).drewN nq) (fun _ _ h => h)).to ((Chg.refl _ _).drewN nq)⟩
    · have HR := Lib.hid (show d.append n a = d.done ⟨2, n, [], a⟩ from by simp [DS.append, hg, hq])
      have hqf : decide (d.quota < (sizeF d.now : Int) + (a.length : Int)) = false := by simp [hq]
      clear hg
      go_enter Tryz.func71, Tryz.ntmps71
      go_wp2_with fail
      refine HC.out.mono ?_
      rintro e w' ⟨rfl, rfl⟩
      generalize findF d.now n = z at *
      go_wp2_with fail
      go_quiet ((go_at_call 67; exact Calls.quiet_of_same (HSZ2 _).out))
      have HC2 := Lib.hid (r11_done F b d (w.drewN nq) (H.out.kept (S := fun _ => False) ((Chg.refl _ _).drewN nq) (fun _ _ h => h)) HO.out hn ⟨2, n, [], a⟩ (by simp) (fun _ => by have := dataF_le d.now n; have := HW.out; simp only; omega))
      go_wp2_with fail
      refine HC2.out.mono ?_
      rintro r w5 ⟨rfl, h2⟩
      have h3 := Lib.hid h2
      clear h2
      go_wp2_with fail
      go_ret
      rw [HR.out]
      exact ⟨rfl, R11To.of_below (w1 := w.drewN nq) ⟨rfl, rfl, rfl, Nat.le_refl _, fun _ _ => rfl⟩ h3.out⟩
end Go.Proofs.YtahdldbfcjbklaaGreat
