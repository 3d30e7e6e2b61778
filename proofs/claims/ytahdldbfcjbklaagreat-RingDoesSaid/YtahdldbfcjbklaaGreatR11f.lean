/- posthornref11: Write, Edit, Crash, New. -/
import Derived.Test.YtahdldbfcjbklaaGreatR11e
namespace Go.Proofs.YtahdldbfcjbklaaGreat
open Go.RowKit

set_option maxRecDepth 100000 in
set_option maxHeartbeats 2000000 in
theorem r11_write (F : Nat → Prop) (b : Nat) (d : DS) (n a : Bs) (w : World) (h : R11At w F b d) (ho : DiskOk d) (hn : d.now.length ≤ 900000000) (hnl : n.length ≤ 1000000000000) (ha : a.length ≤ 549755813888) :
    Calls Tryz.prog 39 #[.pointer (some ⟨b, 0, none⟩), vs n, vs a] w fun r w' => r = .returned (.int .i64 ((d.write n a).2 : Nat)) ∧ R11To w F b (d.write n a).1 w' := by
  obtain ⟨aN, cN, aS, cS, aP, cP, aT, cT, hb, hN, hS, hP, hT, hF⟩ := h.open
  have c0 := cell_of_row w b 0 _ _ _ hb
  have c4 := cell_of_row w b 4 _ _ _ hb
  simp only [List.getElem?_toArray, List.getElem?_cons_zero, List.getElem?_cons_succ] at c0 c4
  have HC := Lib.hid (r11_find d.now _ n w hN (by omega))
  have H := Lib.hid h
  have HO := Lib.hid ho
  have hw := ho.now
  have hds := dataF_le d.now n
  have hw1 : IntKind.i64.wrap ((sizeF d.now : Int) - ((dataF d.now n).length : Int)) = (sizeF d.now : Int) - ((dataF d.now n).length : Int) := IntWalk.i64_in _ (by omega)
  have hw2 : IntKind.i64.wrap ((sizeF d.now : Int) - ((dataF d.now n).length : Int) + (a.length : Int)) = (sizeF d.now : Int) - ((dataF d.now n).length : Int) + (a.length : Int) := IntWalk.i64_in _ (by omega)
  have c4' := fun nq => (show (w.drewN nq).cell? ⟨b, 4, none⟩ = some (.int .i64 d.quota) from c4)
  have c0' := fun nq => (show (w.drewN nq).cell? ⟨b, 0, none⟩ = some (.slice aN d.now.length cN) from c0)
  have HSZ2 := fun nq => Lib.hid ((r11_size F b d (w.drewN nq) (h.kept (S := fun _ => False) ((Chg.refl _ w).drewN nq) (fun _ _ h => h)) hn (by omega)).mono (fun e w' q => (⟨q.1, q.2.symm⟩ : e = .returned (.int .i64 (sizeF d.now)) ∧ w' = w.drewN nq)))
  have HDT := fun nq => Lib.hid ((r11_data d.now _ n (w.drewN nq) (ownsRow_chg hN (S := fun _ => False) ((Chg.refl _ w).drewN nq) (fun _ _ h => h)) (by omega)).mono (fun e w' q => (⟨q.1, q.2.symm⟩ : e = .returned (vs (dataF d.now n)) ∧ w' = w.drewN nq)))
  have HMay := fun w' => Lib.hid (r11_may n hnl w')
  have HW := Lib.hid hw
  have HDS := Lib.hid hds
  clear hb hP hT hF hS hN h ho hw hds
  cases hm : mayN n with
  | false =>
    have HR := Lib.hid (show d.write n a = (d, 1) from by simp [DS.write, hm])
    rw [hm] at HMay
    clear hm
    go_enter Tryz.func39, Tryz.ntmps39
    go_wp2_with fail
    refine (HMay _).out.mono ?_
    rintro e w' ⟨rfl, rfl⟩
    go_wp2_with fail
    go_ret
    rw [HR.out]
    exact ⟨rfl, H.out.to (Chg.refl _ _)⟩
  | true =>
    rw [hm] at HMay
    by_cases h4 : getF d.now n = none ∧ 200 ≤ d.now.length
    · have HR := Lib.hid (show d.write n a = (d, 4) from by simp [DS.write, hm, h4])
      have hz : findF d.now n < 0 := by rcases find_cases d.now n with ⟨_, h⟩ | ⟨⟨x, h⟩, _⟩; exact h; rw [h4.1] at h; cases h
      have h200 : (200 : Int) ≤ (d.now.length : Int) := by omega
      clear h4 hm
      go_enter Tryz.func39, Tryz.ntmps39
      go_wp2_with fail
      refine (HMay _).out.mono ?_
      rintro e w' ⟨rfl, rfl⟩
      go_wp2_with fail
      refine HC.out.mono ?_
      rintro e w' ⟨rfl, rfl⟩
      generalize findF d.now n = z at *
      go_wp2_with fail
      go_ret
      rw [HR.out]
      exact ⟨rfl, H.out.to (Chg.refl _ _)⟩
    · by_cases hq : d.quota < (sizeF d.now : Int) - ((dataF d.now n).length : Int) + (a.length : Int)
      · have HR := Lib.hid (show d.write n a = (d, 12) from by simp only [DS.write, hm]; rw [if_neg (by simp), if_neg h4, if_pos hq])
        rcases find_cases d.now n with ⟨hg, hz⟩ | ⟨⟨x, hg⟩, hz⟩
        · have h200 : (d.now.length : Int) < 200 := by
            have : ¬ 200 ≤ d.now.length := fun h => h4 ⟨hg, h⟩
            omega
          clear h4 hm hg
          go_enter Tryz.func39, Tryz.ntmps39
          go_wp2_with fail
          refine (HMay _).out.mono ?_
          rintro e w' ⟨rfl, rfl⟩
          go_wp2_with fail
          refine HC.out.mono ?_
          rintro e w' ⟨rfl, rfl⟩
          generalize findF d.now n = z at *
          go_wp2_with fail
          go_quiet ((first | (go_at_call 67; exact Calls.quiet_of_same (HSZ2 _).out) | (go_at_call 49; exact Calls.quiet_of_same (HDT _).out)))
          go_wp2_with fail
          go_ret
          rw [HR.out]
          exact ⟨rfl, (H.out.kept (S := fun _ => False) ((Chg.refl _ _).drewN nq) (fun _ _ h => h)).to ((Chg.refl _ _).drewN nq)⟩
        · clear h4 hm hg
          go_enter Tryz.func39, Tryz.ntmps39
          go_wp2_with fail
          refine (HMay _).out.mono ?_
          rintro e w' ⟨rfl, rfl⟩
          go_wp2_with fail
          refine HC.out.mono ?_
          rintro e w' ⟨rfl, rfl⟩
          generalize findF d.now n = z at *
          go_wp2_with fail
          go_quiet ((first | (go_at_call 67; exact Calls.quiet_of_same (HSZ2 _).out) | (go_at_call 49; exact Calls.quiet_of_same (HDT _).out)))
          go_wp2_with fail
          go_ret
          rw [HR.out]
          exact ⟨rfl, (H.out.kept (S := fun _ => False) ((Chg.refl _ _).drewN nq) (fun _ _ h => h)).to ((Chg.refl _ _).drewN nq)⟩
      · have HR := Lib.hid (show d.write n a = d.done ⟨1, n, [], a⟩ from by simp only [DS.write, hm]; rw [if_neg (by simp), if_neg h4, if_neg hq])
        have hqf : decide (d.quota < (sizeF d.now : Int) - ((dataF d.now n).length : Int) + (a.length : Int)) = false := by simp only [decide_eq_false_iff_not]; exact hq
        rcases find_cases d.now n with ⟨hg, hz⟩ | ⟨⟨x, hg⟩, hz⟩
        · have h200 : (d.now.length : Int) < 200 := by
            have : ¬ 200 ≤ d.now.length := fun h => h4 ⟨hg, h⟩
            omega
          clear h4 hm hg
          go_enter Tryz.func39, Tryz.ntmps39
          go_wp2_with fail
          refine (HMay _).out.mono ?_
          rintro e w' ⟨rfl, rfl⟩
          go_wp2_with fail
          refine HC.out.mono ?_
          rintro e w' ⟨rfl, rfl⟩
          generalize findF d.now n = z at *
          go_wp2_with fail
          go_quiet ((first | (go_at_call 67; exact Calls.quiet_of_same (HSZ2 _).out) | (go_at_call 49; exact Calls.quiet_of_same (HDT _).out)))
          have HC2 := Lib.hid (r11_done F b d (w.drewN nq) (H.out.kept (S := fun _ => False) ((Chg.refl _ _).drewN nq) (fun _ _ h => h)) HO.out hn ⟨1, n, [], a⟩ (by simp) (fun _ => by have := HDS.out; have := HW.out; simp only; omega))
          go_wp2_with fail
          refine HC2.out.mono ?_
          rintro r w5 ⟨rfl, h2⟩
          have h3 := Lib.hid h2
          clear h2
          go_wp2_with fail
          go_ret
          rw [HR.out]
          exact ⟨rfl, R11To.of_below (w1 := w.drewN nq) ⟨rfl, rfl, rfl, Nat.le_refl _, fun _ _ => rfl⟩ h3.out⟩
        · clear h4 hm hg
          go_enter Tryz.func39, Tryz.ntmps39
          go_wp2_with fail
          refine (HMay _).out.mono ?_
          rintro e w' ⟨rfl, rfl⟩
          go_wp2_with fail
          refine HC.out.mono ?_
          rintro e w' ⟨rfl, rfl⟩
          generalize findF d.now n = z at *
          go_wp2_with fail
          go_quiet ((first | (go_at_call 67; exact Calls.quiet_of_same (HSZ2 _).out) | (go_at_call 49; exact Calls.quiet_of_same (HDT _).out)))
          have HC2 := Lib.hid (r11_done F b d (w.drewN nq) (H.out.kept (S := fun _ => False) ((Chg.refl _ _).drewN nq) (fun _ _ h => h)) HO.out hn ⟨1, n, [], a⟩ (by simp) (fun _ => by have := HDS.out; have := HW.out; simp only; omega))
          go_wp2_with fail
          refine HC2.out.mono ?_
          rintro r w5 ⟨rfl, h2⟩
          have h3 := Lib.hid h2
          clear h2
          go_wp2_with fail
          go_ret
          rw [HR.out]
          exact ⟨rfl, R11To.of_below (w1 := w.drewN nq) ⟨rfl, rfl, rfl, Nat.le_refl _, fun _ _ => rfl⟩ h3.out⟩
end Go.Proofs.YtahdldbfcjbklaaGreat
