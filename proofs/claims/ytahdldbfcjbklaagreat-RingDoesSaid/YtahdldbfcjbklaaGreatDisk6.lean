/- disk: Write. -/
import Derived.Test.YtahdldbfcjbklaaGreatDisk5
import Derived.Test.YtahdldbfcjbklaaGreatMay
namespace Go.Proofs.YtahdldbfcjbklaaGreat
open Go.RowKit Go.MapKept
open Go.Sort (grow)

set_option maxRecDepth 100000 in
set_option maxHeartbeats 4000000 in
theorem write_any (F : Nat → Prop) (b : Nat) (d : DS) (n a : Bs) (w : World) (h : DiskAt 62 89 w F b d) (ho : DiskOk d) (hn : n.length ≤ 1000000000000) (ha : a.length ≤ 549755813888) :
    Calls Tryz.prog 36 #[.pointer (some ⟨b, 0, none⟩), vs n, vs a] w fun r w' => r = .returned (.int .i64 ((d.write n a).2 : Nat)) ∧ DiskTo 62 89 w F b (d.write n a).1 w' := by
  have hhas := has_any F b d n w h
  have hmay := may_any n hn w
  have H := Lib.hid h
  have HO := Lib.hid ho
  cases hm : mayN n with
  | false =>
    have HR := Lib.hid (show d.write n a = (d, 1) from by simp [DS.write, hm])
    rw [hm] at hmay
    have HH := Lib.hid hmay; clear hhas hmay h ho hm
    go_enter Tryz.func36, Tryz.ntmps36
    go_wp2_with fail
    refine HH.out.mono ?_
    rintro e w' ⟨rfl, rfl⟩
    go_wp2_with fail
    go_ret
    rw [HR.out]
    exact ⟨rfl, F, H.out, fun k hk => .inl hk, Chg.refl F _⟩
  | true =>
    rw [hm] at hmay
    have HMay := Lib.hid hmay
    obtain ⟨⟨mN, mS, vP, vT, esN, esS, cN, cS, hb, hMN, hFN, hMS, hFS, hne, hP, hT, hPT, hF⟩, _⟩ := h
    have hblt := lt_of_heap hb
    have hlen : esN.length = d.now.length := by have := (hFN.perm hMN.keys).length_eq; simpa using this
    have c0 := cell_of_row w b 0 _ _ _ hb
    have c4 := cell_of_row w b 4 _ _ _ hb
    simp only [List.getElem?_toArray, List.getElem?_cons_zero, List.getElem?_cons_succ] at c0 c4
    have hw := ho.now
    have hds := data_le_size d.now n
    have hw1 : IntKind.i64.wrap ((sizeF d.now : Int) - ((dataF d.now n).length : Int)) = (sizeF d.now : Int) - ((dataF d.now n).length : Int) := IntWalk.i64_in _ (by omega)
    have hw2 : IntKind.i64.wrap ((sizeF d.now : Int) - ((dataF d.now n).length : Int) + (a.length : Int)) = (sizeF d.now : Int) - ((dataF d.now n).length : Int) + (a.length : Int) := IntWalk.i64_in _ (by omega)
    have c4' := fun dd os => cell_regrown (w := w) c4 dd os
    have c0' := fun dd os => cell_regrown (w := w) c0 dd os
    have hln := fun ty => run_len_map (P := Tryz.prog) Tryz.underlying59 hMN ty
    rw [hlen] at hln
    have hlk := fun dd os => (run_lookup_map vs_key Tryz.underlying59 (Tryz.zeroString _) (hMN.kept (S := fun _ => False) (Chg.of_below (below_regrown w dd os)) (fun h => h)) n).2
    simp only [hFN.data n] at hlk
    have HW := Lib.hid hw
    have HDS := Lib.hid hds
    clear hb hMN hFN hMS hFS hne hP hT hPT hF hw hlen ho hmay hds
    have HB : Hid (∃ g : Bool, (getF d.now n).isSome = g ∧ (g = false → d.now.length < 200 ∨ 200 ≤ d.now.length)) := Lib.hid ⟨_, rfl, fun _ => by omega⟩
    by_cases h4 : getF d.now n = none ∧ 200 ≤ d.now.length
    · have HR := Lib.hid (show d.write n a = (d, 4) from by simp [DS.write, hm, h4])
      rw [h4.1] at hhas
      have h200 : (200 : Int) ≤ (d.now.length : Int) := by omega
      have HH := Lib.hid hhas; clear hhas h4 hm
      go_enter Tryz.func36, Tryz.ntmps36
      go_wp2_with fail
      refine HMay.out.mono ?_
      rintro e w' ⟨rfl, rfl⟩
      go_wp2_with fail
      refine HH.out.mono ?_
      rintro e w' ⟨rfl, rfl⟩
      simp only [Option.isSome_none]
      go_wp2_with fail
      go_ret
      rw [HR.out]
      exact ⟨rfl, F, H.out, fun k hk => .inl hk, Chg.refl F _⟩
    · by_cases hq : d.quota < (sizeF d.now : Int) - ((dataF d.now n).length : Int) + (a.length : Int)
      · have HR := Lib.hid (show d.write n a = (d, 12) from by simp only [DS.write, hm]; rw [if_neg (by simp), if_neg h4, if_pos hq])
        cases hg : getF d.now n with
        | none =>
          have h200 : (d.now.length : Int) < 200 := by
            have : ¬ 200 ≤ d.now.length := fun h => h4 ⟨hg, h⟩
            omega
          rw [hg] at hhas
          have HH := Lib.hid hhas; clear hhas h4 hm hg
          go_enter Tryz.func36, Tryz.ntmps36
          go_wp2_with fail
          refine HMay.out.mono ?_
          rintro e w' ⟨rfl, rfl⟩
          go_wp2_with fail
          refine HH.out.mono ?_
          rintro e w' ⟨rfl, rfl⟩
          simp only [Option.isSome_none]
          go_wp2_with fail
          refine wp_region_quietB (by kernel_rfl) (by kernel_rfl) ?_
          repeat (go_big_quiet_step ((go_at_call 61; exact Calls.regrown_of (size_any F b d _ (H.out.keptB (below_regrown _ _ _)) (by have := HW.out; omega)))))
          refine wpQuiet_nil ?_
          intro w4 hb4
          go_wp2
          go_ret
          rw [HR.out]
          exact ⟨rfl, F, H.out.keptB hb4, fun k hk => .inl hk, Chg.of_below hb4⟩
        | some x =>
          rw [hg] at hhas
          have HH := Lib.hid hhas; clear hhas h4 hm hg
          go_enter Tryz.func36, Tryz.ntmps36
          go_wp2_with fail
          refine HMay.out.mono ?_
          rintro e w' ⟨rfl, rfl⟩
          go_wp2_with fail
          refine HH.out.mono ?_
          rintro e w' ⟨rfl, rfl⟩
          simp only [Option.isSome_some]
          go_wp2_with fail
          refine wp_region_quietB (by kernel_rfl) (by kernel_rfl) ?_
          repeat (go_big_quiet_step ((go_at_call 61; exact Calls.regrown_of (size_any F b d _ (H.out.keptB (below_regrown _ _ _)) (by have := HW.out; omega)))))
          refine wpQuiet_nil ?_
          intro w4 hb4
          go_wp2
          go_ret
          rw [HR.out]
          exact ⟨rfl, F, H.out.keptB hb4, fun k hk => .inl hk, Chg.of_below hb4⟩
      · have HR := Lib.hid (show d.write n a = d.done ⟨1, n, [], a⟩ from by simp only [DS.write, hm]; rw [if_neg (by simp), if_neg h4, if_neg hq])
        have hqf : decide (d.quota < (sizeF d.now : Int) - ((dataF d.now n).length : Int) + (a.length : Int)) = false := by simp only [decide_eq_false_iff_not]; exact hq
        cases hg : getF d.now n with
        | none =>
          have h200 : (d.now.length : Int) < 200 := by
            have : ¬ 200 ≤ d.now.length := fun h => h4 ⟨hg, h⟩
            omega
          rw [hg] at hhas
          have HH := Lib.hid hhas; clear hhas h4 hm hg
          go_enter Tryz.func36, Tryz.ntmps36
          go_wp2_with fail
          refine HMay.out.mono ?_
          rintro e w' ⟨rfl, rfl⟩
          go_wp2_with fail
          refine HH.out.mono ?_
          rintro e w' ⟨rfl, rfl⟩
          simp only [Option.isSome_none]
          go_wp2_with fail
          refine wp_region_quietB (by kernel_rfl) (by kernel_rfl) ?_
          repeat (go_big_quiet_step ((go_at_call 61; exact Calls.regrown_of (size_any F b d _ (H.out.keptB (below_regrown _ _ _)) (by have := HW.out; omega)))))
          refine wpQuiet_nil ?_
          intro w4 hb4
          have HB4 := Lib.hid hb4
          have HC := Lib.hid (done_all F b d w4 (H.out.keptB hb4) HO.out ⟨1, n, [], a⟩ (by simp) (fun _ => by have := HDS.out; have := HW.out; simp only; omega))
          clear hb4
          go_wp2_with fail
          refine HC.out.mono ?_
          rintro r w5 ⟨rfl, h2⟩
          have h3 := Lib.hid h2
          clear h2
          go_wp2_with fail
          go_ret
          rw [HR.out]
          exact ⟨rfl, DiskTo.of_below HB4.out h3.out⟩
        | some x =>
          rw [hg] at hhas
          have HH := Lib.hid hhas; clear hhas h4 hm hg
          go_enter Tryz.func36, Tryz.ntmps36
          go_wp2_with fail
          refine HMay.out.mono ?_
          rintro e w' ⟨rfl, rfl⟩
          go_wp2_with fail
          refine HH.out.mono ?_
          rintro e w' ⟨rfl, rfl⟩
          simp only [Option.isSome_some]
          go_wp2_with fail
          refine wp_region_quietB (by kernel_rfl) (by kernel_rfl) ?_
          repeat (go_big_quiet_step ((go_at_call 61; exact Calls.regrown_of (size_any F b d _ (H.out.keptB (below_regrown _ _ _)) (by have := HW.out; omega)))))
          refine wpQuiet_nil ?_
          intro w4 hb4
          have HB4 := Lib.hid hb4
          have HC := Lib.hid (done_all F b d w4 (H.out.keptB hb4) HO.out ⟨1, n, [], a⟩ (by simp) (fun _ => by have := HDS.out; have := HW.out; simp only; omega))
          clear hb4
          go_wp2_with fail
          refine HC.out.mono ?_
          rintro r w5 ⟨rfl, h2⟩
          have h3 := Lib.hid h2
          clear h2
          go_wp2_with fail
          go_ret
          rw [HR.out]
          exact ⟨rfl, DiskTo.of_below HB4.out h3.out⟩
end Go.Proofs.YtahdldbfcjbklaaGreat
