/- disk: Append. -/
import Derived.Test.YtahdldbfcjbklaaGreatDisk3
import Derived.Lib.QuietBelow
namespace Go.Proofs.YtahdldbfcjbklaaGreat
open Go.RowKit Go.MapKept
open Go.Sort (grow)

theorem data_le_size (l : Files) (n : Bs) : (dataF l n).length ≤ sizeF l := by
  induction l with
  | nil => simp [dataF, getF, sizeF]
  | cons p l ih =>
    simp only [sizeF, List.map_cons, List.sum_cons] at ih ⊢
    by_cases h : p.1 = n
    · simp [dataF, getF, h]
    · have : dataF (p :: l) n = dataF l n := by simp [dataF, getF, h]
      rw [this]; omega

theorem DiskTo.of_below {TD TE : TypeId} {w w1 w2 : World} {F : Nat → Prop} {b : Nat} {d : DS} (hb : Below w.heap.size w w1) (h : DiskTo TD TE w1 F b d w2) : DiskTo TD TE w F b d w2 := by
  obtain ⟨F', h1, h2, h3⟩ := h
  have hs := hb.size
  exact ⟨F', h1, fun k hk => (h2 k hk).imp id (fun h => by omega), (Chg.of_below hb).trans' h3 (fun i _ h => h)⟩

set_option maxRecDepth 100000 in
set_option maxHeartbeats 1000000 in
theorem append_any (F : Nat → Prop) (b : Nat) (d : DS) (n a : Bs) (w : World) (h : DiskAt 62 89 w F b d) (ho : DiskOk d) (ha : a.length ≤ 549755813888) :
    Calls Tryz.prog 69 #[.pointer (some ⟨b, 0, none⟩), vs n, vs a] w fun r w' => r = .returned (.int .i64 ((d.append n a).2 : Nat)) ∧ DiskTo 62 89 w F b (d.append n a).1 w' := by
  have hhas := has_any F b d n w h
  have H := Lib.hid h
  have HO := Lib.hid ho
  cases hg : getF d.now n with
  | none =>
    have HR := Lib.hid (show d.append n a = (d, 10) from by simp [DS.append, hg])
    rw [hg] at hhas
    have HH := Lib.hid hhas; clear hhas hg h ho
    go_enter Tryz.func69, Tryz.ntmps69
    go_wp2_with fail
    refine HH.out.mono ?_
    rintro e w' ⟨rfl, rfl⟩
    simp only [Option.isSome_none]
    go_wp2_with fail
    go_ret
    rw [HR.out]
    exact ⟨rfl, F, H.out, fun k hk => .inl hk, Chg.refl F _⟩
  | some x =>
    rw [hg] at hhas
    obtain ⟨⟨mN, mS, vP, vT, esN, esS, cN, cS, hb, hMN, hFN, hMS, hFS, hne, hP, hT, hPT, hF⟩, _⟩ := h
    have hblt := lt_of_heap hb
    have c4 := cell_of_row w b 4 _ _ _ hb
    simp only [List.getElem?_toArray, List.getElem?_cons_zero, List.getElem?_cons_succ] at c4
    have HH := Lib.hid hhas
    have hw := ho.now
    have hw1 : IntKind.i64.wrap ((sizeF d.now : Int) + (a.length : Int)) = (sizeF d.now : Int) + (a.length : Int) := IntWalk.i64_in _ (by omega)
    have c4' := fun dd os => cell_regrown (w := w) c4 dd os
    clear hhas ho hb hMN hFN hMS hFS hne hP hT hPT hF c4
    have HW := Lib.hid hw
    clear hw
    by_cases hq : d.quota < (sizeF d.now : Int) + (a.length : Int)
    · have HR := Lib.hid (show d.append n a = (d, 12) from by simp [DS.append, hg, hq])
      clear hg
      go_enter Tryz.func69, Tryz.ntmps69
      go_wp2_with fail
      refine HH.out.mono ?_
      rintro e w' ⟨rfl, rfl⟩
      simp only [Option.isSome_some]
      go_wp2_with fail
      refine wp_region_quietB (by kernel_rfl) (by kernel_rfl) ?_
      repeat (go_big_quiet_step ((go_at_call 61; exact Calls.regrown_of (size_any F b d _ (H.out.keptB (below_regrown _ _ _)) (by have := HW.out; omega)))))
      refine wpQuiet_nil ?_
      intro w4 hb4
      go_wp2
      go_ret
      rw [HR.out]
      exact ⟨rfl, F, H.out.keptB hb4, fun k hk => .inl hk, Chg.of_below hb4⟩
    · have HR := Lib.hid (show d.append n a = d.done ⟨2, n, [], a⟩ from by simp [DS.append, hg, hq])
      have hqf : decide (d.quota < (sizeF d.now : Int) + (a.length : Int)) = false := by simp [hq]
      clear hg
      go_enter Tryz.func69, Tryz.ntmps69
      go_wp2_with fail
      refine HH.out.mono ?_
      rintro e w' ⟨rfl, rfl⟩
      simp only [Option.isSome_some]
      go_wp2_with fail
      refine wp_region_quietB (by kernel_rfl) (by kernel_rfl) ?_
      repeat (go_big_quiet_step ((go_at_call 61; exact Calls.regrown_of (size_any F b d _ (H.out.keptB (below_regrown _ _ _)) (by have := HW.out; omega)))))
      refine wpQuiet_nil ?_
      intro w4 hb4
      have HB4 := Lib.hid hb4
      have HC := Lib.hid (done_all F b d w4 (H.out.keptB hb4) HO.out ⟨2, n, [], a⟩ (by simp) (fun _ => by have := data_le_size d.now n; have := HW.out; simp only; omega))
      clear hb4
      go_wp2_with fail
      refine HC.out.mono ?_
      rintro r w5 ⟨rfl, h2⟩
      have h3 := Lib.hid h2
      clear h2
      go_wp2_with fail
      go_ret
      rw [HR.out]
      exact ⟨rfl, DiskTo.of_below HB4.out h3.out⟩
end Go.Proofs.YtahdldbfcjbklaaGreat
