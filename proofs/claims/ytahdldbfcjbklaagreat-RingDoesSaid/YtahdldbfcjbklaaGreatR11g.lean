/- posthornref11: Edit, Crash, New. -/
import Derived.Test.YtahdldbfcjbklaaGreatR11f
namespace Go.Proofs.YtahdldbfcjbklaaGreat
open Go.RowKit

theorem getF_some_of_ne {l : Files} {n : Bs} (h : getF l n ≠ none) : ∃ x, getF l n = some x := by
  cases hg : getF l n with
  | none => exact absurd hg h
  | some x => exact ⟨x, rfl⟩

set_option maxRecDepth 100000 in
set_option maxHeartbeats 2000000 in
theorem r11_edit (F : Nat → Prop) (b : Nat) (d : DS) (n a : Bs) (w : World) (h : R11At w F b d) (hn : d.now.length ≤ 900000000) (hsu : d.sure.length ≤ 900000000) :
    Calls Tryz.prog 21 #[.pointer (some ⟨b, 0, none⟩), vs n, vs a] w fun r w' => r = .returned (.int .i64 ((d.edit n a).2 : Nat)) ∧ R11To w F b (d.edit n a).1 w' := by
  obtain ⟨aN, cN, aS, cS, aP, cP, aT, cT, hb, hN, hS, hP, hT, hF⟩ := h.open
  have hblt := lt_of_heap hb
  have c0 := cell_of_row w b 0 _ _ _ hb
  have c1 := cell_of_row w b 1 _ _ _ hb
  have f0 := frozen_of_row w b 0 _ _ hb
  have f1 := frozen_of_row w b 1 _ _ hb
  simp only [List.getElem?_toArray, List.getElem?_cons_zero, List.getElem?_cons_succ] at c0 c1
  have HC := Lib.hid (r11_find d.now _ n w hN (by omega))
  have HPUT := Lib.hid (r11_put d.now h.now _ n a w hN (by omega))
  have hs1 := h.now
  have hs2 := h.sure
  have S1 := Lib.hid hs1; have S2 := Lib.hid hs2
  have H := Lib.hid h
  have HB := Lib.hid hb
  have HN := Lib.hid hN; have HS := Lib.hid hS; have HP := Lib.hid hP; have HT := Lib.hid hT; have HF := Lib.hid hF
  clear hb hP hT hF hS hN h hs1 hs2
  rcases find_cases d.now n with ⟨hg, hz⟩ | ⟨⟨x, hg⟩, hz⟩
  · have HR := Lib.hid (show d.edit n a = (d, 10) from by simp [DS.edit, hg])
    clear hg
    go_enter Tryz.func21, Tryz.ntmps21
    go_wp2_with fail
    refine HC.out.mono ?_
    rintro e w' ⟨rfl, rfl⟩
    generalize findF d.now n = z at *
    go_wp2_with fail
    go_ret
    rw [HR.out]
    exact ⟨rfl, H.out.to (Chg.refl _ _)⟩
  · have HG := Lib.hid hg
    clear hg
    go_enter Tryz.func21, Tryz.ntmps21
    go_wp2_with fail
    refine HC.out.mono ?_
    rintro e w' ⟨rfl, rfl⟩
    generalize findF d.now n = z at *
    go_wp2_with fail
    refine HPUT.out.mono ?_
    rintro e w1 ⟨v1, rfl, hf1, hb1⟩
    obtain ⟨a1, k1, rfl⟩ := ownsRow_val hf1
    have HF1 := Lib.hid hf1
    have HB1 := Lib.hid hb1
    have c0' := cell_below hb1 c0
    have c1' := cell_below hb1 c1
    have f0' := (hb1.frozen (p := ⟨b, 0, none⟩) hblt).trans f0
    have f1' := (hb1.frozen (p := ⟨b, 1, none⟩) hblt).trans f1
    have hbk1 := (hb1.block b hblt).trans HB.out
    have hq : Chg (· = b) _ _ := (Chg.of_below (S := (· = b)) hb1).setCell (p := ⟨b, 0, none⟩) (fun _ => rfl) (.slice a1 (putF d.now n a).length k1)
    have hbk2 := heap_setCell_same _ _ 0 _ _ (.slice a1 (putF d.now n a).length k1) hbk1
    have hS2 := FilesAt.chg HS.out hq HB.out
    have HQ := Lib.hid hq
    have HBK2 := Lib.hid hbk2
    have HBK1 := Lib.hid hbk1
    have HFD := Lib.hid (r11_find d.sure _ n _ hS2 (by omega))
    have HPT := Lib.hid (r11_put d.sure S2.out _ n a _ hS2 (by omega))
    have hblt1 : b < w1.heap.size := Nat.lt_of_lt_of_le hblt hb1.size
    clear c0 c1 f0 f1 hf1 hb1 hbk1 hq hbk2 hS2
    go_wp2_with fail
    refine HFD.out.mono ?_
    rintro e w' ⟨rfl, rfl⟩
    have hfn : ∀ k, (Value.slice a1 (putF d.now n a).length k1).ownBlock = some k → F k ∨ _ ≤ k := fun k hk => .inr (HF1.out.lt k hk).1
    have HFN := Lib.hid hfn
    clear hfn
    rcases find_cases d.sure n with ⟨hg2, hz2⟩ | ⟨⟨y, hg2⟩, hz2⟩
    · have HR := Lib.hid (show d.edit n a = ({ d with now := putF d.now n a }, 0) from by simp [DS.edit, HG.out, hg2])
      clear hg2
      generalize findF d.sure n = z2 at *
      have hz3 : decide (0 ≤ z2) = false := by simp; omega
      go_wp2_with fail
      go_ret
      rw [HR.out]
      refine ⟨rfl, H.out.set HQ.out HBK2.out ?_ (FilesAt.chg HS.out HQ.out HB.out) (EvsAt.chg HP.out HQ.out HB.out) (EvsAt.chg HT.out HQ.out HB.out) (S1.out.put _ _) S2.out HFN.out (fun k hk => .inl ((HF.out k).2 (.inr (.inr (.inl hk))))) (fun k hk => .inl ((HF.out k).2 (.inr (.inr (.inr (.inl hk)))))) (fun k hk => .inl ((HF.out k).2 (.inr (.inr (.inr (.inr hk))))))⟩
      exact ownsRow_base (FilesAt.chg HF1.out (chg1 w1 b 0 _) HBK1.out) (Nat.zero_le _)
    · have HR := Lib.hid (show d.edit n a = ({ d with now := putF d.now n a, sure := putF d.sure n a }, 0) from by simp [DS.edit, HG.out, hg2])
      clear hg2
      generalize findF d.sure n = z2 at *
      go_wp2_with fail
      refine HPT.out.mono ?_
      rintro e w2 ⟨v2, rfl, hf2, hb2⟩
      obtain ⟨a2, k2, rfl⟩ := ownsRow_val hf2
      have HF2 := Lib.hid hf2
      have hbl2 : b < (w1.setCell ⟨b, 0, none⟩ (.slice a1 (putF d.now n a).length k1)).heap.size := lt_of_heap HBK2.out
      have hbk3 := (hb2.block b hbl2).trans HBK2.out
      have c1'' := cell_of_row w2 b 1 _ _ _ hbk3
      have f1'' := frozen_of_row w2 b 1 _ _ hbk3
      simp only [Array.getElem?_setIfInBounds, List.getElem?_toArray, List.getElem?_cons_zero, List.getElem?_cons_succ, List.set_cons_zero, List.setIfInBounds_toArray] at c1''
      have HBK3 := Lib.hid hbk3
      have hsz2 := hb2.size
      have HQ2 := Lib.hid ((HQ.out.trans (Chg.of_below (S := (· = b)) hb2)).setCell (p := ⟨b, 1, none⟩) (fun _ => rfl) (.slice a2 (putF d.sure n a).length k2))
      have HQ3 := Lib.hid ((chg1 w1 b 0 (.slice a1 (putF d.now n a).length k1)).trans ((Chg.of_below (S := (· = b)) hb2).setCell (p := ⟨b, 1, none⟩) (fun _ => rfl) (.slice a2 (putF d.sure n a).length k2)))
      have hsz1 := HB1.out.size
      have hsz3 := HQ3.out.size
      clear hf2 hb2 hbk3 c0' c1' f0' f1'
      go_wp2_with fail
      go_ret
      rw [HR.out]
      refine ⟨rfl, H.out.set HQ2.out (heap_setCell_same _ _ _ _ _ _ HBK3.out) ?_ ?_ (EvsAt.chg HP.out HQ2.out HB.out) (EvsAt.chg HT.out HQ2.out HB.out) (S1.out.put _ _) (S2.out.put _ _) HFN.out (fun k hk => .inr ?_) (fun k hk => .inl ((HF.out k).2 (.inr (.inr (.inr (.inl hk)))))) (fun k hk => .inl ((HF.out k).2 (.inr (.inr (.inr (.inr hk))))))⟩
      · exact ownsRow_base (FilesAt.chg HF1.out HQ3.out HBK1.out) (Nat.zero_le _)
      · exact ownsRow_base (FilesAt.chg HF2.out (chg1 w2 b 1 _) HBK3.out) (Nat.zero_le _)
      · have := (HF2.out.lt k hk).1
        simp [World.setCell] at this
        omega

set_option maxRecDepth 100000 in
theorem r11_new (w : World) :
    Calls Tryz.prog 6 #[] w fun r w' => r = .returned (.pointer (some ⟨w.heap.size, 0, none⟩)) ∧ (∃ F, R11At w' F w.heap.size DS.new ∧ ∀ k, F k → w.heap.size ≤ k) ∧ Below w.heap.size w w' := by
  have H := Lib.hid (heap_alloc_new w (.cells #[.slice none 0 0, .slice none 0 0, .slice none 0 0, .slice none 0 0, .int .i64 1048576, .int .i64 (-1), .bool false] 66))
  go_enter Tryz.func6, Tryz.ntmps6
  go_wp2
  go_ret
  refine ⟨rfl, ⟨_, ⟨⟨.slice none 0 0, .slice none 0 0, .slice none 0 0, .slice none 0 0, H.out, World.ownsRow_nil _ _ _ _, World.ownsRow_nil _ _ _ _, World.ownsRow_nil _ _ _ _, World.ownsRow_nil _ _ _ _, fun k => Iff.rfl⟩, List.Pairwise.nil, List.Pairwise.nil⟩, ?_⟩, (Below.refl _ w).alloc (Nat.le_refl _) _⟩
  rintro k (rfl | h | h | h | h)
  · exact Nat.le_refl _
  all_goals cases h
end Go.Proofs.YtahdldbfcjbklaaGreat
