/- posthornref11: Crash. -/
import Derived.Test.YtahdldbfcjbklaaGreatR11g
namespace Go.Proofs.YtahdldbfcjbklaaGreat
open Go.RowKit
theorem ev4 (e : Ev) : e.cells.length = 4 := rfl
theorem foldF_sorted (l : List Ev) {f : Files} (h : SortedF f) : SortedF (l.foldl doF f) := by
  induction l generalizing f with
  | nil => exact h
  | cons e l ih => exact ih (doF_sorted h e)

set_option maxRecDepth 100000 in
set_option maxHeartbeats 2000000 in
theorem r11_crash (F : Nat → Prop) (b : Nat) (d : DS) (n : Int) (w : World) (h : R11At w F b d) (hpl : d.pend.length ≤ 1000000000) (hop : ∀ e ∈ d.pend, e.op = 1 ∨ e.op = 2 ∨ e.op = 3 ∨ e.op = 4)
    (hsz : ∀ i e, d.pend[i]? = some e → (dataF ((d.pend.take i).foldl doF d.sure) e.name).length + e.data.length ≤ 1099511627776) (hcnt : ∀ i, ((d.pend.take i).foldl doF d.sure).length ≤ 900000000) :
    Calls Tryz.prog 17 #[.pointer (some ⟨b, 0, none⟩), .int .i64 n] w fun r w' => r = .returned (.tuple #[]) ∧ R11To w F b (d.crash n) w' := by
  obtain ⟨aN, cN, aS, cS, aP, cP, aT, cT, hb, hN, hS, hP, hT, hF⟩ := h.open
  have hblt := lt_of_heap hb
  have c1 := cell_of_row w b 1 _ _ _ hb
  have c2 := cell_of_row w b 2 _ _ _ hb
  simp only [List.getElem?_toArray, List.getElem?_cons_zero, List.getElem?_cons_succ] at c1 c2
  have hs2 := h.sure
  have S2 := Lib.hid hs2
  have H := Lib.hid h
  have HB := Lib.hid hb
  have HS := Lib.hid hS; have HP := Lib.hid hP; have HT := Lib.hid hT; have HF := Lib.hid hF
  have HOP := Lib.hid hop; have HSZ := Lib.hid hsz; have HCNT := Lib.hid hcnt
  clear hb hP hT hF hS hN h hs2 hop hsz hcnt
  obtain ⟨K, hK1, hK2, hK3⟩ : ∃ K : Nat, K = min n.toNat d.pend.length ∧ K ≤ d.pend.length ∧ ((K : Int) = d.pend.length ∨ n ≤ K) := ⟨_, rfl, by omega, by omega⟩
  have hK4 : ∀ j : Nat, j < K → (j : Int) < n ∧ j < d.pend.length := fun j hj => by omega
  have HK4 := Lib.hid hK4
  have HK1 := Lib.hid hK1
  clear hK1 hK4
  go_enter Tryz.func17, Tryz.ntmps17
  go_wp2
  go_loopw [4, 5] (fun v i wr => ∃ j : Nat, j ≤ K ∧ i = .int .i64 j ∧ FilesAt wr 0 v ((d.pend.take j).foldl doF d.sure) ∧ (∀ k, v.ownBlock = some k → F k ∨ w.heap.size ≤ k) ∧ Below w.heap.size w wr) (fun _ i _ => K - (intOf i).toNat)
  case atStart => exact ⟨0, Nat.zero_le _, rfl, HS.out, fun k hk => .inl ((HF.out k).2 (.inr (.inr (.inl hk)))), Below.refl _ _⟩
  case round =>
    obtain ⟨j, hj, rfl, hv, hvF, hb⟩ := hrel
    have HV := Lib.hid hv
    have HVF := Lib.hid hvF
    have HB2 := Lib.hid hb
    have c2r := cell_below hb c2
    obtain ⟨av, cv, rfl⟩ := ownsRow_val hv
    have hsz0 := hb.size
    by_cases hlt : j < K
    · obtain ⟨hjn, hjp⟩ := HK4.out j hlt
      obtain ⟨⟨eop, ename, eto, edata⟩, he⟩ : ∃ e, d.pend[j]? = some e := ⟨_, List.getElem?_eq_getElem hjp⟩
      have hPr := ownsRow_chg HP.out (S := fun _ => False) (Chg.of_below hb) (fun _ _ h => h)
      obtain ⟨g, rfl, hc, _, _, hcv, hcm⟩ := ownsRow_some hPr (by omega)
      have r0 := rec_cells ev4 hc he 0 (by omega)
      have r1 := rec_cells ev4 hc he 1 (by omega)
      have r2 := rec_cells ev4 hc he 2 (by omega)
      have r3 := rec_cells ev4 hc he 3 (by omega)
      simp only [Ev.cells, List.getElem?_cons_zero, List.getElem?_cons_succ, Nat.add_zero] at r0 r1 r2 r3
      have HFO := Lib.hid (show (d.pend.take (j + 1)).foldl doF d.sure = doF ((d.pend.take j).foldl doF d.sure) ⟨eop, ename, eto, edata⟩ from by rw [List.take_add_one, he]; simp [List.foldl_append])
      have HDO := Lib.hid (r11_do _ (foldF_sorted _ S2.out) _ ⟨eop, ename, eto, edata⟩ wr hv (HCNT.out j) (HOP.out _ (List.mem_of_getElem? he)) (HSZ.out j _ he))
      have hjp' : (j : Int) < (d.pend.length : Int) := by omega
      unfold maxLen at hcm
      clear hv hvF hb hc he hPr
      go_wp2_with fail
      refine HDO.out.mono ?_
      rintro r w1 ⟨v1, rfl, hf1, hn1, hb1⟩
      have HF1 := Lib.hid hf1
      have HN1 := Lib.hid hn1
      have HB1 := Lib.hid hb1
      clear hf1 hn1 hb1
      go_wp2_with fail
      go_roundw
      case rel =>
        refine ⟨j + 1, by omega, by go_num, by rw [HFO.out]; exact HF1.out, fun k hk => ?_, HB2.out.trans (HB1.out.mono hsz0)⟩
        rcases HN1.out k hk with h1 | h1
        · exact HVF.out k h1
        · exact .inr (by omega)
      case measure => simp [intOf]; omega
    · obtain rfl : j = K := by omega
      have hbk := (hb.block b hblt).trans HB.out
      have hbl2 := lt_of_heap hbk
      have p0 := cell_of_row wr b 0 _ _ _ hbk
      have p1 := cell_of_row wr b 1 _ _ _ hbk
      have p5 := cell_of_row wr b 5 _ _ _ hbk
      have p6 := cell_of_row wr b 6 _ _ _ hbk
      have q0 := frozen_of_row wr b 0 _ _ hbk
      have q1 := frozen_of_row wr b 1 _ _ hbk
      have q2 := frozen_of_row wr b 2 _ _ hbk
      have q5 := frozen_of_row wr b 5 _ _ hbk
      have q6 := frozen_of_row wr b 6 _ _ hbk
      simp only [List.getElem?_toArray, List.getElem?_cons_zero, List.getElem?_cons_succ] at p0 p1 p5 p6
      have HBK := Lib.hid hbk
      clear hv hvF hb hbk
      have hfin : ∀ w', (w' = ((((wr.setCell ⟨b, 0, none⟩ (.slice av ((d.pend.take j).foldl doF d.sure).length cv)).setCell ⟨b, 1, none⟩ (.slice av ((d.pend.take j).foldl doF d.sure).length cv)).setCell ⟨b, 2, none⟩ (.slice none 0 0)).setCell ⟨b, 6, none⟩ (.bool false)).setCell ⟨b, 5, none⟩ (.int .i64 (-1))) → R11To w F b (d.crash n) w' := by
        rintro _ rfl
        have hq : Chg (· = b) wr (((((wr.setCell ⟨b, 0, none⟩ (.slice av ((d.pend.take j).foldl doF d.sure).length cv)).setCell ⟨b, 1, none⟩ (.slice av ((d.pend.take j).foldl doF d.sure).length cv)).setCell ⟨b, 2, none⟩ (.slice none 0 0)).setCell ⟨b, 6, none⟩ (.bool false)).setCell ⟨b, 5, none⟩ (.int .i64 (-1))) :=
          ((((chg1 wr b 0 _).setCell (p := ⟨b, 1, none⟩) (fun _ => rfl) _).setCell (p := ⟨b, 2, none⟩) (fun _ => rfl) _).setCell (p := ⟨b, 6, none⟩) (fun _ => rfl) _).setCell (p := ⟨b, 5, none⟩) (fun _ => rfl) _
        have hq2 := (Chg.of_below (S := (· = b)) HB2.out).trans hq
        have ht : d.pend.take n.toNat = d.pend.take j := by rw [HK1.out, List.take_eq_take_min]
        have hcr : d.crash n = { d with now := (d.pend.take j).foldl doF d.sure, sure := (d.pend.take j).foldl doF d.sure, pend := [], dead := false, fuse := -1 } := by
          simp only [DS.crash, ht]
        rw [hcr]
        exact H.out.set hq2 (heap_setCell_same _ _ _ _ _ _ (heap_setCell_same _ _ _ _ _ _ (heap_setCell_same _ _ _ _ _ _ (heap_setCell_same _ _ _ _ _ _ (heap_setCell_same _ _ _ _ _ _ HBK.out))))) (FilesAt.chg HV.out hq HBK.out) (FilesAt.chg HV.out hq HBK.out) (World.ownsRow_nil _ _ _ _) (EvsAt.chg HT.out hq2 HB.out) (foldF_sorted _ S2.out) (foldF_sorted _ S2.out) HVF.out HVF.out (fun k hk => by cases hk) (fun k hk => .inl ((HF.out k).2 (.inr (.inr (.inr (.inr hk))))))
      have HFIN := Lib.hid hfin
      clear hfin
      rcases hK3 with h1 | h1
      · have hlt2 : decide ((j : Int) < (d.pend.length : Int)) = false := by simp; omega
        have hlt3 : decide (j < d.pend.length) = false := by simp; omega
        go_wp2_with fail
        go_end0
        exact ⟨rfl, HFIN.out _ rfl⟩
      · by_cases h2 : j < d.pend.length
        · have hlt3 : decide ((j : Int) < n) = false := by simp; omega
          go_wp2_with fail
          go_end0
          exact ⟨rfl, HFIN.out _ rfl⟩
        · have hlt2 : decide (j < d.pend.length) = false := by simp; omega
          go_wp2_with fail
          go_end0
          exact ⟨rfl, HFIN.out _ rfl⟩
end Go.Proofs.YtahdldbfcjbklaaGreat
