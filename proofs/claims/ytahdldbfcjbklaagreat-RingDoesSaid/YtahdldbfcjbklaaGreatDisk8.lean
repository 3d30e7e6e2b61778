/- disk: Crash. -/
import Derived.Test.YtahdldbfcjbklaaGreatDisk7
namespace Go.Proofs.YtahdldbfcjbklaaGreat
open Go.RowKit Go.MapKept
open Go.ChangeMaps (setBlock)

/-- what 'd.now = clone of files' leaves -/
theorem after_now {TD TE : TypeId} {w : World} {F : Nat → Prop} {b : Nat} {d : DS} (h : DiskAt TD TE w F b d) {m c : Nat} {es : List (Ent Bs)} {l : Files} (hM : MapB vs w m es c) (hL : FilesR es l) (hm : ¬ F m) :
    ∃ F', DiskAt TD TE (w.setCell ⟨b, 0, none⟩ (.map (some m))) F' b { d with now := l } ∧ (∀ k, F' k → F k ∨ k = m) := by
  obtain ⟨⟨mN, mS, vP, vT, esN, esS, cN, cS, hb, hMN, hFN, hMS, hFS, hne, hP, hT, hPT, hF⟩, hty⟩ := h
  have h1 : mS ≠ b := by intro e; subst e; rw [hMS.heap] at hb; cases hb
  have h2 : m ≠ b := by intro e; subst e; rw [hM.heap] at hb; cases hb
  have h3 := own_ne hP hb hty
  have h4 := own_ne hT hb hty
  have hc := chg1 w b 0 (.map (some m))
  have h5 : m ≠ mS := by intro e; subst e; exact hm ((hF m).2 (.inr (.inr (.inl rfl))))
  refine ⟨fun k => k = b ∨ k = m ∨ k = mS ∨ vP.ownBlock = some k ∨ vT.ownBlock = some k, ⟨⟨m, mS, vP, vT, es, esS, c, cS, heap_setCell_same _ _ _ _ _ _ hb, hM.kept hc h2, hL, hMS.kept hc h1, hFS, h5, ownsRow_chg hP hc (fun k hk e => h3 (by rw [hk, e])), ownsRow_chg hT hc (fun k hk e => h4 (by rw [hk, e])), hPT, fun k => Iff.rfl⟩, hty⟩, ?_⟩
  rintro k (rfl | rfl | rfl | h7 | h7)
  · exact .inl ((hF k).2 (.inl rfl))
  · exact .inr rfl
  · exact .inl ((hF k).2 (.inr (.inr (.inl rfl))))
  · exact .inl ((hF k).2 (.inr (.inr (.inr (.inl h7)))))
  · exact .inl ((hF k).2 (.inr (.inr (.inr (.inr h7)))))

/-- the cells of a row of events -/
theorem evCells_get (l : List Ev) (i : Nat) (e : Ev) (he : l[i]? = some e) (j : Nat) (hj : j < 4) : (evCells l)[i * 4 + j]? = e.cells[j]? := by
  induction l generalizing i with
  | nil => simp at he
  | cons x l ih =>
    cases i with
    | zero =>
      simp only [List.getElem?_cons_zero, Option.some.injEq] at he
      subst he
      simp only [evCells, List.flatMap_cons]
      rw [List.getElem?_append_left (by simp [Ev.cells]; omega)]
      simp
    | succ i =>
      simp only [List.getElem?_cons_succ] at he
      have := ih i he
      simp only [evCells, List.flatMap_cons] at this ⊢
      rw [List.getElem?_append_right (by simp [Ev.cells]; omega)]
      rw [← this]
      congr 1
      simp [Ev.cells]; omega

set_option maxRecDepth 100000 in
set_option maxHeartbeats 2000000 in
theorem crash_any (F : Nat → Prop) (b : Nat) (d : DS) (n : Int) (w : World) (h : DiskAt 62 89 w F b d) (ho : DiskOk d) (hop : ∀ e ∈ d.pend, e.op = 1 ∨ e.op = 2 ∨ e.op = 3 ∨ e.op = 4)
    (hsz : ∀ i e, d.pend[i]? = some e → (dataF ((d.pend.take i).foldl doF d.sure) e.name).length + e.data.length ≤ 1099511627776) :
    Calls Tryz.prog 16 #[.pointer (some ⟨b, 0, none⟩), .int .i64 n] w fun r w' => r = .returned (.tuple #[]) ∧ DiskTo 62 89 w F b (d.crash n) w' := by
  have H := Lib.hid h
  have HO := Lib.hid ho
  have HOP := Lib.hid hop
  have HSZ := Lib.hid hsz
  obtain ⟨⟨mN, mS, vP, vT, esN, esS, cN, cS, hb, hMN, hFN, hMS, hFS, hne, hP, hT, hPT, hF⟩, hty⟩ := h
  have hblt := lt_of_heap hb
  have c1 := cell_of_row w b 1 _ _ _ hb
  simp only [List.getElem?_toArray, List.getElem?_cons_zero, List.getElem?_cons_succ] at c1
  have HMS := Lib.hid hMS
  have HFS := Lib.hid hFS
  clear hb hMN hFN hMS hFS hne hP hT hPT hF hty ho hop hsz
  go_enter Tryz.func16, Tryz.ntmps16
  go_upto_region 0 with (fail)
  go_cut [] (fun w2 => ∃ F2, DiskAt 62 89 w2 F2 b { d with now := d.sure } ∧ (∀ k, F2 k → F k ∨ w.heap.size ≤ k) ∧ Chg F w w2)
  case first =>
    go_wp2_with fail
    refine (clone_any mS esS cS w HMS.out).mono ?_
    rintro e w1 ⟨rfl, hM1, hb1⟩
    have hd1 := H.out.keptB hb1
    obtain ⟨F2, hd2, hF2⟩ := after_now hd1 hM1 HFS.out (fun h1 => by have := H.out.lt _ h1; omega)
    have HD2 := Lib.hid hd2
    have HB1 := Lib.hid hb1
    have hself := hd1.self
    obtain ⟨⟨mN4, mS4, vP4, vT4, esN4, esS4, cN4, cS4, hbb, _, _, _, _, _, _, _, _, _⟩, _⟩ := hd1
    have p0 := cell_of_row w1 b 0 _ _ _ hbb
    have q0 := frozen_of_row w1 b 0 _ _ hbb
    simp only [List.getElem?_toArray, List.getElem?_cons_zero, List.getElem?_cons_succ] at p0
    clear hd2 hM1 hb1 hbb
    go_wp2_with fail
    go_meet
    case rel =>
      refine ⟨F2, HD2.out, fun k hk => ?_, (Chg.of_below HB1.out).setCell (p := ⟨b, 0, none⟩) (fun _ => hself) _⟩
      rcases hF2 k hk with h1 | h1
      · exact .inl h1
      · exact .inr (by omega)
  case rest =>
    obtain ⟨w2, rfl⟩ : ∃ w2, w2 = wc := ⟨_, rfl⟩
    obtain ⟨F2, hd2, hF2, hch2⟩ := hcut
    have HD2 := Lib.hid hd2
    have HF2 := Lib.hid hF2
    have HCH2 := Lib.hid hch2
    obtain ⟨⟨mN, mS, vP, vT, esN, esS, cN, cS, hb, hMN, hFN, hMS, hFS, hne, hP, hT, hPT, hF⟩, hty⟩ := hd2
    have c2 := cell_of_row w2 b 2 _ _ _ hb
    simp only [List.getElem?_toArray, List.getElem?_cons_zero, List.getElem?_cons_succ] at c2
    have HP := Lib.hid hP
    clear hb hMN hFN hMS hFS hne hT hPT hF hF2 hch2 c1
    have hpl := HO.out.pend
    obtain ⟨av, mv, cv, hv⟩ := ownsRow_slice hP
    have hmv : mv = d.pend.length := by
      rcases hP.2 with ⟨h1, h0⟩ | ⟨g, cap, cur, h1, _⟩
      · rw [hv] at h1; cases h1; exact h0.symm
      · rw [hv] at h1; cases h1; rfl
    subst hmv
    subst hv
    obtain ⟨K, hK1, hK2⟩ : ∃ K : Nat, K = min n.toNat d.pend.length ∧ K ≤ d.pend.length := ⟨_, rfl, by omega⟩
    have HKK := Lib.hid hK1
    go_upto_region 1 with (fail)
    go_cut [26, 27, 28] (fun s26 s27 s28 wx => (∃ cv, s26 = .slice av K cv) ∧ s27 = .int .i64 K ∧ s28 = .int .i64 0 ∧ Below w2.heap.size w2 wx)
    case first =>
      rcases hP.2 with ⟨h1, h0⟩ | ⟨g, cap, cur, h1, hg1, hg2, hg3, hg4, hg5⟩
      · simp only [Value.slice.injEq] at h1
        obtain ⟨rfl, -, rfl⟩ := h1
        have hl0 : d.pend.length = 0 := h0
        have hK0 : K = 0 := by omega
        clear hP hK1 hK2 h0 hpl
        rw [hl0] at c2
        clear hl0
        subst hK0
        have m1 : (0 : Int) ≤ min (max n 0) 0 := by omega
        have m2 : min (max n 0) (0 : Int) ≤ 0 := by omega
        have m3 : min (max n 0) (0 : Int) = 0 := by omega
        go_region
        all_goals
          go_wp2_with fail
          go_meet
          case rel => exact ⟨⟨_, rfl⟩, by simp, rfl, (Below.refl _ _).drew⟩
      · simp only [Value.slice.injEq] at h1
        obtain ⟨rfl, -, rfl⟩ := h1
        clear hP
        have hcap : cv ≤ 9223372036854775807 := by have := hg4; simp only [maxLen] at this; omega
        have hg3' : d.pend.length ≤ cv := hg3
        have m1 : (0 : Int) ≤ min (max n 0) (d.pend.length : Int) := by omega
        have m2 : min (max n 0) (d.pend.length : Int) ≤ (cv : Int) := by omega
        have m3 := Lib.hid (show min (max n 0) (d.pend.length : Int) = (K : Int) by omega)
        clear hK1 hK2 hg5 hg2
        go_region
        all_goals
          go_wp2_with fail
          go_meet
          case rel =>
            refine ⟨⟨cv, ?_⟩, ?_, rfl, (Below.refl _ _).drew⟩
            · simp [m3.out]
            · simp [m3.out]
    case rest =>
      obtain ⟨w3, rfl⟩ : ∃ w3, w3 = wc := ⟨_, rfl⟩
      obtain ⟨⟨cv2, rfl⟩, rfl, rfl, hb3⟩ := hcut
      have HD3 := Lib.hid (HD2.out.keptB hb3)
      have HB3 := Lib.hid hb3
      have HP3 := Lib.hid (ownsRow_chg HP.out (S := fun _ => False) (Chg.of_below hb3) (fun _ _ h => h))
      clear hb3 hP c2 hpl hK1
      go_wp2_with fail
      go_loopw [28] (fun i wr => ∃ j : Nat, j ≤ K ∧ i = .int .i64 j ∧ DiskAt 62 89 wr F2 b { d with now := (d.pend.take j).foldl doF d.sure } ∧ wr.ownsRow 0 89 4 (.slice av d.pend.length cv) d.pend.length (evCells d.pend) ∧ Chg F2 w3 wr) (fun i _ => K - (intOf i).toNat)
      case atStart => exact ⟨0, Nat.zero_le _, rfl, HD3.out, HP3.out, Chg.refl _ _⟩
      case round =>
        obtain ⟨j, hj, rfl, hdj, hpj, hcj⟩ := hrel
        by_cases hlt : j < K
        · have hj2 : j < d.pend.length := by omega
          obtain ⟨⟨eop, ename, eto, edata⟩, he⟩ : ∃ e, d.pend[j]? = some e := ⟨_, List.getElem?_eq_getElem hj2⟩
          have HFO := Lib.hid (show (d.pend.take (j + 1)).foldl doF d.sure = doF ((d.pend.take j).foldl doF d.sure) ⟨eop, ename, eto, edata⟩ from by rw [List.take_add_one, he]; simp [List.foldl_append])
          have HOP1 := Lib.hid (HOP.out _ (List.mem_of_getElem? he))
          have HSZ1 := Lib.hid (HSZ.out j _ he)
          have HDJ := Lib.hid hdj
          have HPJ := Lib.hid hpj
          have HCJ := Lib.hid hcj
          rcases hpj.2 with ⟨h1, h0⟩ | ⟨g, cap, cur, h1, hg1, hg2, hg3, hg4, hg5⟩
          · omega
          · simp only [Value.slice.injEq] at h1
            obtain ⟨rfl, -, rfl⟩ := h1
            have hcell : ∀ i, i < 4 → wr.cell? ⟨g, j * 4 + i, none⟩ = (Ev.cells ⟨eop, ename, eto, edata⟩)[i]? := by
              intro i hi
              have h2 := evCells_get d.pend j _ he i hi
              rw [cell_of_row wr g _ _ _ _ hg2, ← h2, ← hg5.2, List.getElem?_take_of_lt (by omega), Array.getElem?_toList]
            have r0 := hcell 0 (by omega)
            have r1 := hcell 1 (by omega)
            have r2 := hcell 2 (by omega)
            have r3 := hcell 3 (by omega)
            simp only [Ev.cells, List.getElem?_cons_zero, List.getElem?_cons_succ, Nat.add_zero] at r0 r1 r2 r3
            clear hcell hg1 hg2 hg4 hg5 hdj hpj hcj he
            have HD := HDJ.out
            obtain ⟨⟨mN, mS, vP, vT, esN, esS, cN, cS, hb, hMN, hFN, hMS, hFS, hne, hP, hT, hPT, hF⟩, hty⟩ := HD
            have hblj := lt_of_heap hb
            have e0 := cell_of_row wr b 0 _ _ _ hb
            simp only [List.getElem?_toArray, List.getElem?_cons_zero, List.getElem?_cons_succ] at e0
            have HMN := fun o => Lib.hid (hMN.kept (S := fun _ => False) ((Chg.refl _ wr).alloc o) (fun h => h))
            have HFN := Lib.hid hFN
            clear hb hMN hFN hMS hFS hne hP hT hPT hF hty
            have hpl := HO.out.pend
            go_upto_region 4 with (fail)
            go_region_with (go_at_call 44; refine (do_any mN ⟨eop, ename, eto, edata⟩ _ esN cN _ (HMN _).out.drew HFN.out HOP1.out HSZ1.out).mono ?_; rintro r w4 ⟨rfl, es', c', hM', hL', hc'⟩)
            all_goals
              go_wp2_with fail
              go_roundw
              case rel =>
                have hbl := (Below.refl _ wr).alloc (Nat.le_refl _) (.cells #[.int .i64 eop, vs ename, vs eto, vs edata] 89)
                obtain ⟨k1, k2⟩ := after_do (HDJ.out.keptB hbl) (cell_below hbl e0) hc'.undrew hM' hL'
                have hch : Chg F2 wr w4 := (Chg.of_below hbl).trans' k2 (fun _ _ h => h)
                refine ⟨j + 1, by omega, by go_num, ?_, ?_, HCJ.out.trans hch⟩
                · rw [HFO.out]; exact k1
                · refine ownsRow_chg (ownsRow_chg HPJ.out (S := fun _ => False) (Chg.of_below hbl) (fun _ _ h => h)) hc'.undrew ?_
                  intro k hk e
                  subst e
                  have hp5 := ownsRow_chg HPJ.out (S := fun _ => False) (Chg.of_below hbl) (fun _ _ h => h)
                  rcases hp5.2 with ⟨h1, _⟩ | ⟨g', cap', cur', h1, _, h3, _⟩
                  · cases h1
                  · rw [h1] at hk
                    simp only [Value.ownBlock, Option.some.injEq] at hk
                    subst hk
                    rw [(HMN _).out.heap] at h3
                    cases h3
              case measure => simp [intOf]; omega
        · obtain rfl : j = K := by omega
          have HDJ := Lib.hid hdj
          have HCJ := Lib.hid hcj
          obtain ⟨⟨mN, mS, vP, vT, esN, esS, cN, cS, hb, hMN, hFN, hMS, hFS, hne, hP, hT, hPT, hF⟩, hty⟩ := hdj
          have e0 := cell_of_row _ b 0 _ _ _ hb
          simp only [List.getElem?_toArray, List.getElem?_cons_zero, List.getElem?_cons_succ] at e0
          have HMN := Lib.hid hMN
          have HFN := Lib.hid hFN
          clear hb hMN hFN hMS hFS hne hP hPT hF hty hT hcj hpj
          go_wp2_with fail
          refine (clone_any mN esN cN _ HMN.out).mono ?_
          rintro e w4 ⟨rfl, hM4, hb4⟩
          have hd4 := HDJ.out.keptB hb4
          obtain ⟨F5, hd5, hF5⟩ := (after_sync hd4 hM4 HFN.out (fun h1 => by have := HDJ.out.lt _ h1; omega))
          have HD5 := Lib.hid ((hd5.setDead false).setFuse (-1))
          have HF5 := Lib.hid hF5
          have HB4 := Lib.hid hb4
          have hself4 := hd4.self
          obtain ⟨⟨mN4, mS4, vP4, vT4, esN4, esS4, cN4, cS4, hbb, _, _, _, _, _, _, _, _, _⟩, _⟩ := hd4
          have p1 := cell_of_row w4 b 1 _ _ _ hbb
          have p2 := cell_of_row w4 b 2 _ _ _ hbb
          have p5 := cell_of_row w4 b 5 _ _ _ hbb
          have p6 := cell_of_row w4 b 6 _ _ _ hbb
          have q1 := frozen_of_row w4 b 1 _ _ hbb
          have q2 := frozen_of_row w4 b 2 _ _ hbb
          have q5 := frozen_of_row w4 b 5 _ _ hbb
          have q6 := frozen_of_row w4 b 6 _ _ hbb
          simp only [List.getElem?_toArray, List.getElem?_cons_zero, List.getElem?_cons_succ] at p1 p2 p5 p6
          clear hbb hM4 e0 hd5 hF5 hb4
          go_wp2_with fail
          go_end0
          have s1 := HCH2.out.size
          have s2 := HB3.out.size
          have s3 := HCJ.out.size
          have hct : Chg F2 _ w4 := HCJ.out.trans (Chg.of_below HB4.out)
          refine ⟨rfl, F5, ?_, ?_, ?_⟩
          · have ht : d.pend.take n.toNat = d.pend.take j := by rw [HKK.out, List.take_eq_take_min]
            have hcr : d.crash n = { d with now := (d.pend.take j).foldl doF d.sure, sure := (d.pend.take j).foldl doF d.sure, pend := [], dead := false, fuse := -1 } := by
              simp only [DS.crash, ht]
            rw [hcr]
            exact HD5.out
          · intro k h6
            rcases HF5.out k h6 with h6 | h6
            · exact HF2.out k h6
            · right; omega
          · have hc5 : Chg F2 w2 w4 := (Chg.of_below HB3.out).trans' hct (fun _ _ h => h)
            have hc6 : Chg F w w4 := HCH2.out.trans' hc5 (fun i hi h => (HF2.out i h).resolve_right (by omega))
            have hs : F b := H.out.self
            exact (((hc6.setCell (p := ⟨b, 1, none⟩) (fun _ => hs) _).setCell (p := ⟨b, 2, none⟩) (fun _ => hs) _).setCell (p := ⟨b, 6, none⟩) (fun _ => hs) _).setCell (p := ⟨b, 5, none⟩) (fun _ => hs) _
end Go.Proofs.YtahdldbfcjbklaaGreat
