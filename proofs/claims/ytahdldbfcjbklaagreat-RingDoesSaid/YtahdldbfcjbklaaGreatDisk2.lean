/- disk: done, of what is no sync. -/
import Derived.Test.YtahdldbfcjbklaaGreatDisk
import Derived.Deep.DeepCutAuto
import Derived.Deep.RegionWith
namespace Go.Proofs.YtahdldbfcjbklaaGreat
open Go.RowKit Go.MapKept
open Go.ChangeMaps (setBlock)

set_option maxRecDepth 100000 in
set_option maxHeartbeats 4000000 in
theorem done_other (F : Nat → Prop) (b : Nat) (d : DS) (w : World) (h : DiskAt 62 89 w F b d) (hd : d.dead = false) (hf : d.fuse ≠ 0) (hlf : -9223372036854775808 ≤ d.fuse ∧ d.fuse ≤ 9223372036854775807) (hlen : d.trace.length ≤ 1000000000) (hlen2 : d.pend.length ≤ 1000000000) (op : Nat) (name to_ data : Bs) (hop : op = 1 ∨ op = 2 ∨ op = 3 ∨ op = 4) (hsz : (dataF d.now name).length + data.length ≤ 1099511627776) :
    Calls Tryz.prog 62 #[.pointer (some ⟨b, 0, none⟩), .agg #[.int .i64 op, vs name, vs to_, vs data]] w fun r w' => r = .returned (.int .i64 0) ∧ ∃ F', DiskAt 62 89 w' F' b (d.done ⟨op, name, to_, data⟩).1 ∧ (∀ k, F' k → F k ∨ w.heap.size ≤ k) ∧ Chg F w w' := by
  have H := Lib.hid h
  have hDN : (d.done ⟨op, name, to_, data⟩).1 = { d.burnt with trace := d.trace ++ [⟨op, name, to_, data⟩], now := doF d.now ⟨op, name, to_, data⟩, pend := d.pend ++ [⟨op, name, to_, data⟩] } := by
    have h5 : ¬ op = 5 := by omega
    simp [DS.done, hd, hf, h5]
  have HDN := Lib.hid hDN
  have hwl : F w.heap.size → False := fun h1 => by have := h.lt _ h1; omega
  have HWL := Lib.hid hwl
  obtain ⟨⟨mN, mS, vP, vT, esN, esS, cN, cS, hb, hMN, hFN, hMS, hFS, hne, hP, hT, hPT, hF⟩, hty⟩ := h
  have hblt := lt_of_heap hb
  have c5 := cell_of_row w b 5 _ _ _ hb
  have c6 := cell_of_row w b 6 _ _ _ hb
  have f5 := frozen_of_row w b 5 _ _ hb
  simp only [List.getElem?_toArray, List.getElem?_cons_zero, List.getElem?_cons_succ] at c5 c6
  rw [hd] at c6
  have hf' : (d.fuse == 0) = false := by simpa using hf
  have hop5 : ((op : Int) == 5) = false := by rw [beq_eq_false_iff_ne]; omega
  clear hb hMN hFN hMS hFS hne hP hT hPT hF hty hDN hwl
  go_enter Tryz.func62, Tryz.ntmps62
  go_upto_if 23 with (fail)
  go_cut [] (fun w1 => DiskAt 62 89 w1 F b d.burnt ∧ w1.heap[w.heap.size]? = some (.cells #[.int .i64 op, vs name, vs to_, vs data] 89 (0, 0)) ∧ Chg F w w1)
  case first =>
    by_cases hpos : 0 < d.fuse
    · go_wp2_with fail
      go_meet
      case rel =>
        refine ⟨?_, ?_, ?_⟩
        · have := (H.out.setFuse (d.fuse - 1)).keptB ((Below.refl _ _).alloc (Nat.le_refl _) (.cells #[.int .i64 op, vs name, vs to_, vs data] 89))
          simpa only [DS.burnt, if_pos hpos] using this
        · have := heap_alloc_new (w.setCell ⟨b, 5, none⟩ (.int .i64 (d.fuse - 1))) (.cells #[.int .i64 op, vs name, vs to_, vs data] 89)
          simpa [World.setCell] using this
        · exact ((Chg.refl F w).setCell (p := ⟨b, 5, none⟩) (fun _ => H.out.self) _).alloc _
    · go_wp2_with fail
      go_meet
      case rel =>
        refine ⟨?_, heap_alloc_new w _, (Chg.refl F w).alloc _⟩
        have := H.out.keptB ((Below.refl _ w).alloc (Nat.le_refl _) (.cells #[.int .i64 op, vs name, vs to_, vs data] 89))
        simpa only [DS.burnt, if_neg (show ¬ 0 < d.fuse from by omega)] using this
  case rest =>
    obtain ⟨w1, rfl⟩ : ∃ w1, w1 = wc := ⟨_, rfl⟩
    obtain ⟨hd1, hbox, hch1⟩ := hcut
    have HD1 := Lib.hid hd1
    have HB1 := Lib.hid hbox
    have HC1 := Lib.hid hch1
    clear hd1 hbox hch1
    go_upto_region 6 with (fail)
    go_cut [] (fun w3 => ∃ F3, DiskAt 62 89 w3 F3 b { d.burnt with trace := d.trace ++ [⟨op, name, to_, data⟩] } ∧ (∀ k, F3 k → F k ∨ w.heap.size < k) ∧ w3.heap[w.heap.size]? = some (.cells #[.int .i64 op, vs name, vs to_, vs data] 89 (0, 0)) ∧ Chg F w w3)
    case first =>
      have hd1 := HD1.out
      have hbox := HB1.out
      have hch1 := HC1.out
      clear HD1 HB1 HC1
      have g0 := cell_of_row w1 _ 0 _ _ _ hbox
      have g1 := cell_of_row w1 _ 1 _ _ _ hbox
      have g2 := cell_of_row w1 _ 2 _ _ _ hbox
      have g3 := cell_of_row w1 _ 3 _ _ _ hbox
      simp only [List.getElem?_toArray, List.getElem?_cons_zero, List.getElem?_cons_succ] at g0 g1 g2 g3
      have HDD := Lib.hid hd1
      have HCH := Lib.hid hch1
      obtain ⟨⟨mN, mS, vP, vT, esN, esS, cN, cS, hb, hMN, hFN, hMS, hFS, hne, hP, hT, hPT, hF⟩, hty⟩ := hd1
      have k3 := cell_of_row w1 b 3 _ _ _ hb
      simp only [List.getElem?_toArray, List.getElem?_cons_zero, List.getElem?_cons_succ] at k3
      have hfr3 := frozen_of_row w1 b 3 _ _ hb
      have hbs := lt_of_heap hb
      have hnb := own_ne hT hb hty
      have HB1 := Lib.hid hb
      have hown1 := Lib.hid hT
      clear hb hMN hFN hMS hFS hne hP hPT hF hty hT c5 c6 f5
      have how : ∀ o, (w1.alloc o).drew.ownsRow 0 89 4 vT d.trace.length (evCells d.trace) := fun o => ownsRow_chg hown1.out (S := fun _ => False) (((Chg.refl _ w1).alloc o).drew) (fun _ _ h => h)
      have hone : ∀ u ∈ [Value.int .i64 op, vs name, vs to_, vs data], u.oneCell' = true := by
        intro u hu; simp only [List.mem_cons, List.not_mem_nil, or_false] at hu; rcases hu with rfl | rfl | rfl | rfl <;> rfl
      have l1 : d.trace.length + 1 ≤ 1000000000000 := by omega
      have l2 : (d.trace.length + 1) * 56 ≤ 140737488355328 := by omega
      have hbd : ∀ o, (w1.alloc o).drew.heap[b]? = w1.heap[b]? := fun o => Below.heap_alloc w1 o b hbs
      have hbl : ∀ o, b < (w1.alloc o).drew.heap.size := fun o => by show b < (w1.alloc o).heap.size; simp; omega
      have HW := Lib.hid how; have HO := Lib.hid hone; have HD := Lib.hid hbd; have HL := Lib.hid hbl
      clear how hone hbd hbl
      have hlt1' := lt_of_heap hbox
      go_region_law (refine step_app Tryz.eventT rfl (.tmp 35) (.tmp 37) rfl 0 vT d.trace.length (evCells d.trace) ?s1 (HW.out _) w1.heap.size 1 1 [.int .i64 op, vs name, vs to_, vs data] (0, 0) ?s2 (heap_alloc_new w1 _) rfl HO.out (Nat.zero_lt_one) l1 l2 (Nat.zero_le _) ?_; (case s1 => simp [Act.eval, Act.put]); (case s2 => simp [Act.eval, Act.put]); intro g cv w2 hown2 hgrow2 hg2; have hb2 := (hgrow2.block b (HL.out _) (fun e => hnb e.symm)).trans ((HD.out _).trans HB1.out); have k3' := cell_of_row w2 b 3 _ _ _ hb2; have hfr3' := frozen_of_row w2 b 3 _ _ hb2; simp only [List.getElem?_toArray, List.getElem?_cons_zero, List.getElem?_cons_succ] at k3'; have HB2 := Lib.hid hb2; clear hb2)
      all_goals
        go_wp2_with fail
        go_meet
        case rel =>
          obtain ⟨F3, hd3, hF3, hch3, hbox3⟩ := after_trace HDD.out k3 ⟨op, name, to_, data⟩ _ hown2 hgrow2 hg2 hbox HWL.out
          refine ⟨F3, ?_, ?_, hbox3, ?_⟩
          · exact hd3
          · intro k hk
            rcases hF3 k hk with h5 | h5
            · exact .inl h5
            · exact .inr (by omega)
          · exact HCH.out.trans hch3
    case rest =>
      obtain ⟨w3, rfl⟩ : ∃ w3, w3 = wc := ⟨_, rfl⟩
      clear HD1 HB1 HC1
      obtain ⟨F3, hd3, hF3, hbox3, hch3⟩ := hcut
      have HNF3 := Lib.hid (fun h1 => by rcases hF3 _ h1 with h2 | h2; exact HWL.out h2; omega : ¬ F3 w.heap.size)
      have j0 := cell_of_row w3 _ 0 _ _ _ hbox3
      have j1 := cell_of_row w3 _ 1 _ _ _ hbox3
      have j2 := cell_of_row w3 _ 2 _ _ _ hbox3
      have j3 := cell_of_row w3 _ 3 _ _ _ hbox3
      simp only [List.getElem?_toArray, List.getElem?_cons_zero, List.getElem?_cons_succ] at j0 j1 j2 j3
      have HD3 := Lib.hid hd3
      obtain ⟨⟨mN, mS, vP, vT, esN, esS, cN, cS, hb, hMN, hFN, hMS, hFS, hne, hP, hT, hPT, hF⟩, hty⟩ := hd3
      have e0 := cell_of_row w3 b 0 _ _ _ hb
      simp only [List.getElem?_toArray, List.getElem?_cons_zero, List.getElem?_cons_succ] at e0
      have HMN := Lib.hid hMN
      have HFN := Lib.hid hFN
      have HF3 := Lib.hid hF3
      have HCH3 := Lib.hid hch3
      have HBOX3 := Lib.hid hbox3
      have hmF := Lib.hid ((hF mN).2 (.inr (.inl rfl)))
      clear hb hMN hFN hMS hFS hne hP hPT hF hty hT hF3 hch3 hbox3 c5 c6 f5
      go_upto_region 10 with (fail)
      go_cut [] (fun w4 => DiskAt 62 89 w4 F3 b { d.burnt with trace := d.trace ++ [⟨op, name, to_, data⟩], now := doF d.now ⟨op, name, to_, data⟩ } ∧ w4.heap[w.heap.size]? = some (.cells #[.int .i64 op, vs name, vs to_, vs data] 89 (0, 0)) ∧ Chg F3 w3 w4)
      case first =>
        go_region_with (go_at_call 44; refine (do_any mN ⟨op, name, to_, data⟩ d.now esN cN _ HMN.out.drew HFN.out hop hsz).mono ?_; rintro r w4 ⟨rfl, es', c', hM', hL', hc'⟩)
        all_goals
          go_wp2_with fail
          go_meet
          case rel =>
            obtain ⟨k1, k2⟩ := after_do HD3.out e0 hc'.undrew hM' hL'
            exact ⟨k1, (k2.block _ (lt_of_heap HBOX3.out) HNF3.out).trans HBOX3.out, k2⟩
      case rest =>
        obtain ⟨w4, rfl⟩ : ∃ w4, w4 = wc := ⟨_, rfl⟩
        obtain ⟨hd4, hbox4, hch4⟩ := hcut
        have g0 := cell_of_row w4 _ 0 _ _ _ hbox4
        have g1 := cell_of_row w4 _ 1 _ _ _ hbox4
        have g2 := cell_of_row w4 _ 2 _ _ _ hbox4
        have g3 := cell_of_row w4 _ 3 _ _ _ hbox4
        simp only [List.getElem?_toArray, List.getElem?_cons_zero, List.getElem?_cons_succ] at g0 g1 g2 g3
        have HDD := Lib.hid hd4
        have HCH := Lib.hid hch4
        obtain ⟨⟨mN, mS, vP, vT, esN, esS, cN, cS, hb, hMN, hFN, hMS, hFS, hne, hP, hT, hPT, hF⟩, hty⟩ := hd4
        have k2 := cell_of_row w4 b 2 _ _ _ hb
        simp only [List.getElem?_toArray, List.getElem?_cons_zero, List.getElem?_cons_succ] at k2
        have hfr2 := frozen_of_row w4 b 2 _ _ hb
        have hbs := lt_of_heap hb
        have hnb := own_ne hP hb hty
        have HB1 := Lib.hid hb
        have hown1 := Lib.hid hP
        have hlt1' := lt_of_heap hbox4
        have HBOX4 := Lib.hid hbox4
        clear hb hMN hFN hMS hFS hne hP hPT hF hty hT j0 j1 j2 j3 e0 hbox4 hch4
        have how : ∀ o, (w4.alloc o).drew.ownsRow 0 89 4 vP d.pend.length (evCells d.pend) := fun o => ownsRow_chg hown1.out (S := fun _ => False) (((Chg.refl _ w4).alloc o).drew) (fun _ _ h => h)
        have hone : ∀ u ∈ [Value.int .i64 op, vs name, vs to_, vs data], u.oneCell' = true := by
          intro u hu; simp only [List.mem_cons, List.not_mem_nil, or_false] at hu; rcases hu with rfl | rfl | rfl | rfl <;> rfl
        have l1 : d.pend.length + 1 ≤ 1000000000000 := by omega
        have l2 : (d.pend.length + 1) * 56 ≤ 140737488355328 := by omega
        have hbd : ∀ o, (w4.alloc o).drew.heap[b]? = w4.heap[b]? := fun o => Below.heap_alloc w4 o b hbs
        have hbl : ∀ o, b < (w4.alloc o).drew.heap.size := fun o => by show b < (w4.alloc o).heap.size; simp; omega
        have HW := Lib.hid how; have HO := Lib.hid hone; have HD := Lib.hid hbd; have HL := Lib.hid hbl
        clear how hone hbd hbl
        go_upto_region 11 with (fail)
        go_region_law (refine step_app Tryz.eventT rfl (.tmp 65) (.tmp 67) rfl 0 vP d.pend.length (evCells d.pend) ?s1 (HW.out _) w4.heap.size 1 1 [.int .i64 op, vs name, vs to_, vs data] (0, 0) ?s2 (heap_alloc_new w4 _) rfl HO.out (Nat.zero_lt_one) l1 l2 (Nat.zero_le _) ?_; (case s1 => simp [Act.eval, Act.put]); (case s2 => simp [Act.eval, Act.put]); intro g cv w2 hown2 hgrow2 hg2; have hb2 := (hgrow2.block b (HL.out _) (fun e => hnb e.symm)).trans ((HD.out _).trans HB1.out); have k3' := cell_of_row w2 b 2 _ _ _ hb2; have hfr3' := frozen_of_row w2 b 2 _ _ hb2; simp only [List.getElem?_toArray, List.getElem?_cons_zero, List.getElem?_cons_succ] at k3'; have HB2 := Lib.hid hb2; clear hb2)
        all_goals
          go_wp2_with fail
          go_ret
          obtain ⟨F5, hd5, hF5, hch5, _⟩ := after_pend HDD.out k2 ⟨op, name, to_, data⟩ _ hown2 hgrow2 hg2 HBOX4.out HNF3.out
          have hw3 := HCH3.out.size
          have hw4 := HCH.out.size
          refine ⟨rfl, F5, ?_, ?_, ?_⟩
          · rw [HDN.out]; exact hd5
          · intro k hk
            rcases hF5 k hk with h5 | h5
            · rcases HF3.out k h5 with h6 | h6
              · exact .inl h6
              · exact .inr (by omega)
            · exact .inr (by omega)
          · refine HCH3.out.trans' ((HCH.out : Chg F3 w3 w4).trans hch5) ?_
            intro k hk h6
            rcases HF3.out k h6 with h7 | h7
            · exact h7
            · omega
end Go.Proofs.YtahdldbfcjbklaaGreat
