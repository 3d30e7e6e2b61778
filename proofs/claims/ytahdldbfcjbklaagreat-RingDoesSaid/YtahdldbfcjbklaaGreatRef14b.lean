/- posthornref14: set. -/
import Derived.Test.YtahdldbfcjbklaaGreatRef14
namespace Go.Proofs.YtahdldbfcjbklaaGreat
open Go.RowKit Go.MapKept
theorem Tryz.infoRow : (Tryz.prog.info? 48).map (fun i => (i.zero, i.size, i.bytes)) = some (some (.agg #[vs [], .int .u64 0, .int .u64 0]), 3, 32) := by kernel_rfl
theorem Tryz.rowT : ElemT Tryz.prog 80 48 (.agg #[vs [], .int .u64 0, .int .u64 0]) 3 32 := ⟨Tryz.underlying80, Tryz.infoRow, rfl, by decide⟩
/-- what a call on the reference's ring leaves -/
structure R14To (w : World) (FD FR : Nat → Prop) (b r : Nat) (d' : DS) (L' : List Rw) (w' : World) : Prop where
  ex : ∃ FD' FR', R11At w' FD' b d' ∧ R14At w' FR' r b L' ∧ (∀ k, FD' k → FD k ∨ w.heap.size ≤ k) ∧ (∀ k, FR' k → FR k ∨ w.heap.size ≤ k) ∧ (∀ k, FR' k → ¬ FD' k)
  chg : Chg (fun k => FD k ∨ FR k) w w'
theorem R14To.same {w w' : World} {FD FR : Nat → Prop} {b r : Nat} {d : DS} {L : List Rw} (hd : R11At w FD b d) (hr : R14At w FR r b L) (hdis : ∀ k, FR k → ¬ FD k) (hb : Below w.heap.size w w') : R14To w FD FR b r d L w' :=
  ⟨⟨FD, FR, hd.keptB hb, hr.keptB hb, fun _ h => .inl h, fun _ h => .inl h, hdis⟩, Chg.of_below hb⟩
theorem R14To.of_below {w w1 w2 : World} {FD FR : Nat → Prop} {b r : Nat} {d : DS} {L : List Rw} (hb : Below w.heap.size w w1) (h : R14To w1 FD FR b r d L w2) : R14To w FD FR b r d L w2 := by
  obtain ⟨⟨FD', FR', h1, h2, h3, h5, h6⟩, h4⟩ := h
  have hs := hb.size
  exact ⟨⟨FD', FR', h1, h2, fun k hk => (h3 k hk).imp id (fun h => by omega), fun k hk => (h5 k hk).imp id (fun h => by omega), h6⟩, (Chg.of_below hb).trans' h4 (fun i _ h => h)⟩

set_option maxRecDepth 100000 in
set_option maxHeartbeats 4000000 in
theorem r14_set (FD FR : Nat → Prop) (b r : Nat) (d : DS) (L : List Rw) (x : Rw) (w : World) (hd : R11At w FD b d) (hr : R14At w FR r b L) (hdis : ∀ k, FR k → ¬ FD k)
    (ho : DiskOk d) (hnl : d.now.length ≤ 900000000) (ho1 : DiskOk (d.append ringN (rowB x.dom x.now x.old)).1) (hnl1 : (d.append ringN (rowB x.dom x.now x.old)).1.now.length ≤ 900000000) (hdl : x.dom.length ≤ 1000) (hn : x.now < 18446744073709551616) (hol : x.old < 18446744073709551616) (hLl : L.length ≤ 1000000000) :
    Calls Tryz.prog 42 #[.pointer (some ⟨r, 0, none⟩), .agg #[vs x.dom, .int .u64 x.now, .int .u64 x.old]] w fun e w' => e = .returned (.int .i64 ((setR d L x).2.2 : Nat)) ∧ R14To w FD FR b r (setR d L x).1 (setR d L x).2.1 w' := by
  have HD := Lib.hid hd
  have HR := Lib.hid hr
  have HDIS := Lib.hid hdis
  have HO := Lib.hid ho
  have HO1 := Lib.hid ho1
  have HNL1 := Lib.hid hnl1
  have hrl := rowB_length x.dom x.now x.old hdl hn hol
  have hrw : r < w.heap.size := hr.lt r hr.self
  have hbw : b < w.heap.size := hd.lt b hd.self
  have HRow := fun w' => Lib.hid (r14_write x.dom hdl x.now x.old hn hol w')
  obtain ⟨dom, now, old⟩ := x
  simp only at HO1 HNL1 hrl HRow hdl hn hol ⊢
  clear hd hr hdis ho ho1 hnl1
  have HB := Lib.hid ((Below.refl w.heap.size w).alloc (Nat.le_refl _) (.cells #[vs dom, .int .u64 now, .int .u64 old] 48))
  have HXA := Lib.hid (heap_alloc_new w (.cells #[vs dom, .int .u64 now, .int .u64 old] 48))
  go_enter Tryz.func42, Tryz.ntmps42
  go_upto_region 1 with (fail)
  obtain ⟨w1, ew, HX1, HB1, hs1⟩ : ∃ w1, w1 = w.alloc (.cells #[vs dom, .int .u64 now, .int .u64 old] 48) ∧ Hid (w1.heap[w.heap.size]? = some (.cells #[vs dom, .int .u64 now, .int .u64 old] 48 (0, 0))) ∧ Hid (Below w.heap.size w w1) ∧ w.heap.size < w1.heap.size := ⟨_, rfl, HXA, HB, by simp⟩
  rw [← ew]
  clear ew HB HXA
  have HD1 := Lib.hid (HD.out.keptB HB1.out)
  have HR1 := Lib.hid (HR.out.keptB HB1.out)
  have g0 := cell_of_row w1 _ 0 _ _ _ HX1.out
  have g1 := cell_of_row w1 _ 1 _ _ _ HX1.out
  have g2 := cell_of_row w1 _ 2 _ _ _ HX1.out
  obtain ⟨vL, hbr, hvL, hFL⟩ := HR1.out.ex
  have r0 := cell_of_row w1 r 0 _ _ _ hbr
  simp only [List.getElem?_toArray, List.getElem?_cons_zero, List.getElem?_cons_succ] at g0 g1 g2 r0
  have HBR1 := Lib.hid hbr
  have HV1 := Lib.hid hvL
  have HFL := Lib.hid hFL
  clear hbr hvL hFL
  go_cut [5] (fun t5 w3 => t5 = .int .i64 (((d.append ringN (rowB dom now old)).2 : Nat) : Int) ∧ R11To w1 FD b (d.append ringN (rowB dom now old)).1 w3)
  case first =>
    go_region_with (first | (go_at_call 72; refine (HRow _).out.mono ?_; rintro e w2 ⟨rfl, hb2⟩; have q0 := cell_below_drew hb2 g0; have q1 := cell_below_drew hb2 g1; have q2 := cell_below_drew hb2 g2; have q3 := cell_below_drew hb2 r0; have HD2 := Lib.hid (HD1.out.keptB (below_undrew hb2))) | (go_at_call 71; refine (r11_append FD b d ringN _ w2 HD2.out HO.out hnl (by omega)).mono ?_; rintro e w3 ⟨rfl, hd3⟩))
    all_goals
      go_wp2_with fail
      go_meet
      case rel => exact ⟨rfl, R11To.of_below (below_undrew hb2) hd3⟩
  case rest =>
    obtain ⟨w3, rfl⟩ : ∃ w3, w3 = wc := ⟨_, rfl⟩
    obtain ⟨rfl, FD3, hd3, hF3, hch3⟩ := hcut
    have HD3 := Lib.hid hd3
    have HF3 := Lib.hid hF3
    have hnFD : ∀ k, FR k → ¬ FD k := HDIS.out
    have HBR3 := Lib.hid ((hch3.block r (by omega) (hnFD r HR.out.self)).trans HBR1.out)
    have HV3 := Lib.hid (ownsRow_chg HV1.out hch3 (fun k hk => hnFD k ((HFL.out k).2 (.inr hk))))
    have hnf : ¬ FD w.heap.size := fun h => by have := HD.out.lt _ h; omega
    have HX3 := Lib.hid ((hch3.block _ hs1 hnf).trans HX1.out)
    have hs3 := hch3.size
    have HDIS3 := Lib.hid (show ∀ k, FR k → ¬ FD3 k from fun k hk h => by
      rcases hF3 k h with h | h
      · exact HDIS.out k hk h
      · have := HR.out.lt k hk; omega)
    have HFR3 := Lib.hid (show ∀ k, FD3 k → FD k ∨ w.heap.size ≤ k from fun k hk => (hF3 k hk).imp id (fun h => by omega))
    have HCC3 := Lib.hid (show Chg (fun k => FD k ∨ FR k) w w3 from (Chg.of_below HB1.out).trans' hch3 (fun i _ h => .inl h))
    have r0' := cell_of_row w3 r 0 _ _ _ HBR3.out
    simp only [List.getElem?_toArray, List.getElem?_cons_zero, List.getElem?_cons_succ] at r0'
    clear hd3 hF3 hch3 hnf g0 g1 g2 r0 hnFD HX1 HBR1 HV1 HR1 HD1
    have HSET := Lib.hid (show setR d L ⟨dom, now, old⟩ = if (d.append ringN (rowB dom now old)).2 ≠ 0 then ((d.append ringN (rowB dom now old)).1, L, (d.append ringN (rowB dom now old)).2)
      else if (d.append ringN (rowB dom now old)).1.sync.2 ≠ 0 then ((d.append ringN (rowB dom now old)).1.sync.1, L, (d.append ringN (rowB dom now old)).1.sync.2)
      else ((d.append ringN (rowB dom now old)).1.sync.1, L ++ [⟨dom, now, old⟩], 0) from rfl)
    generalize d.append ringN (rowB dom now old) = ap at *
    obtain ⟨d3, a2⟩ := ap
    simp only at HD3 HSET HO1 HNL1 ⊢
    by_cases ha : a2 = 0
    · subst ha
      have HSY := Lib.hid (r11_sync FD3 b d3 w3 HD3.out HO1.out HNL1.out)
      go_wp2_with fail
      refine HSY.out.mono ?_
      rintro e w4 ⟨rfl, FD4, hd4, hF4, hch4⟩
      have HD4 := Lib.hid hd4
      have hs4 := hch4.size
      have hnf : ¬ FD3 w.heap.size := fun h => by
        rcases HF3.out _ h with h | h
        · have := HD.out.lt _ h; omega
        · omega
      have HX4 := Lib.hid ((hch4.block _ (by omega) hnf).trans HX3.out)
      have HBR4 := Lib.hid ((hch4.block r (by omega) (HDIS3.out r HR.out.self)).trans HBR3.out)
      have HV4 := Lib.hid (ownsRow_chg HV3.out hch4 (fun k hk => HDIS3.out k ((HFL.out k).2 (.inr hk))))
      have HFR4 := Lib.hid (show ∀ k, FD4 k → FD k ∨ w.heap.size ≤ k from fun k hk => by
        rcases hF4 k hk with h | h
        · exact HFR3.out k h
        · exact .inr (by omega))
      have HCC4 := Lib.hid (show Chg (fun k => FD k ∨ FR k) w w4 from HCC3.out.trans' hch4 (fun i hi h => (HFR3.out i h).elim .inl (fun h => by omega)))
      have HDIS4 := Lib.hid (show ∀ k, FR k → ¬ FD4 k from fun k hk h => by
        rcases hF4 k h with h | h
        · exact HDIS3.out k hk h
        · have := HR.out.lt k hk; omega)
      have HFD4 := Lib.hid hd4.lt
      clear hd4 hF4 hch4 hnf HSY HBR3 HV3 HX3
      generalize d3.sync = sy at *
      obtain ⟨d4, s2⟩ := sy
      simp only at HD4 HSET ⊢
      by_cases hs : s2 = 0
      · subst hs
        have hrlt4 := lt_of_heap HBR4.out
        have k1 := cell_of_row w4 r 1 _ _ _ HBR4.out
        have hfr1 := frozen_of_row w4 r 1 _ _ HBR4.out
        have y0 := cell_of_row w4 _ 0 _ _ _ HX4.out
        have y1 := cell_of_row w4 _ 1 _ _ _ HX4.out
        have y2 := cell_of_row w4 _ 2 _ _ _ HX4.out
        simp only [List.getElem?_toArray, List.getElem?_cons_zero, List.getElem?_cons_succ] at y0 y1 y2 k1
        have honeL := Lib.hid (rwCells_one L)
        have hone1 := Lib.hid (rwC_one ⟨dom, now, old⟩)
        have hxlt4 : w.heap.size < w4.heap.size := by omega
        have l1 : L.length ≤ 1000000000000 := by omega
        have l2 : L.length * 32 ≤ 140737488355328 := by omega
        have l3 : L.length + 1 ≤ 1000000000000 := by omega
        have l4 : (L.length + 1) * 32 ≤ 140737488355328 := by omega
        have HSE3 := Lib.hid (show setR d L ⟨dom, now, old⟩ = (d4, L ++ [⟨dom, now, old⟩], 0) from by rw [HSET.out]; simp)
        clear r0'
        go_wp2_with fail
        go_region_law (first | (refine step_app0 Tryz.rowT rfl (.tmp 23) (.tmp 27) rfl w4.heap.size _ (by rfl) ?hB ?hg0 (by first | (simp; done) | (simp; omega)) vL L.length (rwCells L) (by rfl) ?hrow honeL.out l1 l2 ?_; (case hB => first | (simp; done) | (simp; omega)); (case hg0 => first | exact heap_alloc_new _ _ | exact heap_al2_new _ _ _ | exact heap_al2_old _ _ _); (case hrow => first | exact ownsRow_chg HV4.out (S := fun _ => False) ((Chg.refl _ w4).alloc _).drew (fun _ _ h => h) | exact ownsRow_chg HV4.out (S := fun _ => False) (((Chg.refl _ w4).alloc _).alloc _).drew (fun _ _ h => h)); intro v2 w2 hown2 hch2; have hx2 := Lib.hid hch2; have ho2 := Lib.hid hown2; clear hch2 hown2; have hb2 := Lib.hid (show Below w4.heap.size w4 w2 from by first | exact ((Below.refl _ w4).alloc (Nat.le_refl _) _).drew.trans (hx2.out.below (by first | (simp; done) | (simp; omega)) (fun k hk => by subst hk; first | (simp; done) | (simp; omega))) | exact (((Below.refl _ w4).alloc (Nat.le_refl _) _).alloc (by simp) _).drew.trans (hx2.out.below (by first | (simp; done) | (simp; omega)) (fun k hk => by subst hk; first | (simp; done) | (simp; omega)))); have j0 := cell_below hb2.out y0; have j1 := cell_below hb2.out y1; have j2 := cell_below hb2.out y2; have hs2 := hb2.out.size) | (refine step_app Tryz.rowT rfl (.tmp 28) (.tmp 30) rfl w4.heap.size _ L.length (rwCells L) (by rfl) ?hown _ 1 1 (rwC ⟨dom, now, old⟩) (0, 0) (by rfl) ?hg rfl hone1.out Nat.zero_lt_one l3 l4 ?hbw ?_; (case hown => exact ownsRow_chg ho2.out (S := fun _ => False) ((Chg.refl _ w2).alloc _) (fun _ _ h => h)); (case hg => exact heap_alloc_new _ _); (case hbw => simp; omega); intro g' cv' w3_ hown3 hgrow3_ hg3; have hx3 := Lib.hid hgrow3_; have ho3 := Lib.hid hown3; have hB3 := Lib.hid (below_app (hb2.out.alloc hs2 _) (ownsRow_chg ho2.out (S := fun _ => False) ((Chg.refl _ w2).alloc _) (fun _ _ h => h)) hgrow3_ (by simp; omega)); have k3' := cell_below hB3.out k1; have hfr3' := (hB3.out.frozen (p := ⟨r, 1, none⟩) hrlt4).trans hfr1; clear hown3 hgrow3_ hg3) | (refine step_app Tryz.rowT rfl (.tmp 28) (.tmp 30) rfl w4.heap.size _ L.length (rwCells L) (by rfl) ?hown _ 1 1 (rwC ⟨dom, now, old⟩) (0, 0) (by rfl) ?hg rfl hone1.out Nat.zero_lt_one l3 l4 ?hbw ?_; (case hown => exact ho2.out); (case hg => first | exact (hx2.out.block _ (by first | (simp; done) | (simp; omega)) (by first | (simp; done) | (simp; omega))).trans (heap_al2_new _ _ _) | exact (hx2.out.block _ (by first | (simp; done) | (simp; omega)) (by first | (simp; done) | (simp; omega))).trans (heap_al2_old _ _ _)); (case hbw => exact hs2); intro g' cv' w3_ hown3 hgrow3_ hg3; have hx3 := Lib.hid hgrow3_; have ho3 := Lib.hid hown3; have hB3 := Lib.hid (below_app hb2.out ho2.out hgrow3_ hs2); have k3' := cell_below hB3.out k1; have hfr3' := (hB3.out.frozen (p := ⟨r, 1, none⟩) hrlt4).trans hfr1; clear hown3 hgrow3_ hg3))
        all_goals
          go_wp2_with fail
          go_ret
          rw [HSE3.out]
          have hbk3 := (hB3.out.block r hrlt4).trans HBR4.out
          have hq : Chg (· = r) w4 (w3_.setCell ⟨r, 1, none⟩ (.slice (some ⟨g', 0, none⟩) (L.length + 1) cv')) := (Chg.of_below (S := (· = r)) hB3.out).setCell (p := ⟨r, 1, none⟩) (fun _ => rfl) _
          have hgl := (ho3.out.lt g' rfl).1
          refine ⟨by simp, ⟨FD4, fun k => k = r ∨ k = g', HD4.out.kept hq (fun k hk e => HDIS4.out r HR.out.self (by rw [← e]; exact hk)), ⟨_, heap_setCell_same _ _ _ _ _ _ hbk3, ?_, fun k => ?_⟩, HFR4.out, fun k hk => ?_, fun k hk h => ?_⟩, HCC4.out.trans' hq (fun i _ e => .inr (by rw [e]; exact HR.out.self))⟩
          · change World.ownsRow _ 0 _ 3 _ (L ++ [(⟨dom, now, old⟩ : Rw)]).length (List.flatMap rwC (L ++ [(⟨dom, now, old⟩ : Rw)]))
            rw [show (L ++ [(⟨dom, now, old⟩ : Rw)]).length = L.length + 1 from by simp, flat_snoc]
            exact ownsRow_base (ownsRow_chg ho3.out (chg1 w3_ r 1 _) (fun k hk e => by simp only [Value.ownBlock, Option.some.injEq] at hk; omega)) (Nat.zero_le _)
          · simp only [Value.ownBlock, Option.some.injEq]
            constructor
            · rintro (h | h)
              · exact .inl h
              · exact .inr h.symm
            · rintro (h | h)
              · exact .inl h
              · exact .inr h.symm
          · rcases hk with rfl | rfl
            · exact .inl HR.out.self
            · exact .inr (by omega)
          · rcases hk with rfl | rfl
            · exact HDIS4.out _ HR.out.self h
            · have := HFD4.out _ h; omega
      · have hs' : ((s2 : Int) == 0) = false := by rw [beq_eq_false_iff_ne]; omega
        have HSE2 := Lib.hid (show setR d L ⟨dom, now, old⟩ = (d4, L, s2) from by rw [HSET.out]; simp [hs])
        clear hs
        go_wp2_with fail
        go_ret
        rw [HSE2.out]
        exact ⟨rfl, ⟨FD4, FR, HD4.out, ⟨vL, HBR4.out, HV4.out, HFL.out⟩, HFR4.out, fun k hk => .inl hk, HDIS4.out⟩, HCC4.out⟩
    · have ha' : ((a2 : Int) == 0) = false := by rw [beq_eq_false_iff_ne]; omega
      have HSE2 := Lib.hid (show setR d L ⟨dom, now, old⟩ = (d3, L, a2) from by rw [HSET.out]; simp [ha])
      clear ha
      go_wp2_with fail
      go_ret
      rw [HSE2.out]
      exact ⟨rfl, ⟨FD3, FR, HD3.out, ⟨vL, HBR3.out, HV3.out, HFL.out⟩, HFR3.out, fun k hk => .inl hk, HDIS3.out⟩, HCC3.out⟩
end Go.Proofs.YtahdldbfcjbklaaGreat
