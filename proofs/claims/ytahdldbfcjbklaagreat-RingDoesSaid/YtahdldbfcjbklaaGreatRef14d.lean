/- posthornref14: Rows. -/
import Derived.Test.YtahdldbfcjbklaaGreatRef14c
namespace Go.Proofs.YtahdldbfcjbklaaGreat
open Go.RowKit Go.MapKept
theorem RowsAt.drop {s t : Bs} {L : List Rw} (h : RowsAt s L t) : s.drop (s.length - t.length) = t := (List.suffix_iff_eq_drop.1 h.suf).symm

set_option maxRecDepth 100000 in
set_option maxHeartbeats 4000000 in
theorem r14_rows (s : Bs) (hs : s.length ≤ 549755813888) (hcnt : (rowsOf s).1.length ≤ 1000000000) (hpre : ∀ L t, RowsAt s L t → L.length ≤ 1000000000) (w : World) :
    Calls Tryz.prog 38 #[vs s] w fun e w' => ∃ v, e = .returned (.tuple #[v, .int .i64 ((s.length - (rowsOf s).2.length : Nat) : Int)]) ∧ RowsV w' w.heap.size v (rowsOf s).1 ∧ Below w.heap.size w w' := by
  have HPRE := Lib.hid hpre
  clear hpre hcnt
  go_enter Tryz.func38, Tryz.ntmps38
  go_wp2
  go_loopw [4, 5] (fun o at_ wx => ∃ L t, RowsAt s L t ∧ at_ = .int .i64 ((s.length - t.length : Nat) : Int) ∧ RowsV wx w.heap.size o L ∧ Below w.heap.size w wx) (fun _ at_ _ => s.length - (intOf at_).toNat)
  case atStart =>
    refine ⟨[], s, RowsAt.start s, by simp, ?_, (Below.refl _ _).alloc (Nat.le_refl _) _⟩
    exact ⟨by simp, .inr ⟨w.heap.size, 0, #[], rfl, Nat.le_refl _, heap_alloc_new w _, Nat.le_refl _, Nat.zero_le _, by simp, by simp⟩⟩
  case round =>
    obtain ⟨L, t, hro, rfl, ho, hb⟩ := hrel
    have HRO := Lib.hid hro
    have HO := Lib.hid ho
    have HB := Lib.hid hb
    have htl := hro.len
    have hdrop := hro.drop
    have hsz0 := hb.size
    have hLl := HPRE.out _ _ hro
    obtain ⟨a, hA, hal⟩ : ∃ a, a = s.length - t.length ∧ a ≤ s.length := ⟨_, rfl, by omega⟩
    rw [← hA] at hdrop ⊢
    have HA := Lib.hid hA
    clear hro ho hb hA
    have hx1 := heap_alloc_new wr (.cells #[vs t, .bool false] 112)
    have hrd1 : RdAt 112 (wr.alloc (.cells #[vs t, .bool false] 112)) wr.heap.size (some t) := hx1
    have HRD1 := Lib.hid hrd1
    clear hx1 hrd1
    go_wp2_with fail
    refine (r12_text_any _ _ (some t) 300 (by omega) _ HRD1.out (by simp only [Rd.rest]; omega)).mono ?_
    rintro e w2 ⟨rfl, hrd2, hch2⟩
    have HRD2 := Lib.hid hrd2
    have hsz2 : wr.heap.size + 1 ≤ w2.heap.size := by have := hch2.size; simpa using this
    have HB2 := Lib.hid (show Below w.heap.size w w2 from (HB.out.alloc (by omega) _).trans (hch2.below (B := w.heap.size) (by simp; omega) (fun k e => by have e : k = wr.heap.size := e; omega)))
    have HO2 := Lib.hid (show RowsV w2 w.heap.size _ L from ownsRow_chg (ownsRow_chg HO.out (S := fun _ => False) ((Chg.refl _ wr).alloc (.cells #[vs t, .bool false] 112)) (fun _ _ h => h)) hch2 (fun k hk e => by have e : k = wr.heap.size := e; have := (HO.out.lt k hk).2; omega))
    have HSO := Lib.hid (rowStep_ok t)
    have hsd : rowStep t = if (rowJ (rdText 300 (some t)).1).2 then (rdText 300 (some t)).2.map fun u => ((rowJ (rdText 300 (some t)).1).1, u) else none := rfl
    have HSD := Lib.hid hsd
    have htxl : (rdText 300 (some t)).1.length ≤ 1000000000000 := by
      have h1 : ∀ n r, (rdTake n r).1.length ≤ r.rest.length := by
        intro n r
        cases r with
        | none => simp [rdTake]
        | some x => by_cases h : n ≤ x.length <;> simp [rdTake, h, Rd.rest]
      have h2 := h1 (rdNum 300 (some t)).1 (rdNum 300 (some t)).2
      have h3 := rdNum_shorter 300 (some t)
      simp only [Rd.rest] at h2 h3
      unfold rdText
      omega
    clear hrd2 hch2 hsd HRD1
    generalize (rdText 300 (some t)).2 = r2 at *
    generalize (rdText 300 (some t)).1 = tx at *
    have HRDJ := Lib.hid (show RdAt 112 (w2.alloc (.cells #[vs tx, .bool false] 112)) w2.heap.size (some tx) from heap_alloc_new w2 _)
    go_wp2_with fail
    refine (r12_text_any _ _ (some tx) 255 (by omega) _ HRDJ.out (by simp only [Rd.rest]; omega)).mono ?_
    rintro e w4 ⟨rfl, hrd4, hch4⟩
    have HRD4 := Lib.hid hrd4
    have hsz4 : w2.heap.size + 1 ≤ w4.heap.size := by have := hch4.size; simpa using this
    have HC4 := Lib.hid (show Chg (fun _ => False) w2 w4 from ((Chg.refl _ w2).alloc _).trans' hch4 (fun i hi e => by have e : i = w2.heap.size := e; omega))
    clear hrd4 hch4 HRDJ
    have HJ := Lib.hid (show rowJ tx = (⟨(rdText 255 (some tx)).1, (rdNum 1000000 (rdText 255 (some tx)).2).1, (rdNum 1000000 (rdNum 1000000 (rdText 255 (some tx)).2).2).1⟩,
      decide (rdDone (rdNum 1000000 (rdNum 1000000 (rdText 255 (some tx)).2).2).2 = 0)) from rfl)
    generalize rdText 255 (some tx) = q4 at *
    obtain ⟨dom, j4⟩ := q4
    simp only at HRD4 HJ ⊢
    have HX5 := Lib.hid (heap_alloc_new w4 (.cells #[vs dom, .int .u64 0, .int .u64 0] 48))
    have HRD5 := Lib.hid (HRD4.out.kept (S := fun _ => False) ((Chg.refl _ w4).alloc (.cells #[vs dom, .int .u64 0, .int .u64 0] 48)) (fun h => h))
    go_wp2_with fail
    refine (r12_rnum_any _ _ _ 1000000 (by omega) _ HRD5.out).mono ?_
    rintro e w6 ⟨rfl, hrd6, hch6⟩
    have hsz6 : w4.heap.size + 1 ≤ w6.heap.size := by have := hch6.size; simpa using this
    have HX6 := Lib.hid ((hch6.block _ (by simp) (fun e => by have e : w4.heap.size = w2.heap.size := e; omega)).trans HX5.out)
    have HC6 := Lib.hid (show Chg (fun _ => False) w2 w6 from (HC4.out.alloc _).trans' hch6 (fun i hi e => by have e : i = w2.heap.size := e; omega))
    have x1 := cell_of_row w6 _ 1 _ _ _ HX6.out
    have f1 := frozen_of_row w6 w4.heap.size 1 _ _ HX6.out
    simp only [List.getElem?_toArray, List.getElem?_cons_zero, List.getElem?_cons_succ] at x1
    generalize rdNum 1000000 j4 = q6 at *
    obtain ⟨now, j6⟩ := q6
    simp only at hrd6 HJ ⊢
    have HRD7 := Lib.hid (hrd6.kept (S := (· = w4.heap.size)) (chg1 w6 w4.heap.size 1 (.int .u64 now)) (fun e => by have e : w2.heap.size = w4.heap.size := e; omega))
    have HX7 := Lib.hid (heap_setCell_same _ _ 1 _ _ (.int .u64 now) HX6.out)
    clear hrd6 hch6 HRD4 HRD5
    go_wp2_with fail
    refine (r12_rnum_any _ _ _ 1000000 (by omega) _ HRD7.out).mono ?_
    rintro e w8 ⟨rfl, hrd8, hch8⟩
    have hsz8 : w6.heap.size ≤ w8.heap.size := by have := hch8.size; simpa [World.setCell] using this
    have HX8 := Lib.hid (show w8.heap[w4.heap.size]? = some (.cells #[vs dom, .int .u64 now, .int .u64 0] 48 (0, 0)) from (hch8.block _ (lt_of_heap HX7.out) (fun e => by have e : w4.heap.size = w2.heap.size := e; omega)).trans HX7.out)
    have HC8 := Lib.hid (show Chg (fun _ => False) w2 w8 from (HC6.out.setCell (p := ⟨w4.heap.size, 1, none⟩) (fun h => by have h : w4.heap.size < w2.heap.size := h; omega) _).trans' hch8 (fun i hi e => by have e : i = w2.heap.size := e; omega))
    have x2 := cell_of_row w8 _ 2 _ _ _ HX8.out
    have f2 := frozen_of_row w8 w4.heap.size 2 _ _ HX8.out
    simp only [List.getElem?_toArray, List.getElem?_cons_zero, List.getElem?_cons_succ] at x2
    generalize rdNum 1000000 j6 = q8 at *
    obtain ⟨old, j8⟩ := q8
    simp only at hrd8 HJ ⊢
    have HRD9 := Lib.hid (hrd8.kept (S := (· = w4.heap.size)) (chg1 w8 w4.heap.size 2 (.int .u64 old)) (fun e => by have e : w2.heap.size = w4.heap.size := e; omega))
    have HX9 := Lib.hid (show (w8.setCell ⟨w4.heap.size, 2, none⟩ (.int .u64 old)).heap[w4.heap.size]? = some (.cells #[vs dom, .int .u64 now, .int .u64 old] 48 (0, 0)) from heap_setCell_same _ _ 2 _ _ (.int .u64 old) HX8.out)
    have HC9 := Lib.hid (show Chg (fun _ => False) w2 (w8.setCell ⟨w4.heap.size, 2, none⟩ (.int .u64 old)) from HC8.out.setCell (p := ⟨w4.heap.size, 2, none⟩) (fun h => by have h : w4.heap.size < w2.heap.size := h; omega) _)
    have hsz9 : (w8.setCell ⟨w4.heap.size, 2, none⟩ (.int .u64 old)).heap.size = w8.heap.size := by simp [World.setCell]
    have HRDI8 := Lib.hid (HRD2.out.kept HC8.out (fun h => h))
    have i1_8 := HRDI8.out.c1
    have hne1 : ¬ wr.heap.size = w4.heap.size := by omega
    have hne2 : ¬ w4.heap.size = wr.heap.size := by omega
    clear hrd8 hch8 HRD7 HX5 HX6 HX7 x1 f1
    obtain ⟨w9, ew, HRD9, HX9, HC9, hsz9⟩ : ∃ w9, w9 = w8.setCell ⟨w4.heap.size, 2, none⟩ (.int .u64 old) ∧ Hid (RdAt 112 w9 w2.heap.size j8) ∧ Hid (w9.heap[w4.heap.size]? = some (.cells #[vs dom, .int .u64 now, .int .u64 old] 48 (0, 0))) ∧ Hid (Chg (fun _ => False) w2 w9) ∧ w8.heap.size ≤ w9.heap.size := ⟨_, rfl, HRD9, HX9, HC9, by omega⟩
    have EW := Lib.hid ew
    clear ew
    have HRDI := Lib.hid (HRD2.out.kept HC9.out (fun h => h))
    have i0 := HRDI.out.c0
    have i1 := HRDI.out.c1
    have HB9 := Lib.hid (HB2.out.trans (HC9.out.below (B := w.heap.size) (by omega) (fun k h => h.elim)))
    have HO9 := Lib.hid (show RowsV w9 w.heap.size _ L from ownsRow_chg HO2.out HC9.out (fun _ _ h => h))
    have z0 := cell_of_row w9 _ 0 _ _ _ HX9.out
    have z1 := cell_of_row w9 _ 1 _ _ _ HX9.out
    have z2 := cell_of_row w9 _ 2 _ _ _ HX9.out
    simp only [List.getElem?_toArray, List.getElem?_cons_zero, List.getElem?_cons_succ] at z0 z1 z2
    have HJ1 := Lib.hid (show (rowJ tx).1 = ⟨dom, now, old⟩ from by rw [HJ.out])
    have HJ2 := Lib.hid (show (rowJ tx).2 = decide (rdDone j8 = 0) from by rw [HJ.out])
    cases r2 with
    | none =>
      have hst : rowStep t = none := by rw [HSD.out]; simp
      have HDN := Lib.hid (HRO.out.done hst)
      simp only [Rd.rest, Rd.bad] at i0 i1 i1_8
      clear hst
      go_wp2_with fail
      rw [← EW.out]
      go_ret2
      rw [HDN.out, ← HA.out]
      exact ⟨_, rfl, HO9.out, HB9.out⟩
    | some u =>
      simp only [Rd.rest, Rd.bad] at i0 i1 i1_8
      have HDC := Lib.hid (r12_done _ _ _ _ HRD9.out)
      go_wp2_with fail
      rw [← EW.out]
      refine HDC.out.mono ?_
      rintro e w10 ⟨rfl, rfl⟩
      by_cases hd : rdDone j8 = 0
      · have hst : rowStep t = some (⟨dom, now, old⟩, u) := by rw [HSD.out, HJ1.out, HJ2.out]; simp [hd]
        have HST := Lib.hid (HRO.out.step hst)
        have hul := HST.out.len
        have hul2 := (rowStep_suffix t _ _ hst).2
        have HONE := Lib.hid (rwC_one ⟨dom, now, old⟩)
        rw [hd]
        have HNB := Lib.hid (show ¬ (u4.ownBlock = some wr.heap.size) from fun e => by have := (HO.out.lt _ e).2; omega)
        clear hst hd
        go_wp2_with (at_builtin; refine wpList_appL Tryz.rowT rfl (.tmp 39) (.tmp 41) rfl w.heap.size _ L.length (rwCells L) rfl (ownsRow_chg HO9.out (S := fun _ => False) ((Chg.refl _ w9).alloc _) (fun _ _ h => h)) _ 1 1 (rwC ⟨dom, now, old⟩) (0, 0) rfl (heap_alloc_new _ _) rfl HONE.out Nat.zero_lt_one (by omega) (by omega) (by simp; omega) ?_; intro g' cv' w11 hown11 hgrow11 hg11; have HO11 := Lib.hid hown11; have HB11 := Lib.hid (below_app (HB9.out.alloc (by omega) _) (ownsRow_chg HO9.out (S := fun _ => False) ((Chg.refl _ w9).alloc _) (fun _ _ h => h)) hgrow11 (by simp; omega)); have j0 := (RdAt.kept (RdAt.kept HRDI.out (S := fun _ => False) ((Chg.refl _ w9).alloc (.cells #[vs dom, .int .u64 now, .int .u64 old] 48)) (fun h => h)) (chg_grown hgrow11) (fun e => HNB.out e)).c0; simp only [Rd.rest] at j0; clear hown11 hgrow11 hg11)
        go_roundw
        case rel =>
          refine ⟨L ++ [⟨dom, now, old⟩], u, HST.out, by go_num, ?_, HB11.out⟩
          have := HO11.out
          change World.ownsRow _ _ _ 3 _ (L ++ [(⟨dom, now, old⟩ : Rw)]).length (List.flatMap rwC (L ++ [(⟨dom, now, old⟩ : Rw)]))
          rw [show (L ++ [(⟨dom, now, old⟩ : Rw)]).length = L.length + 1 from by simp, flat_snoc]
          exact this
        case measure => have := HA.out; simp [intOf]; omega
      · have hst : rowStep t = none := by rw [HSD.out, HJ2.out]; simp [hd]
        have HDN := Lib.hid (HRO.out.done hst)
        have hd' : ((rdDone j8 : Int) == 0) = false := by rw [beq_eq_false_iff_ne]; omega
        clear hst hd
        go_wp2_with fail
        go_ret2
        rw [HDN.out, ← HA.out]
        exact ⟨_, rfl, HO9.out, HB9.out⟩
end Go.Proofs.YtahdldbfcjbklaaGreat
