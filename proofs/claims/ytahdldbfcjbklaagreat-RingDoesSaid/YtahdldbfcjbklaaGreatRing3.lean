/- ring: set, Begin, End. -/
import Derived.Test.YtahdldbfcjbklaaGreatRing2
namespace Go.Proofs.YtahdldbfcjbklaaGreat
open Go.RowKit Go.MapKept
open Go.ChangeMaps (setBlock)
abbrev ringN : Bs := [114, 105, 110, 103]
def setR (d : DS) (L : List Rw) (x : Rw) : DS × List Rw × Nat :=
  if (d.append ringN (rowB x.dom x.now x.old)).2 ≠ 0 then ((d.append ringN (rowB x.dom x.now x.old)).1, L, (d.append ringN (rowB x.dom x.now x.old)).2)
  else if (d.append ringN (rowB x.dom x.now x.old)).1.sync.2 ≠ 0 then ((d.append ringN (rowB x.dom x.now x.old)).1.sync.1, L, (d.append ringN (rowB x.dom x.now x.old)).1.sync.2)
  else ((d.append ringN (rowB x.dom x.now x.old)).1.sync.1, L ++ [x], 0)
theorem rowB_length (dom : Bs) (now old : Nat) (hd : dom.length ≤ 1000) (hn : now < 18446744073709551616) (ho : old < 18446744073709551616) : (rowB dom now old).length ≤ 1100 := by
  have n1 := need8 dom.length (by omega)
  have n2 := need8 now hn
  have n3 := need8 old ho
  have h1 : (textB dom ++ (numB now ++ numB old)).length ≤ 1060 := by
    rw [List.length_append, List.length_append, textB_length, numB_length, numB_length]; omega
  have n4 := need8 (textB dom ++ (numB now ++ numB old)).length (by omega)
  rw [rowB, textB_length]; omega

/-- what a call on a ring leaves: the disk, the ring, and nothing else -/
structure RingTo (w : World) (FD FR : Nat → Prop) (b r : Nat) (d' : DS) (L' : List Rw) (w' : World) : Prop where
  ex : ∃ FD', DiskAt 62 89 w' FD' b d' ∧ RingAt w' FR r b L' ∧ (∀ k, FD' k → FD k ∨ w.heap.size ≤ k)
  chg : Chg (fun k => FD k ∨ FR k) w w'

set_option maxRecDepth 100000 in
set_option maxHeartbeats 4000000 in
theorem set_any (FD FR : Nat → Prop) (b r : Nat) (d : DS) (L : List Rw) (x : Rw) (w : World) (hd : DiskAt 62 89 w FD b d) (hr : RingAt w FR r b L) (hdis : ∀ k, FR k → ¬ FD k)
    (ho : DiskOk d) (ho1 : DiskOk (d.append ringN (rowB x.dom x.now x.old)).1) (hdl : x.dom.length ≤ 1000) (hn : x.now < 18446744073709551616) (hol : x.old < 18446744073709551616) (hne : stR L x.dom ≠ (x.now, x.old)) :
    Calls Tryz.prog 41 #[.pointer (some ⟨r, 0, none⟩), vs x.dom, .agg #[.int .u64 x.now, .int .u64 x.old]] w fun e w' => e = .returned (.int .i64 ((setR d L x).2.2 : Nat)) ∧ RingTo w FD FR b r (setR d L x).1 (setR d L x).2.1 w' := by
  have hst := fun w' (q : Below w.heap.size w w') => Lib.hid (state_any FR r b L x.dom w' (hr.keptB q))
  have HD := Lib.hid hd
  have HR := Lib.hid hr
  have HDIS := Lib.hid hdis
  have HO := Lib.hid ho
  have HO1 := Lib.hid ho1
  have HNE := Lib.hid hne
  have hrl := rowB_length x.dom x.now x.old hdl hn hol
  have hlt := hr.lt
  have hrw : r < w.heap.size := hr.lt r hr.self
  have HRow := fun w' => Lib.hid (row_any x.dom hdl x.now x.old hn hol w')
  obtain ⟨dom, now, old⟩ := x
  simp only at hst HO1 HNE hrl HRow hdl hn hol ⊢
  generalize stR L dom = st at *
  obtain ⟨n0, o0⟩ := st
  clear hd hr hdis ho ho1 hne hlt
  have HB := Lib.hid ((Below.refl w.heap.size w).alloc (Nat.le_refl _) (.cells #[.int .u64 now, .int .u64 old] 51))
  have g0 := cell_of_row _ _ 0 _ _ _ (heap_alloc_new w (.cells #[.int .u64 now, .int .u64 old] 51))
  have g1 := cell_of_row _ _ 1 _ _ _ (heap_alloc_new w (.cells #[.int .u64 now, .int .u64 old] 51))
  simp only [List.getElem?_toArray, List.getElem?_cons_zero, List.getElem?_cons_succ] at g0 g1
  go_enter Tryz.func41, Tryz.ntmps41
  go_upto_region 1 with (fail)
  go_cut [13] (fun t13 w1 => t13 = .bool false ∧ w1.heap[w.heap.size]? = some (.cells #[.int .u64 now, .int .u64 old] 51 (0, 0)) ∧ Below w.heap.size w w1)
  case first =>
    by_cases h1 : now = n0
    · have h2 : ((old : Int) == (o0 : Int)) = false := by rw [beq_eq_false_iff_ne]; intro h2; exact HNE.out (by rw [h1]; congr 1; omega)
      subst h1
      go_region_with (go_at_call 27; refine (hst _ HB.out.drew).out.mono ?_; rintro e w1 ⟨rfl, hb1⟩; have j0 := cell_below_drew hb1 g0; have j1 := cell_below_drew hb1 g1)
      all_goals
        go_wp2_with fail
        go_meet
        case rel =>
          have hb1' := below_undrew hb1
          exact ⟨rfl, (hb1'.block _ (by simp)).trans (heap_alloc_new w _), HB.out.trans (hb1'.mono (by simp))⟩
    · have h2 : ((now : Int) == (n0 : Int)) = false := by rw [beq_eq_false_iff_ne]; omega
      go_region_with (go_at_call 27; refine (hst _ HB.out.drew).out.mono ?_; rintro e w1 ⟨rfl, hb1⟩; have j0 := cell_below_drew hb1 g0; have j1 := cell_below_drew hb1 g1)
      all_goals
        go_wp2_with fail
        go_meet
        case rel =>
          have hb1' := below_undrew hb1
          exact ⟨rfl, (hb1'.block _ (by simp)).trans (heap_alloc_new w _), HB.out.trans (hb1'.mono (by simp))⟩
  case rest =>
    obtain ⟨w1, rfl⟩ : ∃ w1, w1 = wc := ⟨_, rfl⟩
    obtain ⟨rfl, hbox, hb1⟩ := hcut
    have HX1 := Lib.hid hbox
    have HB1 := Lib.hid hb1
    have HD1 := Lib.hid (HD.out.keptB hb1)
    have HR1 := Lib.hid (HR.out.keptB hb1)
    have hs1 := hb1.size
    have hxlt := lt_of_heap hbox
    clear hst HB HNE g0 g1
    have g0 := cell_of_row w1 _ 0 _ _ _ hbox
    have g1 := cell_of_row w1 _ 1 _ _ _ hbox
    obtain ⟨m, es, c, hbr, hM, hS, hF⟩ := HR1.out.ex
    have hrlt := lt_of_heap hbr
    have r0 := cell_of_row w1 r 0 _ _ _ hbr
    simp only [List.getElem?_toArray, List.getElem?_cons_zero, List.getElem?_cons_succ] at g0 g1 r0
    clear hbox hb1 hbr hM hS hF
    go_upto_region 3 with (fail)
    go_cut [7] (fun t7 w3 => t7 = .int .i64 (((d.append ringN (rowB dom now old)).2 : Nat) : Int) ∧ DiskTo 62 89 w1 FD b (d.append ringN (rowB dom now old)).1 w3)
    case first =>
      go_region_with (first | (go_at_call 70; refine (HRow _).out.mono ?_; rintro e w2 ⟨rfl, hb2⟩; have q0 := cell_below_drew hb2 g0; have q1 := cell_below_drew hb2 g1; have q2 := cell_below_drew hb2 r0; have HD2 := Lib.hid (HD1.out.keptB (below_undrew hb2))) | (go_at_call 69; refine (append_any FD b d ringN _ w2 HD2.out HO.out (by omega)).mono ?_; rintro e w3 ⟨rfl, hd3⟩))
      all_goals
        go_wp2_with fail
        go_meet
        case rel => exact ⟨rfl, DiskTo.of_below (below_undrew hb2) hd3⟩
    case rest =>
      obtain ⟨w3, rfl⟩ : ∃ w3, w3 = wc := ⟨_, rfl⟩
      obtain ⟨rfl, FD3, hd3, hF3, hch3⟩ := hcut
      have HD3 := Lib.hid hd3
      have HF3 := Lib.hid hF3
      have HC3 := Lib.hid hch3
      have HR3 := Lib.hid (HR1.out.kept hch3 (fun k hk => HDIS.out k hk))
      have hnf : ¬ FD w.heap.size := fun h => by have := HD.out.lt _ h; omega
      have HX3 := Lib.hid ((hch3.block _ hxlt hnf).trans HX1.out)
      have hs3 := hch3.size
      have hdis3 : ∀ k, FR k → ¬ FD3 k := fun k hk h => by
        rcases hF3 k h with h | h
        · exact HDIS.out k hk h
        · have := HR.out.lt k hk; omega
      have HDIS3 := Lib.hid hdis3
      have hfr : ∀ k, FD3 k → FD k ∨ w.heap.size ≤ k := fun k hk => (hF3 k hk).imp id (fun h => by omega)
      have HFR3 := Lib.hid hfr
      have HCC3 := Lib.hid (show Chg (fun k => FD k ∨ FR k) w w3 from (Chg.of_below HB1.out).trans' hch3 (fun i _ h => .inl h))
      clear hd3 hF3 hch3 hdis3 hfr hnf g0 g1 r0
      obtain ⟨m3, es3, cl3, hbr3, hM3, hS3, hFm3⟩ := HR3.out.ex
      have r0 := cell_of_row w3 r 0 _ _ _ hbr3
      simp only [List.getElem?_toArray, List.getElem?_cons_zero, List.getElem?_cons_succ] at r0
      clear hbr3 hM3 hS3 hFm3
      have HSET := Lib.hid (show setR d L ⟨dom, now, old⟩ = if (d.append ringN (rowB dom now old)).2 ≠ 0 then ((d.append ringN (rowB dom now old)).1, L, (d.append ringN (rowB dom now old)).2)
        else if (d.append ringN (rowB dom now old)).1.sync.2 ≠ 0 then ((d.append ringN (rowB dom now old)).1.sync.1, L, (d.append ringN (rowB dom now old)).1.sync.2)
        else ((d.append ringN (rowB dom now old)).1.sync.1, L ++ [⟨dom, now, old⟩], 0) from rfl)
      generalize d.append ringN (rowB dom now old) = ap at *
      obtain ⟨d3, a2⟩ := ap
      simp only at HD3 HSET HO1 ⊢
      by_cases ha : a2 = 0
      · subst ha
        have HSY := Lib.hid (sync_any FD3 b d3 w3 HD3.out HO1.out)
        go_wp2_with fail
        refine HSY.out.mono ?_
        rintro e w4 ⟨rfl, FD4, hd4, hF4, hch4⟩
        have HD4 := Lib.hid hd4
        have HR4 := Lib.hid (HR3.out.kept hch4 (fun k hk => HDIS3.out k hk))
        have hs4 := hch4.size
        have hnf : ¬ FD3 w.heap.size := fun h => by
          rcases HF3.out _ h with h | h
          · have := HD.out.lt _ h; omega
          · omega
        have HX4 := Lib.hid ((hch4.block _ (by omega) hnf).trans HX3.out)
        have HFR4 := Lib.hid (show ∀ k, FD4 k → FD k ∨ w.heap.size ≤ k from fun k hk => by
          rcases hF4 k hk with h | h
          · exact HFR3.out k h
          · exact .inr (by omega))
        have HCC4 := Lib.hid (show Chg (fun k => FD k ∨ FR k) w w4 from HCC3.out.trans' hch4 (fun i hi h => (HFR3.out i h).elim .inl (fun h => by omega)))
        have hdis4 : ∀ k, FR k → ¬ FD4 k := fun k hk h => by
          rcases hF4 k h with h | h
          · exact HDIS3.out k hk h
          · have := HR3.out.lt k hk; omega
        have HDIS4 := Lib.hid hdis4
        clear hd4 hF4 hch4 hnf hdis4 HSY
        generalize d3.sync = sy at *
        obtain ⟨d4, s2⟩ := sy
        simp only at HD4 HSET ⊢
        by_cases hs : s2 = 0
        · subst hs
          obtain ⟨m4, es4, cl4, hbr4, hM4, hS4, hFm4⟩ := HR4.out.ex
          have r1 := cell_of_row w4 r 1 _ _ _ hbr4
          have hx0 := cell_of_row w4 _ 0 _ _ _ HX4.out
          have hx1 := cell_of_row w4 _ 1 _ _ _ HX4.out
          simp only [List.getElem?_toArray, List.getElem?_cons_zero, List.getElem?_cons_succ] at r1 hx0 hx1
          have hup := run_mapUpdate_map vs_key Tryz.underlying67 (w := w4.drew) hM4.drew dom (rwV ⟨dom, now, old⟩)
          have HFM := Lib.hid hFm4
          have HS4 := Lib.hid hS4
          have HM4 := Lib.hid hM4
          have HBR4 := Lib.hid hbr4
          simp only [rwV] at hup
          clear hbr4 hM4 hS4 hFm4
          go_wp2_with fail
          go_region
          all_goals
            go_wp2_with fail
            go_ret
            rw [HSET.out]
            have hrm : r ≠ m4 := by
              intro e; subst e
              have := HM4.out.heap; rw [HBR4.out] at this; cases this
            have hq : Chg (· = m4) w4 (setBlock w4.drew m4 (.map ((putE es4 dom (rwV ⟨dom, now, old⟩) cl4).map (Ent.entry vs)).toArray (clkE es4 dom cl4))) := Chg.undrew (chg_setBlock w4.drew m4 _)
            have hfm : FR m4 := (HFM.out m4).2 (.inr rfl)
            refine ⟨by simp, ⟨FD4, HD4.out.kept hq (fun k hk e => HDIS4.out m4 hfm (by rw [← e]; exact hk)), ⟨m4, _, _, (hq.block r (lt_of_heap HBR4.out) hrm).trans HBR4.out, HM4.out.drew.put _ _, StatesR.put HS4.out ⟨dom, now, old⟩ _, HFM.out⟩, HFR4.out⟩, HCC4.out.trans' hq (fun i _ e => .inr (by rw [e]; exact hfm))⟩
        · have hs' : ((s2 : Int) == 0) = false := by rw [beq_eq_false_iff_ne]; omega
          have HSE2 := Lib.hid (show setR d L ⟨dom, now, old⟩ = (d4, L, s2) from by rw [HSET.out]; simp [hs])
          go_wp2_with fail
          go_ret
          rw [HSE2.out]
          exact ⟨rfl, ⟨FD4, HD4.out, HR4.out, HFR4.out⟩, HCC4.out⟩
      · have ha' : ((a2 : Int) == 0) = false := by rw [beq_eq_false_iff_ne]; omega
        have HSE2 := Lib.hid (show setR d L ⟨dom, now, old⟩ = (d3, L, a2) from by rw [HSET.out]; simp [ha])
        go_wp2_with fail
        go_ret
        rw [HSE2.out]
        exact ⟨rfl, ⟨FD3, HD3.out, HR3.out, HFR3.out⟩, HCC3.out⟩
end Go.Proofs.YtahdldbfcjbklaaGreat
