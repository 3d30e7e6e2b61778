/- posthornref14: Begin, End. -/
import Derived.Test.YtahdldbfcjbklaaGreatRef14b
namespace Go.Proofs.YtahdldbfcjbklaaGreat
open Go.RowKit Go.MapKept

set_option maxRecDepth 100000 in
set_option maxHeartbeats 4000000 in
theorem r14_begin (FD FR : Nat → Prop) (b r : Nat) (d : DS) (L : List Rw) (k : Bs) (w : World) (hd : R11At w FD b d) (hr : R14At w FR r b L) (hdis : ∀ k, FR k → ¬ FD k)
    (ho : DiskOk d) (hnl : d.now.length ≤ 900000000) (hLl : L.length ≤ 1000000000) (hs1 : (stR L k).1 ≤ 1000000) (hs2 : (stR L k).2 ≤ 1000000) (hk : k.length ≤ 1000) (ho1 : k.length ≤ 255 → DiskOk (d.append ringN (rowB k ((stR L k).1 + 1) (stR L k).1)).1 ∧ (d.append ringN (rowB k ((stR L k).1 + 1) (stR L k).1)).1.now.length ≤ 900000000) :
    Calls Tryz.prog 11 #[.pointer (some ⟨r, 0, none⟩), vs k] w fun e w' => e = .returned (.tuple #[.int .u64 ((beginR d L k).2.2.1 : Nat), .int .i64 ((beginR d L k).2.2.2 : Nat)]) ∧ R14To w FD FR b r (beginR d L k).1 (beginR d L k).2.1 w' := by
  have HST := Lib.hid (r14_state FR r b L k w hr hLl)
  have HSET := fun w' (q : Below w.heap.size w w') (h1 : k.length ≤ 255) => Lib.hid (r14_set FD FR b r d L ⟨k, (stR L k).1 + 1, (stR L k).1⟩ w' (hd.keptB q) (hr.keptB q) hdis ho hnl (ho1 h1).1 (ho1 h1).2 hk (by simp only; omega) (by simp only; omega) hLl)
  have HD := Lib.hid hd
  have HR := Lib.hid hr
  have HDIS := Lib.hid hdis
  have HB0 : Hid (beginR d L k = _) := Lib.hid rfl
  clear hd hr hdis ho ho1
  generalize hst : stR L k = st at *
  obtain ⟨s1, s2⟩ := st
  simp only at HST HSET hs1 hs2 hst
  by_cases hl : 255 < k.length
  · have HR0 := Lib.hid (show beginR d L k = (d, L, 0, 5) from by simp [beginR, hl])
    clear hst
    go_enter Tryz.func11, Tryz.ntmps11
    go_wp2_with fail
    refine HST.out.mono ?_
    rintro e w1 ⟨rfl, hb1⟩
    have HB1 := Lib.hid hb1
    clear hb1
    go_wp2_with fail
    go_ret2
    rw [HR0.out]
    exact ⟨rfl, R14To.same HD.out HR.out HDIS.out (HB1.out.alloc HB1.out.size _)⟩
  · by_cases h2 : s2 = 0
    · subst h2
      by_cases h1 : s1 = 1000000
      · subst h1
        have HR0 := Lib.hid (show beginR d L k = (d, L, 0, 21) from by simp [beginR, hl, hst])
        clear hst
        go_enter Tryz.func11, Tryz.ntmps11
        go_wp2_with fail
        refine HST.out.mono ?_
        rintro e w1 ⟨rfl, hb1⟩
        have HB1 := Lib.hid hb1
        clear hb1
        go_wp2_with fail
        go_ret2
        rw [HR0.out]
        exact ⟨rfl, R14To.same HD.out HR.out HDIS.out (HB1.out.alloc HB1.out.size _)⟩
      · have h1' : ((s1 : Int) == 1000000) = false := by rw [beq_eq_false_iff_ne]; omega
        have HR0 := Lib.hid (show beginR d L k = if (setR d L ⟨k, s1 + 1, s1⟩).2.2 ≠ 0 then ((setR d L ⟨k, s1 + 1, s1⟩).1, (setR d L ⟨k, s1 + 1, s1⟩).2.1, 0, (setR d L ⟨k, s1 + 1, s1⟩).2.2) else ((setR d L ⟨k, s1 + 1, s1⟩).1, (setR d L ⟨k, s1 + 1, s1⟩).2.1, s1 + 1, 0) from by simp [beginR, hl, hst, h1])
        have HSE := fun w' (q : Below w.heap.size w w') => Lib.hid (HSET w' q (by omega)).out
        clear hst HSET h1
        go_enter Tryz.func11, Tryz.ntmps11
        go_wp2_with fail
        refine HST.out.mono ?_
        rintro e w1 ⟨rfl, hb1⟩
        have HB1 := Lib.hid (hb1.alloc hb1.size (.cells #[vs k, .int .u64 s1, .int .u64 ((0 : Nat) : Int)] 48))
        have HX1 := Lib.hid (heap_alloc_new w1 (.cells #[vs k, .int .u64 s1, .int .u64 ((0 : Nat) : Int)] 48))
        have hsz1 := hb1.size
        clear hb1
        go_wp2_with fail
        refine (HSE _ HB1.out).out.mono ?_
        rintro e w2 ⟨rfl, hq⟩
        have HQ := Lib.hid (R14To.of_below HB1.out hq)
        have hx2 := (hq.chg.block w1.heap.size (by simp) (fun h => by rcases h with h | h; exact absurd (HD.out.lt _ h) (by omega); exact absurd (HR.out.lt _ h) (by omega))).trans HX1.out
        have x0 := cell_of_row w2 _ 1 _ _ _ hx2
        simp only [List.getElem?_toArray, List.getElem?_cons_zero, List.getElem?_cons_succ] at x0
        clear hq hx2 HSE
        generalize setR d L ⟨k, s1 + 1, s1⟩ = sr at *
        obtain ⟨d', L', e2⟩ := sr
        simp only at HR0 HQ ⊢
        by_cases he : e2 = 0
        · subst he
          go_wp2_with fail
          go_ret2
          rw [HR0.out]
          exact ⟨by simp, HQ.out⟩
        · have he' : ((e2 : Int) == 0) = false := by rw [beq_eq_false_iff_ne]; omega
          have HR1 := Lib.hid (show beginR d L k = (d', L', 0, e2) from by rw [HR0.out]; simp [he])
          clear he
          go_wp2_with fail
          go_ret2
          rw [HR1.out]
          exact ⟨by simp, HQ.out⟩
    · have h2' : ((s2 : Int) == 0) = false := by rw [beq_eq_false_iff_ne]; omega
      have HR0 := Lib.hid (show beginR d L k = (d, L, 0, 11) from by simp [beginR, hl, hst, h2])
      clear hst h2
      go_enter Tryz.func11, Tryz.ntmps11
      go_wp2_with fail
      refine HST.out.mono ?_
      rintro e w1 ⟨rfl, hb1⟩
      have HB1 := Lib.hid hb1
      clear hb1
      go_wp2_with fail
      go_ret2
      rw [HR0.out]
      exact ⟨rfl, R14To.same HD.out HR.out HDIS.out (HB1.out.alloc HB1.out.size _)⟩
set_option maxRecDepth 100000 in
set_option maxHeartbeats 4000000 in
theorem r14_end (FD FR : Nat → Prop) (b r : Nat) (d : DS) (L : List Rw) (k : Bs) (w : World) (hd : R11At w FD b d) (hr : R14At w FR r b L) (hdis : ∀ k, FR k → ¬ FD k)
    (ho : DiskOk d) (hnl : d.now.length ≤ 900000000) (hLl : L.length ≤ 1000000000) (hs1 : (stR L k).1 ≤ 1000000) (hs2 : (stR L k).2 ≤ 1000000) (hk : k.length ≤ 1000) (ho1 : k.length ≤ 255 → DiskOk (d.append ringN (rowB k (stR L k).1 0)).1 ∧ (d.append ringN (rowB k (stR L k).1 0)).1.now.length ≤ 900000000) :
    Calls Tryz.prog 13 #[.pointer (some ⟨r, 0, none⟩), vs k] w fun e w' => e = .returned (.int .i64 ((endR d L k).2.2 : Nat)) ∧ R14To w FD FR b r (endR d L k).1 (endR d L k).2.1 w' := by
  have HST := Lib.hid (r14_state FR r b L k w hr hLl)
  have HSET := fun w' (q : Below w.heap.size w w') (h1 : k.length ≤ 255) => Lib.hid (r14_set FD FR b r d L ⟨k, (stR L k).1, 0⟩ w' (hd.keptB q) (hr.keptB q) hdis ho hnl (ho1 h1).1 (ho1 h1).2 hk (by simp only; omega) (by simp only; omega) hLl)
  have HD := Lib.hid hd
  have HR := Lib.hid hr
  have HDIS := Lib.hid hdis
  clear hd hr hdis ho ho1
  generalize hst : stR L k = st at *
  obtain ⟨s1, s2⟩ := st
  simp only at HST HSET hs1 hs2 hst
  by_cases hl : 255 < k.length
  · have HR0 := Lib.hid (show endR d L k = (d, L, 5) from by simp [endR, hl])
    clear hst
    go_enter Tryz.func13, Tryz.ntmps13
    go_wp2_with fail
    refine HST.out.mono ?_
    rintro e w1 ⟨rfl, hb1⟩
    have HB1 := Lib.hid hb1
    clear hb1
    go_wp2_with fail
    go_ret
    rw [HR0.out]
    exact ⟨rfl, R14To.same HD.out HR.out HDIS.out (HB1.out.alloc HB1.out.size _)⟩
  · by_cases h2 : s2 = 0
    · subst h2
      have HR0 := Lib.hid (show endR d L k = (d, L, 10) from by simp [endR, hl, hst])
      clear hst
      go_enter Tryz.func13, Tryz.ntmps13
      go_wp2_with fail
      refine HST.out.mono ?_
      rintro e w1 ⟨rfl, hb1⟩
      have HB1 := Lib.hid hb1
      clear hb1
      go_wp2_with fail
      go_ret
      rw [HR0.out]
      exact ⟨rfl, R14To.same HD.out HR.out HDIS.out (HB1.out.alloc HB1.out.size _)⟩
    · have h2' : ((s2 : Int) == 0) = false := by rw [beq_eq_false_iff_ne]; omega
      have HR0 := Lib.hid (show endR d L k = setR d L ⟨k, s1, 0⟩ from by simp [endR, hl, hst, h2])
      have HSE := fun w' (q : Below w.heap.size w w') => Lib.hid (HSET w' q (by omega)).out
      clear hst h2 HSET
      go_enter Tryz.func13, Tryz.ntmps13
      go_wp2_with fail
      refine HST.out.mono ?_
      rintro e w1 ⟨rfl, hb1⟩
      have HB1 := Lib.hid (hb1.alloc hb1.size (.cells #[vs k, .int .u64 s1, .int .u64 s2] 48))
      clear hb1
      go_wp2_with fail
      refine (HSE _ HB1.out).out.mono ?_
      rintro e w2 ⟨rfl, hq⟩
      have HQ := Lib.hid (R14To.of_below HB1.out hq)
      clear hq HSE
      go_wp2_with fail
      go_ret
      rw [HR0.out]
      exact ⟨rfl, HQ.out⟩

end Go.Proofs.YtahdldbfcjbklaaGreat
