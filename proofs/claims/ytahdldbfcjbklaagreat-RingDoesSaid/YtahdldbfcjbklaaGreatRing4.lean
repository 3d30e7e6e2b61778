/- ring: Begin, End. -/
import Derived.Test.YtahdldbfcjbklaaGreatRing3
namespace Go.Proofs.YtahdldbfcjbklaaGreat
open Go.RowKit Go.MapKept
def beginR (d : DS) (L : List Rw) (k : Bs) : DS × List Rw × Nat × Nat :=
  if 255 < k.length then (d, L, 0, 5)
  else if (stR L k).2 ≠ 0 then (d, L, 0, 11)
  else if (stR L k).1 = 1000000 then (d, L, 0, 21)
  else if (setR d L ⟨k, (stR L k).1 + 1, (stR L k).1⟩).2.2 ≠ 0 then ((setR d L ⟨k, (stR L k).1 + 1, (stR L k).1⟩).1, (setR d L ⟨k, (stR L k).1 + 1, (stR L k).1⟩).2.1, 0, (setR d L ⟨k, (stR L k).1 + 1, (stR L k).1⟩).2.2)
  else ((setR d L ⟨k, (stR L k).1 + 1, (stR L k).1⟩).1, (setR d L ⟨k, (stR L k).1 + 1, (stR L k).1⟩).2.1, (stR L k).1 + 1, 0)
def endR (d : DS) (L : List Rw) (k : Bs) : DS × List Rw × Nat :=
  if 255 < k.length then (d, L, 5)
  else if (stR L k).2 = 0 then (d, L, 10)
  else setR d L ⟨k, (stR L k).1, 0⟩
theorem RingTo.same {w w' : World} {FD FR : Nat → Prop} {b r : Nat} {d : DS} {L : List Rw} (hd : DiskAt 62 89 w FD b d) (hr : RingAt w FR r b L) (hb : Below w.heap.size w w') : RingTo w FD FR b r d L w' :=
  ⟨⟨FD, hd.keptB hb, hr.keptB hb, fun _ h => .inl h⟩, Chg.of_below hb⟩
theorem RingTo.of_below {w w1 w2 : World} {FD FR : Nat → Prop} {b r : Nat} {d : DS} {L : List Rw} (hb : Below w.heap.size w w1) (h : RingTo w1 FD FR b r d L w2) : RingTo w FD FR b r d L w2 := by
  obtain ⟨⟨FD', h1, h2, h3⟩, h4⟩ := h
  have hs := hb.size
  exact ⟨⟨FD', h1, h2, fun k hk => (h3 k hk).imp id (fun h => by omega)⟩, (Chg.of_below hb).trans' h4 (fun i _ h => h)⟩

set_option maxRecDepth 100000 in
set_option maxHeartbeats 4000000 in
theorem begin_any (FD FR : Nat → Prop) (b r : Nat) (d : DS) (L : List Rw) (k : Bs) (w : World) (hd : DiskAt 62 89 w FD b d) (hr : RingAt w FR r b L) (hdis : ∀ k, FR k → ¬ FD k)
    (ho : DiskOk d) (hs1 : (stR L k).1 ≤ 1000000) (hs2 : (stR L k).2 ≤ 1000000) (hk : k.length ≤ 1000) (ho1 : k.length ≤ 255 → DiskOk (d.append ringN (rowB k ((stR L k).1 + 1) (stR L k).1)).1) :
    Calls Tryz.prog 10 #[.pointer (some ⟨r, 0, none⟩), vs k] w fun e w' => e = .returned (.tuple #[.int .u64 ((beginR d L k).2.2.1 : Nat), .int .i64 ((beginR d L k).2.2.2 : Nat)]) ∧ RingTo w FD FR b r (beginR d L k).1 (beginR d L k).2.1 w' := by
  have HST := Lib.hid (state_any FR r b L k w hr)
  have HSET := fun w' (q : Below w.heap.size w w') (h1 : k.length ≤ 255) (h2 : stR L k ≠ ((stR L k).1 + 1, (stR L k).1)) => Lib.hid (set_any FD FR b r d L ⟨k, (stR L k).1 + 1, (stR L k).1⟩ w' (hd.keptB q) (hr.keptB q) hdis ho (ho1 h1) hk (by simp only; omega) (by simp only; omega) h2)
  have HD := Lib.hid hd
  have HR := Lib.hid hr
  have HB0 : Hid (beginR d L k = _) := Lib.hid rfl
  clear hd hr hdis ho ho1
  generalize hst : stR L k = st at *
  obtain ⟨s1, s2⟩ := st
  simp only at HST HSET hs1 hs2 hst
  by_cases hl : 255 < k.length
  · have HR0 := Lib.hid (show beginR d L k = (d, L, 0, 5) from by simp [beginR, hl])
    clear hst
    go_enter Tryz.func10, Tryz.ntmps10
    go_wp2_with fail
    refine HST.out.mono ?_
    rintro e w1 ⟨rfl, hb1⟩
    have HB1 := Lib.hid hb1
    clear hb1
    go_wp2_with fail
    go_ret2
    rw [HR0.out]
    exact ⟨rfl, RingTo.same HD.out HR.out (HB1.out.alloc HB1.out.size _)⟩
  · by_cases h2 : s2 = 0
    · subst h2
      by_cases h1 : s1 = 1000000
      · subst h1
        have HR0 := Lib.hid (show beginR d L k = (d, L, 0, 21) from by simp [beginR, hl, hst])
        clear hst
        go_enter Tryz.func10, Tryz.ntmps10
        go_wp2_with fail
        refine HST.out.mono ?_
        rintro e w1 ⟨rfl, hb1⟩
        have HB1 := Lib.hid hb1
        clear hb1
        go_wp2_with fail
        go_ret2
        rw [HR0.out]
        exact ⟨rfl, RingTo.same HD.out HR.out (HB1.out.alloc HB1.out.size _)⟩
      · have h1' : ((s1 : Int) == 1000000) = false := by rw [beq_eq_false_iff_ne]; omega
        have HR0 := Lib.hid (show beginR d L k = if (setR d L ⟨k, s1 + 1, s1⟩).2.2 ≠ 0 then ((setR d L ⟨k, s1 + 1, s1⟩).1, (setR d L ⟨k, s1 + 1, s1⟩).2.1, 0, (setR d L ⟨k, s1 + 1, s1⟩).2.2) else ((setR d L ⟨k, s1 + 1, s1⟩).1, (setR d L ⟨k, s1 + 1, s1⟩).2.1, s1 + 1, 0) from by simp [beginR, hl, hst, h1])
        have HSE := fun w' (q : Below w.heap.size w w') => Lib.hid (HSET w' q (by omega) (by intro e; have := (Prod.mk.inj e).1; omega)).out
        clear hst HSET h1
        go_enter Tryz.func10, Tryz.ntmps10
        go_wp2_with fail
        refine HST.out.mono ?_
        rintro e w1 ⟨rfl, hb1⟩
        have HB1 := Lib.hid (hb1.alloc hb1.size (.cells #[.int .u64 s1, .int .u64 ((0 : Nat) : Int)] 51))
        have HX1 := Lib.hid (heap_alloc_new w1 (.cells #[.int .u64 s1, .int .u64 ((0 : Nat) : Int)] 51))
        have hsz1 := hb1.size
        clear hb1
        go_wp2_with fail
        refine (HSE _ HB1.out).out.mono ?_
        rintro e w2 ⟨rfl, hq⟩
        have HQ := Lib.hid (RingTo.of_below HB1.out hq)
        have hx2 := (hq.chg.block w1.heap.size (by simp) (fun h => by rcases h with h | h; exact absurd (HD.out.lt _ h) (by omega); exact absurd (HR.out.lt _ h) (by omega))).trans HX1.out
        have x0 := cell_of_row w2 _ 0 _ _ _ hx2
        simp only [List.getElem?_toArray, List.getElem?_cons_zero, List.getElem?_cons_succ] at x0
        clear hq hx2 HSE
        generalize setR d L ⟨k, s1 + 1, s1⟩ = sr at *
        obtain ⟨d', L', e2⟩ := sr
        simp only at HR0 HQ ⊢
        by_cases he : e2 = 0
        · subst he
          go_wp2_with fail
          go_ret2
          rw [HR0.out]
          exact ⟨by simp, HQ.out⟩
        · have he' : ((e2 : Int) == 0) = false := by rw [beq_eq_false_iff_ne]; omega
          have HR1 := Lib.hid (show beginR d L k = (d', L', 0, e2) from by rw [HR0.out]; simp [he])
          clear he
          go_wp2_with fail
          go_ret2
          rw [HR1.out]
          exact ⟨by simp, HQ.out⟩
    · have h2' : ((s2 : Int) == 0) = false := by rw [beq_eq_false_iff_ne]; omega
      have HR0 := Lib.hid (show beginR d L k = (d, L, 0, 11) from by simp [beginR, hl, hst, h2])
      clear hst h2
      go_enter Tryz.func10, Tryz.ntmps10
      go_wp2_with fail
      refine HST.out.mono ?_
      rintro e w1 ⟨rfl, hb1⟩
      have HB1 := Lib.hid hb1
      clear hb1
      go_wp2_with fail
      go_ret2
      rw [HR0.out]
      exact ⟨rfl, RingTo.same HD.out HR.out (HB1.out.alloc HB1.out.size _)⟩
end Go.Proofs.YtahdldbfcjbklaaGreat
