/- ring: End, Open. -/
import Derived.Test.YtahdldbfcjbklaaGreatRing4
namespace Go.Proofs.YtahdldbfcjbklaaGreat
open Go.RowKit Go.MapKept
open Go.ChangeMaps (setBlock)

set_option maxRecDepth 100000 in
set_option maxHeartbeats 4000000 in
theorem end_any (FD FR : Nat → Prop) (b r : Nat) (d : DS) (L : List Rw) (k : Bs) (w : World) (hd : DiskAt 62 89 w FD b d) (hr : RingAt w FR r b L) (hdis : ∀ k, FR k → ¬ FD k)
    (ho : DiskOk d) (hs1 : (stR L k).1 ≤ 1000000) (hs2 : (stR L k).2 ≤ 1000000) (hk : k.length ≤ 1000) (ho1 : k.length ≤ 255 → DiskOk (d.append ringN (rowB k (stR L k).1 0)).1) :
    Calls Tryz.prog 12 #[.pointer (some ⟨r, 0, none⟩), vs k] w fun e w' => e = .returned (.int .i64 ((endR d L k).2.2 : Nat)) ∧ RingTo w FD FR b r (endR d L k).1 (endR d L k).2.1 w' := by
  have HST := Lib.hid (state_any FR r b L k w hr)
  have HSET := fun w' (q : Below w.heap.size w w') (h1 : k.length ≤ 255) (h2 : stR L k ≠ ((stR L k).1, 0)) => Lib.hid (set_any FD FR b r d L ⟨k, (stR L k).1, 0⟩ w' (hd.keptB q) (hr.keptB q) hdis ho (ho1 h1) hk (by simp only; omega) (by simp only; omega) h2)
  have HD := Lib.hid hd
  have HR := Lib.hid hr
  clear hd hr hdis ho ho1
  generalize hst : stR L k = st at *
  obtain ⟨s1, s2⟩ := st
  simp only at HST HSET hs1 hs2 hst
  by_cases hl : 255 < k.length
  · have HR0 := Lib.hid (show endR d L k = (d, L, 5) from by simp [endR, hl])
    clear hst
    go_enter Tryz.func12, Tryz.ntmps12
    go_wp2_with fail
    refine HST.out.mono ?_
    rintro e w1 ⟨rfl, hb1⟩
    have HB1 := Lib.hid hb1
    clear hb1
    go_wp2_with fail
    go_ret
    rw [HR0.out]
    exact ⟨rfl, RingTo.same HD.out HR.out (HB1.out.alloc HB1.out.size _)⟩
  · by_cases h2 : s2 = 0
    · subst h2
      have HR0 := Lib.hid (show endR d L k = (d, L, 10) from by simp [endR, hl, hst])
      clear hst
      go_enter Tryz.func12, Tryz.ntmps12
      go_wp2_with fail
      refine HST.out.mono ?_
      rintro e w1 ⟨rfl, hb1⟩
      have HB1 := Lib.hid hb1
      clear hb1
      go_wp2_with fail
      go_ret
      rw [HR0.out]
      exact ⟨rfl, RingTo.same HD.out HR.out (HB1.out.alloc HB1.out.size _)⟩
    · have h2' : ((s2 : Int) == 0) = false := by rw [beq_eq_false_iff_ne]; omega
      have HR0 := Lib.hid (show endR d L k = setR d L ⟨k, s1, 0⟩ from by simp [endR, hl, hst, h2])
      have HSE := fun w' (q : Below w.heap.size w w') => Lib.hid (HSET w' q (by omega) (by intro e; exact h2 (Prod.mk.inj e).2)).out
      clear hst h2 HSET
      go_enter Tryz.func12, Tryz.ntmps12
      go_wp2_with fail
      refine HST.out.mono ?_
      rintro e w1 ⟨rfl, hb1⟩
      have HB1 := Lib.hid (hb1.alloc hb1.size (.cells #[.int .u64 s1, .int .u64 s2] 51))
      clear hb1
      go_wp2_with fail
      refine (HSE _ HB1.out).out.mono ?_
      rintro e w2 ⟨rfl, hq⟩
      have HQ := Lib.hid (RingTo.of_below HB1.out hq)
      clear hq HSE
      go_wp2_with fail
      go_ret
      rw [HR0.out]
      exact ⟨rfl, HQ.out⟩

/-- what is left of a disk that is opened, and the ring, if there is one -/
def openC (d : DS) (L : List Rw) (c : Bs) : DS × Option (List Rw) × Nat :=
  if (d.write ringN c).2 ≠ 0 then ((d.write ringN c).1, none, (d.write ringN c).2)
  else if (d.write ringN c).1.sync.2 ≠ 0 then ((d.write ringN c).1.sync.1, none, (d.write ringN c).1.sync.2)
  else ((d.write ringN c).1.sync.1, some L, 0)
def openW (d : DS) (s : Bs) (e0 : Nat) : DS × Option (List Rw) × Nat :=
  if e0 = 0 ∧ (rowsOf s).2 = [] then (d, some (rowsOf s).1, 0) else openC d (rowsOf s).1 (s.take (s.length - (rowsOf s).2.length))
def openR (d : DS) : DS × Option (List Rw) × Nat := openW d (d.read ringN).1 (d.read ringN).2

/-- what Open leaves -/
structure OpenTo (w : World) (FD : Nat → Prop) (b : Nat) (d' : DS) (o : Option (List Rw)) (v : Value) (w' : World) : Prop where
  ex : ∃ FD', DiskAt 62 89 w' FD' b d' ∧ (∀ k, FD' k → FD k ∨ w.heap.size ≤ k) ∧
    match o with
    | none => v = .pointer none
    | some L => ∃ r FR, v = .pointer (some ⟨r, 0, none⟩) ∧ RingAt w' FR r b L ∧ (∀ k, FR k → w.heap.size ≤ k) ∧ (∀ k, FR k → ¬ FD' k)
  chg : Chg FD w w'

set_option maxRecDepth 100000 in
set_option maxHeartbeats 4000000 in
theorem open_any (FD : Nat → Prop) (b : Nat) (d : DS) (w : World) (hd : DiskAt 62 89 w FD b d) (ho : DiskOk d)
    (ho1 : DiskOk (d.write ringN ((d.read ringN).1.take ((d.read ringN).1.length - (rowsOf (d.read ringN).1).2.length))).1) :
    Calls Tryz.prog 7 #[.pointer (some ⟨b, 0, none⟩)] w fun e w' => ∃ v, e = .returned (.tuple #[v, .int .i64 ((openR d).2.2 : Nat)]) ∧ OpenTo w FD b (openR d).1 (openR d).2.1 v w' := by
  have HRD := Lib.hid (read_any FD b d ringN w hd)
  have hsl : (d.read ringN).1.length ≤ 549755813888 := by
    have := ho.now
    have h2 := dataF_le d.now ringN
    unfold DS.read
    cases hg : getF d.now ringN with
    | none => simp
    | some x => simp only [dataF, hg, Option.getD_some] at h2 ⊢; omega
  have HD := Lib.hid hd
  have HO := Lib.hid ho
  have HO1 := Lib.hid ho1
  have hblt := hd.lt b hd.self
  have HFL := Lib.hid hd.lt
  unfold openR
  generalize hrd : d.read ringN = rd at *
  obtain ⟨s, e0⟩ := rd
  simp only at HO1 hsl HRD ⊢
  clear hd ho ho1 hrd
  have hmm := @run_makeMap Tryz.prog
  go_enter Tryz.func7, Tryz.ntmps7
  go_wp2_with fail
  refine HRD.out.mono ?_
  rintro e w' ⟨rfl, rfl⟩
  go_wp2_with fail
  refine (from_any s _).mono ?_
  rintro e w1 ⟨rfl, hrd1, hb1⟩
  have hsz1 : w.heap.size + 3 ≤ w1.heap.size := by have := lt_of_heap hrd1; simp at this; omega
  have HB1 := Lib.hid (show Below w.heap.size w w1 from (((Below.refl _ w).alloc (Nat.le_refl _) _).alloc (by simp) _).trans (hb1.mono (by simp; omega)))
  have HRD1 := Lib.hid (show RdAt 78 w1 (w.heap.size + 2) (some s) from by simpa using hrd1)
  have HRG1 := Lib.hid (show RingAt w1 (fun k => k = w.heap.size + 1 ∨ k = w.heap.size) (w.heap.size + 1) b [] from
    ⟨w.heap.size, [], 0, (hb1.block _ (by simp)).trans (heap_al2_new w _ _), ⟨(hb1.block _ (by simp; omega)).trans (heap_al2_old w _ _), List.nodup_nil, List.nodup_nil, by simp⟩, StatesR.nil, fun k => Iff.rfl⟩)
  clear hrd1 hb1
  go_wp2_with fail
  go_loopw [8] (fun at_ wx => ∃ L t, RowsAt s L t ∧ at_ = .int .i64 ((s.length - t.length : Nat) : Int) ∧ RdAt 78 wx (w.heap.size + 2) (some t) ∧ RingAt wx (fun k => k = w.heap.size + 1 ∨ k = w.heap.size) (w.heap.size + 1) b L ∧ Below w.heap.size w wx) (fun at_ _ => s.length - (intOf at_).toNat)
  case atStart => exact ⟨[], s, RowsAt.start s, by simp, HRD1.out, HRG1.out, HB1.out⟩
  case round =>
    obtain ⟨L, t, hro, rfl, hrd, hrg, hb⟩ := hrel
    have htl := hro.len
    have HRO := Lib.hid hro
    have HRG := Lib.hid hrg
    have HBX := Lib.hid hb
    have hszr := lt_of_heap hrd
    clear hro hrg hb
    go_wp2_with fail
    refine (read_ring _ (some t) _ hrd).mono ?_
    rintro e w2 ⟨rfl, hrd2, hch2⟩
    have HRD2 := Lib.hid hrd2
    have hsz2 := hch2.size
    have HRG2 := Lib.hid (HRG.out.kept hch2 (fun k hk e => by have e : k = w.heap.size + 2 := e; omega))
    have HB2 := Lib.hid (HBX.out.trans (hch2.below (B := w.heap.size) (by omega) (fun k e => by have e : k = w.heap.size + 2 := e; omega)))
    have HSO := Lib.hid (rowStep_ok t)
    have HSD : Hid (rowStep t = _) := Lib.hid rfl
    have hsd : rowStep t = if (rowJ (rdText 300 (some t)).1).2 then (rdText 300 (some t)).2.map fun u => ((rowJ (rdText 300 (some t)).1).1, u) else none := rfl
    clear hrd hrd2 hch2 HSD
    generalize rowJ (rdText 300 (some t)).1 = J at *
    generalize (rdText 300 (some t)).2 = r2 at *
    obtain ⟨⟨jd, jn, jo⟩, ok⟩ := J
    simp only at HSO hsd ⊢
    cases ok with
    | false =>
      have hst : rowStep t = none := by simpa using hsd
      have HDN := Lib.hid (HRO.out.done hst)
      have HB3 := Lib.hid (HB2.out.alloc (by omega) (.cells #[.int .u64 jn, .int .u64 jo] 51))
      have HRG3 := Lib.hid (HRG2.out.kept (S := fun _ => False) ((Chg.refl _ w2).alloc (.cells #[.int .u64 jn, .int .u64 jo] 51)) (fun _ _ h => h))
      obtain ⟨a, hA, ha⟩ : ∃ a, a = s.length - t.length ∧ a ≤ s.length := ⟨_, rfl, by omega⟩
      rw [← hA]
      have HA := Lib.hid hA
      clear hst hsd HSO hA
      by_cases hc : e0 = 0 ∧ t = []
      · obtain ⟨rfl, rfl⟩ := hc
        have ha2 : a = s.length := by have := HA.out; simpa using this
        have HOW := Lib.hid (show openW d s 0 = (d, some L, 0) from by rw [openW, HDN.out]; simp)
        subst ha2
        go_wp2_with fail
        go_ret2
        rw [HOW.out]
        refine ⟨_, rfl, ⟨FD, HD.out.keptB HB3.out, fun k hk => .inl hk, _, _, rfl, HRG3.out, fun k hk => by omega, fun k hk h => ?_⟩, Chg.of_below HB3.out⟩
        have := HFL.out k h; omega
      · have HCA := Lib.hid hc
        by_cases h0 : e0 = 0
        · have hat : ((a : Int) == (s.length : Int)) = false := by
            rw [beq_eq_false_iff_ne]
            intro e
            refine hc ⟨h0, ?_⟩
            have := HA.out
            exact List.length_eq_zero_iff.1 (by omega)
          subst h0
          clear hc
          have HOW := Lib.hid (show openW d s 0 = openC d L (s.take a) from by rw [openW, HDN.out, if_neg HCA.out, ← HA.out])
          have hcl : (s.take a).length ≤ 549755813888 := by simp; omega
          have HO2 := Lib.hid (show DiskOk (d.write ringN (s.take a)).1 from by have := HO1.out; rw [HDN.out, ← HA.out] at this; exact this)
          have HWR := Lib.hid (write_any FD b d ringN (s.take a) _ (HD.out.keptB HB3.out) HO.out (by simp) hcl)
          have HOC : Hid (openC d L (s.take a) = if (d.write ringN (s.take a)).2 ≠ 0 then ((d.write ringN (s.take a)).1, none, (d.write ringN (s.take a)).2)
            else if (d.write ringN (s.take a)).1.sync.2 ≠ 0 then ((d.write ringN (s.take a)).1.sync.1, none, (d.write ringN (s.take a)).1.sync.2)
            else ((d.write ringN (s.take a)).1.sync.1, some L, 0)) := Lib.hid rfl
          clear HO1 HCA
          generalize d.write ringN (s.take a) = wr4 at *
          obtain ⟨d4, e4⟩ := wr4
          simp only at HO2 HWR HOC
          go_wp2_with fail
          refine HWR.out.mono ?_
          rintro e w4 ⟨rfl, FD4, hd4, hF4, hch4⟩
          have HD4 := Lib.hid hd4
          have HF4 := Lib.hid (show ∀ k, FD4 k → FD k ∨ w2.heap.size ≤ k from fun k hk => (hF4 k hk).imp id (fun h => by simp at h; omega))
          have HC4 := Lib.hid (show Chg FD w w4 from (Chg.of_below HB3.out).trans' hch4 (fun i _ h => h))
          have HRG4 := Lib.hid (HRG3.out.kept hch4 (fun k hk h => by have := HFL.out k h; omega))
          have hsz4 := hch4.size
          simp only [World.size_alloc] at hsz4
          clear hd4 hF4 hch4 HWR
          by_cases he4 : e4 = 0
          · subst he4
            have HSY := Lib.hid (sync_any FD4 b d4 w4 HD4.out HO2.out)
            generalize d4.sync = sy at *
            obtain ⟨d5, e5⟩ := sy
            simp only at HSY HOC
            go_wp2_with fail
            refine HSY.out.mono ?_
            rintro e w5 ⟨rfl, FD5, hd5, hF5, hch5⟩
            have HD5 := Lib.hid hd5
            have HF5 := Lib.hid (show ∀ k, FD5 k → FD k ∨ w2.heap.size ≤ k from fun k hk => (hF5 k hk).elim (fun h => HF4.out k h) (fun h => .inr (by omega)))
            have HC5 := Lib.hid (show Chg FD w w5 from HC4.out.trans' hch5 (fun i hi h => (HF4.out i h).resolve_right (by omega)))
            have HRG5 := Lib.hid (HRG4.out.kept hch5 (fun k hk h => by rcases HF4.out k h with h | h; have := HFL.out k h; omega; omega))
            clear hd5 hF5 hch5 HSY
            by_cases he5 : e5 = 0
            · subst he5
              go_wp2_with fail
              go_ret2
              rw [HOW.out, HOC.out]
              refine ⟨_, rfl, ⟨FD5, HD5.out, fun k hk => (HF5.out k hk).imp id (fun h => by omega), _, _, rfl, HRG5.out, fun k hk => by omega, fun k hk h => ?_⟩, HC5.out⟩
              rcases HF5.out k h with h | h
              · have := HFL.out k h; omega
              · omega
            · have he5' : ((e5 : Int) == 0) = false := by rw [beq_eq_false_iff_ne]; omega
              have HOC2 := Lib.hid (show openC d L (s.take a) = (d5, none, e5) from by rw [HOC.out]; simp [he5])
              clear he5
              go_wp2_with fail
              go_ret2
              rw [HOW.out, HOC2.out]
              exact ⟨_, rfl, ⟨FD5, HD5.out, fun k hk => (HF5.out k hk).imp id (fun h => by omega), rfl⟩, HC5.out⟩
          · have he4' : ((e4 : Int) == 0) = false := by rw [beq_eq_false_iff_ne]; omega
            have HOC2 := Lib.hid (show openC d L (s.take a) = (d4, none, e4) from by rw [HOC.out]; simp [he4])
            clear he4
            go_wp2_with fail
            go_ret2
            rw [HOW.out, HOC2.out]
            exact ⟨_, rfl, ⟨FD4, HD4.out, fun k hk => (HF4.out k hk).imp id (fun h => by omega), rfl⟩, HC4.out⟩
        · have h0' : ((e0 : Int) == 0) = false := by rw [beq_eq_false_iff_ne]; omega
          clear hc h0
          have HOW := Lib.hid (show openW d s e0 = openC d L (s.take a) from by rw [openW, HDN.out, if_neg HCA.out, ← HA.out])
          have hcl : (s.take a).length ≤ 549755813888 := by simp; omega
          have HO2 := Lib.hid (show DiskOk (d.write ringN (s.take a)).1 from by have := HO1.out; rw [HDN.out, ← HA.out] at this; exact this)
          have HWR := Lib.hid (write_any FD b d ringN (s.take a) _ (HD.out.keptB HB3.out) HO.out (by simp) hcl)
          have HOC : Hid (openC d L (s.take a) = if (d.write ringN (s.take a)).2 ≠ 0 then ((d.write ringN (s.take a)).1, none, (d.write ringN (s.take a)).2)
            else if (d.write ringN (s.take a)).1.sync.2 ≠ 0 then ((d.write ringN (s.take a)).1.sync.1, none, (d.write ringN (s.take a)).1.sync.2)
            else ((d.write ringN (s.take a)).1.sync.1, some L, 0)) := Lib.hid rfl
          clear HO1 HCA
          generalize d.write ringN (s.take a) = wr4 at *
          obtain ⟨d4, e4⟩ := wr4
          simp only at HO2 HWR HOC
          go_wp2_with fail
          refine HWR.out.mono ?_
          rintro e w4 ⟨rfl, FD4, hd4, hF4, hch4⟩
          have HD4 := Lib.hid hd4
          have HF4 := Lib.hid (show ∀ k, FD4 k → FD k ∨ w2.heap.size ≤ k from fun k hk => (hF4 k hk).imp id (fun h => by simp at h; omega))
          have HC4 := Lib.hid (show Chg FD w w4 from (Chg.of_below HB3.out).trans' hch4 (fun i _ h => h))
          have HRG4 := Lib.hid (HRG3.out.kept hch4 (fun k hk h => by have := HFL.out k h; omega))
          have hsz4 := hch4.size
          simp only [World.size_alloc] at hsz4
          clear hd4 hF4 hch4 HWR
          by_cases he4 : e4 = 0
          · subst he4
            have HSY := Lib.hid (sync_any FD4 b d4 w4 HD4.out HO2.out)
            generalize d4.sync = sy at *
            obtain ⟨d5, e5⟩ := sy
            simp only at HSY HOC
            go_wp2_with fail
            refine HSY.out.mono ?_
            rintro e w5 ⟨rfl, FD5, hd5, hF5, hch5⟩
            have HD5 := Lib.hid hd5
            have HF5 := Lib.hid (show ∀ k, FD5 k → FD k ∨ w2.heap.size ≤ k from fun k hk => (hF5 k hk).elim (fun h => HF4.out k h) (fun h => .inr (by omega)))
            have HC5 := Lib.hid (show Chg FD w w5 from HC4.out.trans' hch5 (fun i hi h => (HF4.out i h).resolve_right (by omega)))
            have HRG5 := Lib.hid (HRG4.out.kept hch5 (fun k hk h => by rcases HF4.out k h with h | h; have := HFL.out k h; omega; omega))
            clear hd5 hF5 hch5 HSY
            by_cases he5 : e5 = 0
            · subst he5
              go_wp2_with fail
              go_ret2
              rw [HOW.out, HOC.out]
              refine ⟨_, rfl, ⟨FD5, HD5.out, fun k hk => (HF5.out k hk).imp id (fun h => by omega), _, _, rfl, HRG5.out, fun k hk => by omega, fun k hk h => ?_⟩, HC5.out⟩
              rcases HF5.out k h with h | h
              · have := HFL.out k h; omega
              · omega
            · have he5' : ((e5 : Int) == 0) = false := by rw [beq_eq_false_iff_ne]; omega
              have HOC2 := Lib.hid (show openC d L (s.take a) = (d5, none, e5) from by rw [HOC.out]; simp [he5])
              clear he5
              go_wp2_with fail
              go_ret2
              rw [HOW.out, HOC2.out]
              exact ⟨_, rfl, ⟨FD5, HD5.out, fun k hk => (HF5.out k hk).imp id (fun h => by omega), rfl⟩, HC5.out⟩
          · have he4' : ((e4 : Int) == 0) = false := by rw [beq_eq_false_iff_ne]; omega
            have HOC2 := Lib.hid (show openC d L (s.take a) = (d4, none, e4) from by rw [HOC.out]; simp [he4])
            clear he4
            go_wp2_with fail
            go_ret2
            rw [HOW.out, HOC2.out]
            exact ⟨_, rfl, ⟨FD4, HD4.out, fun k hk => (HF4.out k hk).imp id (fun h => by omega), rfl⟩, HC4.out⟩
    | true =>
      cases r2 with
      | none =>
        exfalso
        have h1 := HSO.out
        rw [hsd] at h1
        simp at h1
      | some u =>
        have hst : rowStep t = some (⟨jd, jn, jo⟩, u) := by simpa using hsd
        have HST := Lib.hid (HRO.out.step hst)
        have hul := HST.out.len
        have hul2 := (rowStep_suffix t _ _ hst).2
        have HB3 := Lib.hid (HB2.out.alloc (by omega) (.cells #[.int .u64 jn, .int .u64 jo] 51))
        have HRG3 := Lib.hid (HRG2.out.kept (S := fun _ => False) ((Chg.refl _ w2).alloc (.cells #[.int .u64 jn, .int .u64 jo] 51)) (fun _ _ h => h))
        have HRD3 := Lib.hid (HRD2.out.kept (S := fun _ => False) ((Chg.refl _ w2).alloc (.cells #[.int .u64 jn, .int .u64 jo] 51)) (fun h => h))
        have hsz3 : (w2.alloc (.cells #[.int .u64 jn, .int .u64 jo] 51)).heap.size = w2.heap.size + 1 := by simp
        have HX3 := Lib.hid (heap_alloc_new w2 (.cells #[.int .u64 jn, .int .u64 jo] 51))
        clear hst hsd HSO HRO HRD2 HRG2 HB2
        go_wp2_with fail
        generalize w2.alloc (.cells #[.int .u64 jn, .int .u64 jo] 51) = w3 at *
        obtain ⟨m4, es4, cl4, hbr4, hM4, hS4, hFm4⟩ := HRG3.out.ex
        have r1 := cell_of_row w3 _ 1 _ _ _ hbr4
        have hx0 := cell_of_row w3 _ 0 _ _ _ HX3.out
        have hx1 := cell_of_row w3 _ 1 _ _ _ HX3.out
        simp only [List.getElem?_toArray, List.getElem?_cons_zero, List.getElem?_cons_succ] at r1 hx0 hx1
        have hup := run_mapUpdate_map vs_key Tryz.underlying67 (w := w3.drew) hM4.drew jd (rwV ⟨jd, jn, jo⟩)
        have HFM := Lib.hid hFm4
        have HS4 := Lib.hid hS4
        have HM4 := Lib.hid hM4
        have HBR4 := Lib.hid hbr4
        have hrm : w.heap.size + 1 ≠ m4 := by
          intro e; subst e
          have := HM4.out.heap; rw [HBR4.out] at this; cases this
        have hm4 : m4 = w.heap.size := by
          rcases (HFM.out m4).2 (.inr rfl) with h | h
          · exact absurd h.symm hrm
          · exact h
        subst hm4
        have hq : Chg (· = w.heap.size) w3 (setBlock w3.drew w.heap.size (.map ((putE es4 jd (rwV ⟨jd, jn, jo⟩) cl4).map (Ent.entry vs)).toArray (clkE es4 jd cl4))) := Chg.undrew (chg_setBlock w3.drew w.heap.size _)
        have HQ := Lib.hid hq
        have HRD4 := Lib.hid (HRD3.out.kept hq (fun e => by have e : w.heap.size + 2 = w.heap.size := e; omega))
        have HRG4 := Lib.hid (show RingAt _ (fun k => k = w.heap.size + 1 ∨ k = w.heap.size) (w.heap.size + 1) b (L ++ [⟨jd, jn, jo⟩]) from ⟨w.heap.size, _, _, (hq.block _ (lt_of_heap HBR4.out) hrm).trans HBR4.out, HM4.out.drew.put _ _, StatesR.put HS4.out ⟨jd, jn, jo⟩ _, HFM.out⟩)
        have HB4 := Lib.hid (HB3.out.trans (hq.below (B := w.heap.size) (by omega) (fun k e => by have e : k = w.heap.size := e; omega)))
        simp only [rwV] at hup
        simp only [rwV] at HQ HRD4 HRG4 HB4
        clear hbr4 hM4 hS4 hFm4 hq
        go_region
        all_goals
          go_wp2_with fail
          refine (left_any _ _ (some u) _ HRD4.out).mono ?_
          rintro e w5 ⟨rfl, rfl⟩
          simp only [Rd.rest]
          go_wp2_with fail
          go_roundw
          case rel => exact ⟨_, u, HST.out, by go_num, HRD4.out, HRG4.out, HB4.out⟩
          case measure => simp [intOf]; omega
end Go.Proofs.YtahdldbfcjbklaaGreat
