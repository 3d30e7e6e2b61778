/- posthornref14: Open. -/
import Derived.Test.YtahdldbfcjbklaaGreatRef14d
namespace Go.Proofs.YtahdldbfcjbklaaGreat
open Go.RowKit Go.MapKept
theorem rowsF_len (n : Nat) (s : Bs) : (rowsF n s).1.length + (rowsF n s).2.length ≤ s.length := by
  induction n generalizing s with
  | zero => simp [rowsF]
  | succ n ih =>
    unfold rowsF
    cases h : rowStep s with
    | none => simp
    | some p =>
      obtain ⟨r, t⟩ := p
      have h1 := ih t
      have h2 := (rowStep_suffix s r t h).2
      simp only [List.length_cons]; omega
theorem rowsOf_len (s : Bs) : (rowsOf s).1.length + (rowsOf s).2.length ≤ s.length := rowsF_len _ s
theorem RowsAt.cnt {s t : Bs} {L : List Rw} (h : RowsAt s L t) : L.length ≤ s.length := by
  obtain ⟨n, _, he⟩ := h.n
  have h1 := rowsOf_len s
  rw [he] at h1
  simp only [List.length_append] at h1; omega

/-- what the reference's Open leaves -/
structure R14Open (w : World) (FD : Nat → Prop) (b : Nat) (d' : DS) (o : Option (List Rw)) (v : Value) (w' : World) : Prop where
  ex : ∃ FD', R11At w' FD' b d' ∧ (∀ k, FD' k → FD k ∨ w.heap.size ≤ k) ∧
    match o with
    | none => v = .pointer none
    | some L => ∃ r FR, v = .pointer (some ⟨r, 0, none⟩) ∧ R14At w' FR r b L ∧ (∀ k, FR k → w.heap.size ≤ k) ∧ (∀ k, FR k → ¬ FD' k)
  chg : Chg FD w w'

set_option maxRecDepth 100000 in
set_option maxHeartbeats 4000000 in
theorem r14_open (FD : Nat → Prop) (b : Nat) (d : DS) (w : World) (hd : R11At w FD b d) (ho : DiskOk d) (hnl : d.now.length ≤ 900000000) (hsm : (d.read ringN).1.length ≤ 1000000000)
    (ho1 : DiskOk (d.write ringN ((d.read ringN).1.take ((d.read ringN).1.length - (rowsOf (d.read ringN).1).2.length))).1) (hnl1 : (d.write ringN ((d.read ringN).1.take ((d.read ringN).1.length - (rowsOf (d.read ringN).1).2.length))).1.now.length ≤ 900000000) :
    Calls Tryz.prog 8 #[.pointer (some ⟨b, 0, none⟩)] w fun e w' => ∃ v, e = .returned (.tuple #[v, .int .i64 ((openR d).2.2 : Nat)]) ∧ R14Open w FD b (openR d).1 (openR d).2.1 v w' := by
  have HRD := Lib.hid (r11_read FD b d ringN w hd hnl)
  have HD := Lib.hid hd
  have HO := Lib.hid ho
  have HO1 := Lib.hid ho1
  have HN1 := Lib.hid hnl1
  have hblt := hd.lt b hd.self
  have HFL := Lib.hid hd.lt
  unfold openR
  generalize hrd : d.read ringN = rd at *
  obtain ⟨s, e0⟩ := rd
  simp only at HO1 HN1 hsm HRD ⊢
  clear hd ho ho1 hrd hnl1
  have HRW := fun w => Lib.hid (r14_rows s (by omega) (by have := rowsOf_len s; omega) (fun L t h => by have := h.cnt; omega) w)
  have hrl := rowsOf_len s
  have HOWD := Lib.hid (show openW d s e0 = if e0 = 0 ∧ (rowsOf s).2 = [] then (d, some (rowsOf s).1, 0) else openC d (rowsOf s).1 (s.take (s.length - (rowsOf s).2.length)) from rfl)
  generalize hro : rowsOf s = ro at *
  obtain ⟨L, t⟩ := ro
  simp only at HOWD HO1 HN1 HRW hrl
  obtain ⟨a, hA, ha⟩ : ∃ a, a = s.length - t.length ∧ a ≤ s.length := ⟨_, rfl, by omega⟩
  rw [← hA] at HOWD HO1 HN1 HRW
  have HA := Lib.hid hA
  clear hro hA
  go_enter Tryz.func8, Tryz.ntmps8
  go_wp2_with fail
  refine HRD.out.mono ?_
  rintro e w' ⟨rfl, rfl⟩
  go_wp2_with fail
  refine (HRW _).out.mono ?_
  rintro e w1 ⟨vL, rfl, hv1, hb1⟩
  obtain ⟨av, cv, rfl⟩ := ownsRow_val hv1
  have HV1 := Lib.hid hv1
  have HB1 := Lib.hid hb1
  have hsz1 := hb1.size
  clear hv1 hb1 HRW
  by_cases hc : e0 = 0 ∧ t = []
  · obtain ⟨rfl, rfl⟩ := hc
    have ha2 : a = s.length := by have := HA.out; simpa using this
    have HOW := Lib.hid (show openW d s 0 = (d, some L, 0) from by rw [HOWD.out]; simp)
    subst ha2
    go_wp2_with fail
    go_ret2
    rw [HOW.out]
    have hbl := (Below.refl w1.heap.size w1).alloc (Nat.le_refl _) (.cells #[.pointer (some ⟨b, 0, none⟩), .slice av L.length cv] 84)
    refine ⟨_, rfl, ⟨FD, (HD.out.keptB HB1.out).keptB hbl, fun k hk => .inl hk, w1.heap.size, _, rfl, ⟨_, heap_alloc_new w1 _, ownsRow_base (ownsRow_chg HV1.out (S := fun _ => False) (Chg.of_below hbl) (fun _ _ h => h)) (Nat.zero_le _), fun k => Iff.rfl⟩, fun k hk => ?_, fun k hk h => ?_⟩, Chg.of_below (HB1.out.trans (hbl.mono hsz1))⟩
    · rcases hk with rfl | hk
      · exact hsz1
      · exact (HV1.out.lt k hk).1
    · rcases hk with rfl | hk
      · have := HFL.out _ h; omega
      · have := (HV1.out.lt k hk).1; have := HFL.out _ h; omega
  · have HCA := Lib.hid hc
    by_cases h0 : e0 = 0
    · have hat : ((a : Int) == (s.length : Int)) = false := by
        rw [beq_eq_false_iff_ne]
        intro e
        refine hc ⟨h0, ?_⟩
        have := HA.out
        exact List.length_eq_zero_iff.1 (by omega)
      subst h0
      clear hc
      have HOW := Lib.hid (show openW d s 0 = openC d L (s.take a) from by rw [HOWD.out, if_neg HCA.out])
      have hcl : (s.take a).length ≤ 549755813888 := by simp; omega
      have HWR := Lib.hid (r11_write FD b d ringN (s.take a) _ (HD.out.keptB HB1.out) HO.out hnl (by simp) hcl)
      have HOC : Hid (openC d L (s.take a) = if (d.write ringN (s.take a)).2 ≠ 0 then ((d.write ringN (s.take a)).1, none, (d.write ringN (s.take a)).2)
        else if (d.write ringN (s.take a)).1.sync.2 ≠ 0 then ((d.write ringN (s.take a)).1.sync.1, none, (d.write ringN (s.take a)).1.sync.2)
        else ((d.write ringN (s.take a)).1.sync.1, some L, 0)) := Lib.hid rfl
      clear HOWD HCA
      generalize d.write ringN (s.take a) = wr4 at *
      obtain ⟨d4, e4⟩ := wr4
      simp only at HO1 HN1 HWR HOC
      go_wp2_with fail
      refine HWR.out.mono ?_
      rintro e w4 ⟨rfl, FD4, hd4, hF4, hch4⟩
      have HD4 := Lib.hid hd4
      have HF4 := Lib.hid hF4
      have HC4 := Lib.hid (show Chg FD w w4 from (Chg.of_below HB1.out).trans' hch4 (fun i _ h => h))
      have HV4 := Lib.hid (ownsRow_chg HV1.out hch4 (fun k hk h => by have := (HV1.out.lt k hk).1; have := HFL.out k h; omega))
      have HVL := Lib.hid (fun k (hk : (Value.slice av L.length cv).ownBlock = some k) => HV1.out.lt k hk)
      have hsz4 := hch4.size
      clear hd4 hF4 hch4 HWR HV1
      by_cases he4 : e4 = 0
      · subst he4
        have HSY := Lib.hid (r11_sync FD4 b d4 w4 HD4.out HO1.out HN1.out)
        generalize d4.sync = sy at *
        obtain ⟨d5, e5⟩ := sy
        simp only at HSY HOC
        go_wp2_with fail
        refine HSY.out.mono ?_
        rintro e w5 ⟨rfl, FD5, hd5, hF5, hch5⟩
        have HD5 := Lib.hid hd5
        have HF5 := Lib.hid (show ∀ k, FD5 k → FD k ∨ w1.heap.size ≤ k from fun k hk => (hF5 k hk).elim (fun h => HF4.out k h) (fun h => .inr (by omega)))
        have HC5 := Lib.hid (show Chg FD w w5 from HC4.out.trans' hch5 (fun i hi h => (HF4.out i h).resolve_right (by omega)))
        have HV5 := Lib.hid (ownsRow_chg HV4.out hch5 (fun k hk h => by
          have h1 := HVL.out k hk
          rcases HF4.out k h with h | h
          · have := HFL.out k h; omega
          · omega))
        have HFD5 := Lib.hid hd5.lt
        have hsz5 := hch5.size
        clear hd5 hF5 hch5 HSY HV4
        by_cases he5 : e5 = 0
        · subst he5
          have HOC2 := Lib.hid (show openC d L (s.take a) = (d5, some L, 0) from by rw [HOC.out]; simp)
          go_wp2_with fail
          go_ret2
          rw [HOW.out, HOC2.out]
          have hbl := (Below.refl w5.heap.size w5).alloc (Nat.le_refl _) (.cells #[.pointer (some ⟨b, 0, none⟩), .slice av L.length cv] 84)
          refine ⟨_, rfl, ⟨FD5, HD5.out.keptB hbl, fun k hk => (HF5.out k hk).imp id (fun h => by omega), w5.heap.size, _, rfl, ⟨_, heap_alloc_new w5 _, ownsRow_base (ownsRow_chg HV5.out (S := fun _ => False) (Chg.of_below hbl) (fun _ _ h => h)) (Nat.zero_le _), fun k => Iff.rfl⟩, fun k hk => ?_, fun k hk h => ?_⟩, HC5.out.alloc _⟩
          · rcases hk with rfl | hk
            · omega
            · exact (HVL.out k hk).1
          · rcases hk with rfl | hk
            · have := HFD5.out _ h; omega
            · have h1 := HVL.out k hk
              rcases HF5.out k h with h | h
              · have := HFL.out k h; omega
              · omega
        · have he5' : ((e5 : Int) == 0) = false := by rw [beq_eq_false_iff_ne]; omega
          have HOC2 := Lib.hid (show openC d L (s.take a) = (d5, none, e5) from by rw [HOC.out]; simp [he5])
          clear he5
          go_wp2_with fail
          go_ret2
          rw [HOW.out, HOC2.out]
          exact ⟨_, rfl, ⟨FD5, HD5.out, fun k hk => (HF5.out k hk).imp id (fun h => by omega), rfl⟩, HC5.out⟩
      · have he4' : ((e4 : Int) == 0) = false := by rw [beq_eq_false_iff_ne]; omega
        have HOC2 := Lib.hid (show openC d L (s.take a) = (d4, none, e4) from by rw [HOC.out]; simp [he4])
        clear he4
        go_wp2_with fail
        go_ret2
        rw [HOW.out, HOC2.out]
        exact ⟨_, rfl, ⟨FD4, HD4.out, fun k hk => (HF4.out k hk).imp id (fun h => by omega), rfl⟩, HC4.out⟩
    · have h0' : ((e0 : Int) == 0) = false := by rw [beq_eq_false_iff_ne]; omega
      clear hc h0
      have HOW := Lib.hid (show openW d s e0 = openC d L (s.take a) from by rw [HOWD.out, if_neg HCA.out])
      have hcl : (s.take a).length ≤ 549755813888 := by simp; omega
      have HWR := Lib.hid (r11_write FD b d ringN (s.take a) _ (HD.out.keptB HB1.out) HO.out hnl (by simp) hcl)
      have HOC : Hid (openC d L (s.take a) = if (d.write ringN (s.take a)).2 ≠ 0 then ((d.write ringN (s.take a)).1, none, (d.write ringN (s.take a)).2)
        else if (d.write ringN (s.take a)).1.sync.2 ≠ 0 then ((d.write ringN (s.take a)).1.sync.1, none, (d.write ringN (s.take a)).1.sync.2)
        else ((d.write ringN (s.take a)).1.sync.1, some L, 0)) := Lib.hid rfl
      clear HOWD HCA
      generalize d.write ringN (s.take a) = wr4 at *
      obtain ⟨d4, e4⟩ := wr4
      simp only at HO1 HN1 HWR HOC
      go_wp2_with fail
      refine HWR.out.mono ?_
      rintro e w4 ⟨rfl, FD4, hd4, hF4, hch4⟩
      have HD4 := Lib.hid hd4
      have HF4 := Lib.hid hF4
      have HC4 := Lib.hid (show Chg FD w w4 from (Chg.of_below HB1.out).trans' hch4 (fun i _ h => h))
      have HV4 := Lib.hid (ownsRow_chg HV1.out hch4 (fun k hk h => by have := (HV1.out.lt k hk).1; have := HFL.out k h; omega))
      have HVL := Lib.hid (fun k (hk : (Value.slice av L.length cv).ownBlock = some k) => HV1.out.lt k hk)
      have hsz4 := hch4.size
      clear hd4 hF4 hch4 HWR HV1
      by_cases he4 : e4 = 0
      · subst he4
        have HSY := Lib.hid (r11_sync FD4 b d4 w4 HD4.out HO1.out HN1.out)
        generalize d4.sync = sy at *
        obtain ⟨d5, e5⟩ := sy
        simp only at HSY HOC
        go_wp2_with fail
        refine HSY.out.mono ?_
        rintro e w5 ⟨rfl, FD5, hd5, hF5, hch5⟩
        have HD5 := Lib.hid hd5
        have HF5 := Lib.hid (show ∀ k, FD5 k → FD k ∨ w1.heap.size ≤ k from fun k hk => (hF5 k hk).elim (fun h => HF4.out k h) (fun h => .inr (by omega)))
        have HC5 := Lib.hid (show Chg FD w w5 from HC4.out.trans' hch5 (fun i hi h => (HF4.out i h).resolve_right (by omega)))
        have HV5 := Lib.hid (ownsRow_chg HV4.out hch5 (fun k hk h => by
          have h1 := HVL.out k hk
          rcases HF4.out k h with h | h
          · have := HFL.out k h; omega
          · omega))
        have HFD5 := Lib.hid hd5.lt
        have hsz5 := hch5.size
        clear hd5 hF5 hch5 HSY HV4
        by_cases he5 : e5 = 0
        · subst he5
          have HOC2 := Lib.hid (show openC d L (s.take a) = (d5, some L, 0) from by rw [HOC.out]; simp)
          go_wp2_with fail
          go_ret2
          rw [HOW.out, HOC2.out]
          have hbl := (Below.refl w5.heap.size w5).alloc (Nat.le_refl _) (.cells #[.pointer (some ⟨b, 0, none⟩), .slice av L.length cv] 84)
          refine ⟨_, rfl, ⟨FD5, HD5.out.keptB hbl, fun k hk => (HF5.out k hk).imp id (fun h => by omega), w5.heap.size, _, rfl, ⟨_, heap_alloc_new w5 _, ownsRow_base (ownsRow_chg HV5.out (S := fun _ => False) (Chg.of_below hbl) (fun _ _ h => h)) (Nat.zero_le _), fun k => Iff.rfl⟩, fun k hk => ?_, fun k hk h => ?_⟩, HC5.out.alloc _⟩
          · rcases hk with rfl | hk
            · omega
            · exact (HVL.out k hk).1
          · rcases hk with rfl | hk
            · have := HFD5.out _ h; omega
            · have h1 := HVL.out k hk
              rcases HF5.out k h with h | h
              · have := HFL.out k h; omega
              · omega
        · have he5' : ((e5 : Int) == 0) = false := by rw [beq_eq_false_iff_ne]; omega
          have HOC2 := Lib.hid (show openC d L (s.take a) = (d5, none, e5) from by rw [HOC.out]; simp [he5])
          clear he5
          go_wp2_with fail
          go_ret2
          rw [HOW.out, HOC2.out]
          exact ⟨_, rfl, ⟨FD5, HD5.out, fun k hk => (HF5.out k hk).imp id (fun h => by omega), rfl⟩, HC5.out⟩
      · have he4' : ((e4 : Int) == 0) = false := by rw [beq_eq_false_iff_ne]; omega
        have HOC2 := Lib.hid (show openC d L (s.take a) = (d4, none, e4) from by rw [HOC.out]; simp [he4])
        clear he4
        go_wp2_with fail
        go_ret2
        rw [HOW.out, HOC2.out]
        exact ⟨_, rfl, ⟨FD4, HD4.out, fun k hk => (HF4.out k hk).imp id (fun h => by omega), rfl⟩, HC4.out⟩
end Go.Proofs.YtahdldbfcjbklaaGreat
