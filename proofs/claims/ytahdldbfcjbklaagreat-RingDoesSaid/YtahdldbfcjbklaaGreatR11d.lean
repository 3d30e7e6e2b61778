/- posthornref11: the disk's calls. -/
import Derived.Test.YtahdldbfcjbklaaGreatR11c
import Derived.Test.YtahdldbfcjbklaaGreatMay
namespace Go.Proofs.YtahdldbfcjbklaaGreat
open Go.RowKit
set_option maxRecDepth 100000 in
set_option maxHeartbeats 1000000 in
theorem r11_done_dead (F : Nat → Prop) (b : Nat) (d : DS) (e : Ev) (w : World) (h : R11At w F b d) (hd : d.dead = true ∨ d.fuse = 0) :
    Calls Tryz.prog 68 #[.pointer (some ⟨b, 0, none⟩), .agg #[.int .i64 e.op, vs e.name, vs e.to_, vs e.data]] w fun r w' => r = .returned (.int .i64 13) ∧ R11To w F b { d with dead := true } w' := by
  have H := Lib.hid h
  obtain ⟨⟨vN, vS, vP, vT, hb, hN, hS, hP, hT, hF⟩, s1, s2⟩ := h
  have hblt := lt_of_heap hb
  have c5 := cell_of_row w b 5 _ _ _ hb
  have c6 := cell_of_row w b 6 _ _ _ hb
  have f6 := frozen_of_row w b 6 _ _ hb
  have HB := Lib.hid hb
  have HN := Lib.hid hN; have HS := Lib.hid hS; have HP := Lib.hid hP; have HT := Lib.hid hT; have HF := Lib.hid hF; have S1 := Lib.hid s1; have S2 := Lib.hid s2
  simp only [List.getElem?_toArray, List.getElem?_cons_zero, List.getElem?_cons_succ] at c5 c6
  clear hb hN hS hP hT hF s1 s2
  obtain ⟨op, name, to_, data⟩ := e
  have fin : ∀ w', Chg (· = b) w w' → w'.heap[b]? = some (.cells #[vN, vS, vP, vT, .int .i64 d.quota, .int .i64 d.fuse, .bool true] 66 (0, 0)) → R11To w F b { d with dead := true } w' := fun w' q hb =>
    H.out.set q hb (FilesAt.chg HN.out q HB.out) (FilesAt.chg HS.out q HB.out) (EvsAt.chg HP.out q HB.out) (EvsAt.chg HT.out q HB.out) S1.out S2.out
      (fun k hk => .inl ((HF.out k).2 (.inr (.inl hk)))) (fun k hk => .inl ((HF.out k).2 (.inr (.inr (.inl hk))))) (fun k hk => .inl ((HF.out k).2 (.inr (.inr (.inr (.inl hk)))))) (fun k hk => .inl ((HF.out k).2 (.inr (.inr (.inr (.inr hk))))))
  have FIN := Lib.hid fin
  clear fin
  by_cases hf0 : d.fuse = 0
  · rw [hf0] at c5
    have q1 := Lib.hid (show Chg (· = b) w ((w.setCell ⟨b, 6, none⟩ (.bool true)).alloc (.cells #[.int .i64 op, vs name, vs to_, vs data] 92)) from (chg1 w b 6 _).alloc _)
    have HB2 := Lib.hid (heap_setCell_same _ _ 6 _ _ (.bool true) HB.out)
    clear hd hf0
    go_enter Tryz.func68, Tryz.ntmps68
    go_wp2
    go_ret
    refine ⟨rfl, FIN.out _ q1.out ?_⟩
    exact (heap_alloc_old _ _ (by simpa [World.setCell] using hblt)).trans HB2.out
  · have hdd : d.dead = true := hd.resolve_right hf0
    have hf' : (d.fuse == 0) = false := by simpa using hf0
    rw [hdd] at c6
    have HD := Lib.hid hdd
    have q1 := Lib.hid (show Chg (· = b) w (w.alloc (.cells #[.int .i64 op, vs name, vs to_, vs data] 92)) from (Chg.refl _ w).alloc _)
    clear hd hf0 hdd
    go_enter Tryz.func68, Tryz.ntmps68
    go_wp2
    go_ret
    refine ⟨rfl, FIN.out _ q1.out ?_⟩
    refine (heap_alloc_old _ _ hblt).trans ?_
    have := HB.out
    rwa [HD.out] at this

theorem r11_done (F : Nat → Prop) (b : Nat) (d : DS) (w : World) (h : R11At w F b d) (ho : DiskOk d) (hn : d.now.length ≤ 900000000) (e : Ev) (hop : e.op = 1 ∨ e.op = 2 ∨ e.op = 3 ∨ e.op = 4 ∨ e.op = 5) (hsz : e.op ≠ 5 → (dataF d.now e.name).length + e.data.length ≤ 1099511627776) :
    Calls Tryz.prog 68 #[.pointer (some ⟨b, 0, none⟩), .agg #[.int .i64 e.op, vs e.name, vs e.to_, vs e.data]] w fun r w' => r = .returned (.int .i64 ((d.done e).2 : Nat)) ∧ R11To w F b (d.done e).1 w' := by
  by_cases hd : d.dead = true ∨ d.fuse = 0
  · refine (r11_done_dead F b d e w h hd).mono ?_
    rintro r w' ⟨rfl, h1⟩
    simp only [DS.done, if_pos hd]
    exact ⟨rfl, h1⟩
  · have hd1 : d.dead = false := by
      cases hdd : d.dead
      · rfl
      · exact absurd (.inl hdd) hd
    have hf1 : d.fuse ≠ 0 := fun h1 => hd (.inr h1)
    have h2 : (d.done e).2 = 0 := by
      simp only [DS.done, if_neg hd]; split <;> rfl
    rw [h2]
    obtain ⟨op, name, to_, data⟩ := e
    exact r11_done_live F b d w h hd1 hf1 ho.fuse ho.trace ho.pend hn op name to_ data hop hsz

theorem R11To.of_below {w w1 w2 : World} {F : Nat → Prop} {b : Nat} {d : DS} (hb : Below w.heap.size w w1) (h : R11To w1 F b d w2) : R11To w F b d w2 := by
  obtain ⟨F', h1, h2, h3⟩ := h
  have hs := hb.size
  exact ⟨F', h1, fun k hk => (h2 k hk).imp id (fun h => by omega), (Chg.of_below hb).trans' h3 (fun i _ h => h)⟩
theorem R11At.to {w w' : World} {F : Nat → Prop} {b : Nat} {d : DS} (h : R11At w' F b d) (hc : Chg F w w') : R11To w F b d w' := ⟨F, h, fun _ hk => .inl hk, hc⟩

/-- the state's slices and numbers -/
theorem R11At.open {w : World} {F : Nat → Prop} {b : Nat} {d : DS} (h : R11At w F b d) : ∃ aN cN aS cS aP cP aT cT,
    w.heap[b]? = some (.cells #[.slice aN d.now.length cN, .slice aS d.sure.length cS, .slice aP d.pend.length cP, .slice aT d.trace.length cT, .int .i64 d.quota, .int .i64 d.fuse, .bool d.dead] 66 (0, 0)) ∧
    FilesAt w 0 (.slice aN d.now.length cN) d.now ∧ FilesAt w 0 (.slice aS d.sure.length cS) d.sure ∧ EvsAt w 0 (.slice aP d.pend.length cP) d.pend ∧ EvsAt w 0 (.slice aT d.trace.length cT) d.trace ∧
    (∀ k, F k ↔ k = b ∨ (Value.slice aN d.now.length cN).ownBlock = some k ∨ (Value.slice aS d.sure.length cS).ownBlock = some k ∨ (Value.slice aP d.pend.length cP).ownBlock = some k ∨ (Value.slice aT d.trace.length cT).ownBlock = some k) := by
  obtain ⟨⟨vN, vS, vP, vT, hb, hN, hS, hP, hT, hF⟩, s1, s2⟩ := h
  obtain ⟨aN, cN, rfl⟩ := ownsRow_val hN
  obtain ⟨aS, cS, rfl⟩ := ownsRow_val hS
  obtain ⟨aP, cP, rfl⟩ := ownsRow_val hP
  obtain ⟨aT, cT, rfl⟩ := ownsRow_val hT
  exact ⟨aN, cN, aS, cS, aP, cP, aT, cT, hb, hN, hS, hP, hT, hF⟩

set_option maxRecDepth 100000 in
theorem r11_sync (F : Nat → Prop) (b : Nat) (d : DS) (w : World) (h : R11At w F b d) (ho : DiskOk d) (hn : d.now.length ≤ 900000000) :
    Calls Tryz.prog 40 #[.pointer (some ⟨b, 0, none⟩)] w fun r w' => r = .returned (.int .i64 (d.sync.2 : Nat)) ∧ R11To w F b d.sync.1 w' := by
  have hc := Lib.hid (r11_done F b d w h ho hn ⟨5, [], [], []⟩ (by simp) (fun h1 => absurd rfl h1))
  clear h ho
  go_enter Tryz.func40, Tryz.ntmps40
  go_wp2_with fail
  refine hc.out.mono ?_
  rintro r w' ⟨rfl, h2⟩
  have h3 := Lib.hid h2
  clear h2
  go_wp2_with fail
  go_ret
  exact ⟨rfl, h3.out⟩

set_option maxRecDepth 100000 in
set_option maxHeartbeats 1000000 in
theorem r11_read (F : Nat → Prop) (b : Nat) (d : DS) (n : Bs) (w : World) (h : R11At w F b d) (hn : d.now.length ≤ 900000000) :
    Calls Tryz.prog 23 #[.pointer (some ⟨b, 0, none⟩), vs n] w fun r w' => r = .returned (.tuple #[vs (d.read n).1, .int .i64 (d.read n).2]) ∧ w = w' := by
  obtain ⟨aN, cN, aS, cS, aP, cP, aT, cT, hb, hN, hS, hP, hT, hF⟩ := h.open
  have c0 := cell_of_row w b 0 _ _ _ hb
  simp only [List.getElem?_toArray, List.getElem?_cons_zero] at c0
  have HC := Lib.hid (r11_find d.now _ n w hN (by omega))
  have HD := Lib.hid (r11_data d.now _ n w hN (by omega))
  obtain ⟨f1, f2⟩ := findF_neg d.now n
  clear hb hP hT hF hS hN
  cases hg : getF d.now n with
  | none =>
    have HR := Lib.hid (show d.read n = ([], 10) from by simp [DS.read, hg])
    have hf := Lib.hid (f1.1 hg)
    clear hg f1 f2
    go_enter Tryz.func23, Tryz.ntmps23
    go_wp2_with fail
    refine HC.out.mono ?_
    rintro e w' ⟨rfl, rfl⟩
    rw [hf.out]
    go_wp2_with fail
    go_ret2
    rw [HR.out]
    exact ⟨rfl, rfl⟩
  | some x =>
    have HR := Lib.hid (show d.read n = (dataF d.now n, 0) from by simp [DS.read, dataF, hg])
    obtain ⟨k, hk, hlt, p, hp, rfl⟩ := f2 x hg
    have hf := Lib.hid hk
    clear hg f1 f2 hk hp
    go_enter Tryz.func23, Tryz.ntmps23
    go_wp2_with fail
    refine HC.out.mono ?_
    rintro e w' ⟨rfl, rfl⟩
    rw [hf.out]
    go_wp2_with fail
    refine HD.out.mono ?_
    rintro e w' ⟨rfl, rfl⟩
    go_wp2_with fail
    go_ret2
    rw [HR.out]
    exact ⟨rfl, rfl⟩

theorem r11_numbers {w w' : World} {F : Nat → Prop} {b : Nat} {d d' : DS} (h : R11At w F b d) (hn : d'.now = d.now) (hs : d'.sure = d.sure) (hp : d'.pend = d.pend) (ht : d'.trace = d.trace) (hc : Chg (· = b) w w')
    (hb : ∀ vN vS vP vT : Value, w.heap[b]? = some (.cells #[vN, vS, vP, vT, .int .i64 d.quota, .int .i64 d.fuse, .bool d.dead] 66 (0, 0)) → w'.heap[b]? = some (.cells #[vN, vS, vP, vT, .int .i64 d'.quota, .int .i64 d'.fuse, .bool d'.dead] 66 (0, 0))) : R11At w' F b d' := by
  obtain ⟨⟨vN, vS, vP, vT, hb0, hN, hS, hP, hT, hF⟩, s1, s2⟩ := h
  refine ⟨⟨vN, vS, vP, vT, hb _ _ _ _ hb0, ?_, ?_, ?_, ?_, hF⟩, by rw [hn]; exact s1, by rw [hs]; exact s2⟩
  · rw [hn]; exact FilesAt.chg hN hc hb0
  · rw [hs]; exact FilesAt.chg hS hc hb0
  · rw [hp]; exact EvsAt.chg hP hc hb0
  · rw [ht]; exact EvsAt.chg hT hc hb0

set_option maxRecDepth 100000 in
theorem r11_quota (F : Nat → Prop) (b : Nat) (d : DS) (n : Int) (w : World) (h : R11At w F b d) :
    Calls Tryz.prog 19 #[.pointer (some ⟨b, 0, none⟩), .int .i64 n] w fun r w' => r = .returned (.tuple #[]) ∧ R11At w' F b (d.setQuota n) ∧ Chg F w w' := by
  have H := Lib.hid h
  have hself := h.self
  obtain ⟨aN, cN, aS, cS, aP, cP, aT, cT, hb, hN, hS, hP, hT, hF⟩ := h.open
  have hblt := lt_of_heap hb
  have f4 := frozen_of_row w b 4 _ _ hb
  have c4 := cell_of_row w b 4 _ _ _ hb
  simp only [List.getElem?_toArray, List.getElem?_cons_zero, List.getElem?_cons_succ] at c4
  clear hb hN hS hP hT hF h
  by_cases hn : n < 0
  · go_enter Tryz.func19, Tryz.ntmps19
    go_wp2
    go_end0
    refine ⟨rfl, ?_, by first | exact (Chg.refl F w).setCell (p := ⟨b, 4, none⟩) (fun _ => hself) _ | exact ((Chg.refl F w).setCell (p := ⟨b, 4, none⟩) (fun _ => hself) _).setCell (p := ⟨b, 4, none⟩) (fun _ => hself) _⟩
    rw [DS.setQuota, if_pos hn]
    first | exact r11_numbers H.out rfl rfl rfl rfl (chg1 w b 4 _) (fun _ _ _ _ hb => heap_setCell_same _ _ _ _ _ _ hb) | exact r11_numbers H.out rfl rfl rfl rfl (chg2 w b 4 4 _ _) (fun _ _ _ _ hb => heap_setCell_same _ _ _ _ _ _ (heap_setCell_same _ _ _ _ _ _ hb))
  · go_enter Tryz.func19, Tryz.ntmps19
    go_wp2
    go_end0
    refine ⟨rfl, ?_, (Chg.refl F w).setCell (p := ⟨b, 4, none⟩) (fun _ => hself) _⟩
    rw [DS.setQuota, if_neg (show ¬ n < 0 from by omega)]
    exact r11_numbers H.out rfl rfl rfl rfl (chg1 w b 4 _) (fun _ _ _ _ hb => heap_setCell_same _ _ _ _ _ _ hb)

set_option maxRecDepth 100000 in
theorem r11_fuse (F : Nat → Prop) (b : Nat) (d : DS) (n : Int) (w : World) (h : R11At w F b d) :
    Calls Tryz.prog 15 #[.pointer (some ⟨b, 0, none⟩), .int .i64 n] w fun r w' => r = .returned (.tuple #[]) ∧ R11At w' F b (d.setFuse n) ∧ Chg F w w' := by
  have H := Lib.hid h
  have hself := h.self
  obtain ⟨aN, cN, aS, cS, aP, cP, aT, cT, hb, hN, hS, hP, hT, hF⟩ := h.open
  have hblt := lt_of_heap hb
  have f5 := frozen_of_row w b 5 _ _ hb
  have c5 := cell_of_row w b 5 _ _ _ hb
  have c6 := cell_of_row w b 6 _ _ _ hb
  simp only [List.getElem?_toArray, List.getElem?_cons_zero, List.getElem?_cons_succ] at c5 c6
  clear hb hN hS hP hT hF h
  cases hd : d.dead
  · rw [hd] at c6
    by_cases hn : n < 0
    · go_enter Tryz.func15, Tryz.ntmps15
      go_wp2
      go_end0
      refine ⟨rfl, ?_, (Chg.refl F w).setCell (p := ⟨b, 5, none⟩) (fun _ => hself) _⟩
      rw [DS.setFuse, if_neg (by simp [hd]), if_pos hn]
      exact r11_numbers H.out rfl rfl rfl rfl (chg1 w b 5 _) (fun _ _ _ _ hb => heap_setCell_same _ _ _ _ _ _ hb)
    · go_enter Tryz.func15, Tryz.ntmps15
      go_wp2
      go_end0
      refine ⟨rfl, ?_, (Chg.refl F w).setCell (p := ⟨b, 5, none⟩) (fun _ => hself) _⟩
      rw [DS.setFuse, if_neg (by simp [hd]), if_neg (show ¬ n < 0 from by omega)]
      exact r11_numbers H.out rfl rfl rfl rfl (chg1 w b 5 _) (fun _ _ _ _ hb => heap_setCell_same _ _ _ _ _ _ hb)
  · rw [hd] at c6
    by_cases hn : n < 0
    all_goals
      go_enter Tryz.func15, Tryz.ntmps15
      go_wp2
      go_end0
      refine ⟨rfl, ?_, Chg.refl F w⟩
      rw [DS.setFuse, if_pos hd]
      exact H.out
end Go.Proofs.YtahdldbfcjbklaaGreat
