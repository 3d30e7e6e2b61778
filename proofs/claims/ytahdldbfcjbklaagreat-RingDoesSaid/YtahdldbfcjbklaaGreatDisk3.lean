/- disk: done whole, Sync, Quota, Fuse, Append, Edit, New. -/
import Derived.Test.YtahdldbfcjbklaaGreatDisk2
namespace Go.Proofs.YtahdldbfcjbklaaGreat
open Go.RowKit Go.MapKept
open Go.ChangeMaps (setBlock)

/-- what a call may have changed: the disk's own blocks; what is the disk's now was the disk's, or is new -/
abbrev DiskTo (TD TE : TypeId) (w : World) (F : Nat → Prop) (b : Nat) (d' : DS) (w' : World) : Prop :=
  ∃ F', DiskAt TD TE w' F' b d' ∧ (∀ k, F' k → F k ∨ w.heap.size ≤ k) ∧ Chg F w w'

/-- the bounds under which the disk's numbers stay small -/
structure DiskOk (d : DS) : Prop where
  fuse : -9223372036854775808 ≤ d.fuse ∧ d.fuse ≤ 9223372036854775807
  quota : 0 ≤ d.quota ∧ d.quota ≤ 9223372036854775807
  trace : d.trace.length ≤ 1000000000
  pend : d.pend.length ≤ 1000000000
  now : sizeF d.now ≤ 549755813888

theorem done_all (F : Nat → Prop) (b : Nat) (d : DS) (w : World) (h : DiskAt 62 89 w F b d) (ho : DiskOk d) (e : Ev) (hop : e.op = 1 ∨ e.op = 2 ∨ e.op = 3 ∨ e.op = 4 ∨ e.op = 5) (hsz : e.op ≠ 5 → (dataF d.now e.name).length + e.data.length ≤ 1099511627776) :
    Calls Tryz.prog 62 #[.pointer (some ⟨b, 0, none⟩), .agg #[.int .i64 e.op, vs e.name, vs e.to_, vs e.data]] w fun r w' => r = .returned (.int .i64 ((d.done e).2 : Nat)) ∧ DiskTo 62 89 w F b (d.done e).1 w' := by
  by_cases hd : d.dead = true ∨ d.fuse = 0
  · refine (done_dead F b d e w h hd).mono ?_
    rintro r w' ⟨rfl, h1, h2⟩
    simp only [DS.done, if_pos hd]
    exact ⟨rfl, F, h1, fun k hk => .inl hk, h2⟩
  · have hd1 : d.dead = false := by
      cases hdd : d.dead
      · rfl
      · exact absurd (.inl hdd) hd
    have hf1 : d.fuse ≠ 0 := fun h1 => hd (.inr h1)
    have h2 : (d.done e).2 = 0 := by
      simp only [DS.done, if_neg hd]; split <;> rfl
    rw [h2]
    obtain ⟨op, name, to_, data⟩ := e
    simp only at hop hsz ⊢
    by_cases h5 : op = 5
    · subst h5
      exact done_sync F b d w h hd1 hf1 ho.fuse ho.trace name to_ data
    · exact done_other F b d w h hd1 hf1 ho.fuse ho.trace ho.pend op name to_ data (by omega) (hsz h5)

set_option maxRecDepth 100000 in
theorem sync_any (F : Nat → Prop) (b : Nat) (d : DS) (w : World) (h : DiskAt 62 89 w F b d) (ho : DiskOk d) :
    Calls Tryz.prog 37 #[.pointer (some ⟨b, 0, none⟩)] w fun r w' => r = .returned (.int .i64 (d.sync.2 : Nat)) ∧ DiskTo 62 89 w F b d.sync.1 w' := by
  have hc := Lib.hid (done_all F b d w h ho ⟨5, [], [], []⟩ (by simp) (fun h1 => absurd rfl h1))
  clear h ho
  go_enter Tryz.func37, Tryz.ntmps37
  go_wp2_with fail
  refine hc.out.mono ?_
  rintro r w' ⟨rfl, h2⟩
  have h3 := Lib.hid h2
  clear h2
  go_wp2_with fail
  go_ret
  exact ⟨rfl, h3.out⟩

theorem max0 (n : Int) : (if n < 0 then (0 : Int) else n) = max n 0 := by omega
theorem maxm1 (n : Int) : (if n < 0 then (-1 : Int) else n) = max n (-1) := by omega

set_option maxRecDepth 100000 in
theorem quota_any (F : Nat → Prop) (b : Nat) (d : DS) (n : Int) (w : World) (h : DiskAt 62 89 w F b d) :
    Calls Tryz.prog 18 #[.pointer (some ⟨b, 0, none⟩), .int .i64 n] w fun r w' => r = .returned (.tuple #[]) ∧ DiskAt 62 89 w' F b (d.setQuota n) ∧ Chg F w w' := by
  have hself := h.self
  have H := Lib.hid h
  obtain ⟨⟨mN, mS, vP, vT, esN, esS, cN, cS, hb, hMN, hFN, hMS, hFS, hne, hP, hT, hPT, hF⟩, hty⟩ := h
  have hblt := lt_of_heap hb
  have f4 := frozen_of_row w b 4 _ _ hb
  have c4 := cell_of_row w b 4 _ _ _ hb
  simp only [List.getElem?_toArray, List.getElem?_cons_zero, List.getElem?_cons_succ] at c4
  clear hb hMN hFN hMS hFS hne hP hT hPT hF hty
  by_cases hn : n < 0
  · go_enter Tryz.func18, Tryz.ntmps18
    go_wp2
    go_end0
    refine ⟨rfl, ?_, (Chg.refl F w).setCell (p := ⟨b, 4, none⟩) (fun _ => hself) _⟩
    rw [DS.setQuota, if_pos hn]
    first | exact H.out.setQ 0 | (have := H.out.setQ 0; simpa [hn, show max n 0 = 0 from by omega] using this)
  · go_enter Tryz.func18, Tryz.ntmps18
    go_wp2
    go_end0
    refine ⟨rfl, ?_, (Chg.refl F w).setCell (p := ⟨b, 4, none⟩) (fun _ => hself) _⟩
    rw [DS.setQuota, if_neg (show ¬ n < 0 from by omega)]
    first | exact H.out.setQ n | (have := H.out.setQ n; simpa [hn, show max n 0 = n from by omega] using this)

set_option maxRecDepth 100000 in
theorem fuse_any (F : Nat → Prop) (b : Nat) (d : DS) (n : Int) (w : World) (h : DiskAt 62 89 w F b d) :
    Calls Tryz.prog 14 #[.pointer (some ⟨b, 0, none⟩), .int .i64 n] w fun r w' => r = .returned (.tuple #[]) ∧ DiskAt 62 89 w' F b (d.setFuse n) ∧ Chg F w w' := by
  have hself := h.self
  have H := Lib.hid h
  obtain ⟨⟨mN, mS, vP, vT, esN, esS, cN, cS, hb, hMN, hFN, hMS, hFS, hne, hP, hT, hPT, hF⟩, hty⟩ := h
  have hblt := lt_of_heap hb
  have f5 := frozen_of_row w b 5 _ _ hb
  have c5 := cell_of_row w b 5 _ _ _ hb
  have c6 := cell_of_row w b 6 _ _ _ hb
  simp only [List.getElem?_toArray, List.getElem?_cons_zero, List.getElem?_cons_succ] at c5 c6
  clear hb hMN hFN hMS hFS hne hP hT hPT hF hty
  cases hd : d.dead
  · rw [hd] at c6
    by_cases hn : n < 0
    · go_enter Tryz.func14, Tryz.ntmps14
      go_wp2
      go_end0
      refine ⟨rfl, ?_, (Chg.refl F w).setCell (p := ⟨b, 5, none⟩) (fun _ => hself) _⟩
      rw [DS.setFuse, if_neg (by simp [hd]), if_pos hn]
      first | exact H.out.setFuse (-1) | (have := H.out.setFuse (-1); simpa [hn, show max n (-1) = -1 from by omega] using this)
    · go_enter Tryz.func14, Tryz.ntmps14
      go_wp2
      go_end0
      refine ⟨rfl, ?_, (Chg.refl F w).setCell (p := ⟨b, 5, none⟩) (fun _ => hself) _⟩
      rw [DS.setFuse, if_neg (by simp [hd]), if_neg (show ¬ n < 0 from by omega)]
      first | exact H.out.setFuse n | (have := H.out.setFuse n; simpa [hn, show max n (-1) = n from by omega] using this)
  · rw [hd] at c6
    go_enter Tryz.func14, Tryz.ntmps14
    go_wp2
    go_end0
    refine ⟨rfl, ?_, Chg.refl F w⟩
    rw [DS.setFuse, if_pos hd]
    exact H.out
end Go.Proofs.YtahdldbfcjbklaaGreat
