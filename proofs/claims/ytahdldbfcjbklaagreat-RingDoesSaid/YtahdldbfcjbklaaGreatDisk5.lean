/- disk: Edit, New. -/
import Derived.Test.YtahdldbfcjbklaaGreatDisk4
namespace Go.Proofs.YtahdldbfcjbklaaGreat
open Go.RowKit Go.MapKept
open Go.ChangeMaps (setBlock)

/-- what a change of the sure files leaves -/
theorem after_sure {TD TE : TypeId} {w w' : World} {F : Nat → Prop} {b : Nat} {d : DS} (h : DiskAt TD TE w F b d) {m : Nat} (hm : w.cell? ⟨b, 1, none⟩ = some (.map (some m))) (hc : Chg (· = m) w w') {es : List (Ent Bs)} {c : Nat} {l : Files} (hM : MapB vs w' m es c) (hL : FilesR es l) :
    DiskAt TD TE w' F b { d with sure := l } ∧ Chg F w w' := by
  obtain ⟨⟨mN, mS, vP, vT, esN, esS, cN, cS, hb, hMN, hFN, hMS, hFS, hne, hP, hT, hPT, hF⟩, hty⟩ := h
  have e0 : w.cell? ⟨b, 1, none⟩ = some (.map (some mS)) := cell_of_row w b 1 _ _ _ hb
  rw [hm] at e0
  obtain rfl : m = mS := by simpa using e0
  have h1 : b ≠ m := by intro e; subst e; rw [hMS.heap] at hb; cases hb
  have hr : ∀ {v : Value} {n : Nat} {xs : List Value}, w.ownsRow 0 TE 4 v n xs → ∀ k, v.ownBlock = some k → k ≠ m := by
    intro v n xs hv k hk e
    subst e
    rcases hv.2 with ⟨rfl, _⟩ | ⟨g, cap, cur, rfl, _, hg, _⟩
    · cases hk
    · simp only [Value.ownBlock, Option.some.injEq] at hk
      subst hk
      rw [hMS.heap] at hg; cases hg
  refine ⟨⟨⟨mN, m, vP, vT, esN, es, cN, c, (hc.block b (lt_of_heap hb) h1).trans hb, hMN.kept hc hne, hFN, hM, hL, hne, ownsRow_chg hP hc (hr hP), ownsRow_chg hT hc (hr hT), hPT, hF⟩, hty⟩, ?_⟩
  exact hc.mono (fun k _ e => by subst e; exact (hF _).2 (.inr (.inr (.inl rfl))))

set_option maxRecDepth 100000 in
set_option maxHeartbeats 1000000 in
theorem edit_any (F : Nat → Prop) (b : Nat) (d : DS) (n a : Bs) (w : World) (h : DiskAt 62 89 w F b d) :
    Calls Tryz.prog 20 #[.pointer (some ⟨b, 0, none⟩), vs n, vs a] w fun r w' => r = .returned (.int .i64 ((d.edit n a).2 : Nat)) ∧ DiskAt 62 89 w' F b (d.edit n a).1 ∧ Chg F w w' := by
  have hhas := has_any F b d n w h
  have H := Lib.hid h
  cases hg : getF d.now n with
  | none =>
    have HR := Lib.hid (show d.edit n a = (d, 10) from by simp [DS.edit, hg])
    rw [hg] at hhas
    have HH := Lib.hid hhas; clear hhas hg h
    go_enter Tryz.func20, Tryz.ntmps20
    go_wp2_with fail
    refine HH.out.mono ?_
    rintro e w' ⟨rfl, rfl⟩
    simp only [Option.isSome_none]
    go_wp2_with fail
    go_ret
    rw [HR.out]
    exact ⟨rfl, H.out, Chg.refl F _⟩
  | some x =>
    rw [hg] at hhas
    have HH := Lib.hid hhas
    obtain ⟨⟨mN, mS, vP, vT, esN, esS, cN, cS, hb, hMN, hFN, hMS, hFS, hne, hP, hT, hPT, hF⟩, _⟩ := h
    have hblt := lt_of_heap hb
    have h1 : b ≠ mN := by intro e; subst e; rw [hMN.heap] at hb; cases hb
    have c0 := cell_of_row w b 0 _ _ _ hb
    have c1 := cell_of_row w b 1 _ _ _ hb
    simp only [List.getElem?_toArray, List.getElem?_cons_zero, List.getElem?_cons_succ] at c0 c1
    have hup := run_mapUpdate_map vs_key Tryz.underlying59 hMN n (vs a)
    have c1' := fun o => (cell_setBlock_other w mN o b 1 h1).trans c1
    have hMS1 := fun o => hMS.kept (chg_setBlock w mN o) (Ne.symm hne)
    have hlk := fun o => (run_lookup_map vs_key Tryz.underlying59 (Tryz.zeroString _) (hMS1 o) n).1
    have hup2 := fun o => run_mapUpdate_map vs_key Tryz.underlying59 (hMS1 o) n (vs a)
    have HD1 := Lib.hid (after_do H.out c0 (chg_setBlock w mN _) (hMN.put n (vs a)) (hFN.put n a cN))
    have hs : (getE esS n).isSome = (getF d.sure n).isSome := by rw [hFS.2 n, Option.isSome_map]
    have HS1 := Lib.hid (fun o => (hMS1 o).put n (vs a))
    have HFS := Lib.hid hFS
    have HC1 := Lib.hid c1'
    clear hb hMN hFN hMS hFS hne hP hT hPT hF hhas
    cases hgs : getF d.sure n with
    | none =>
      have HR := Lib.hid (show d.edit n a = ({ d with now := putF d.now n a }, 0) from by simp [DS.edit, hg, hgs])
      rw [hgs] at hs
      simp only [hs, Option.isSome_none] at hlk
      clear hg hgs hs hMS1 hup2
      go_enter Tryz.func20, Tryz.ntmps20
      go_wp2_with fail
      refine HH.out.mono ?_
      rintro e w' ⟨rfl, rfl⟩
      simp only [Option.isSome_some]
      go_wp2
      go_ret
      rw [HR.out]
      exact ⟨rfl, HD1.out.1, HD1.out.2⟩
    | some y =>
      have HR := Lib.hid (show d.edit n a = ({ d with now := putF d.now n a, sure := putF d.sure n a }, 0) from by simp [DS.edit, hg, hgs])
      rw [hgs] at hs
      simp only [hs, Option.isSome_some] at hlk
      clear hg hgs hs hMS1
      go_enter Tryz.func20, Tryz.ntmps20
      go_wp2_with fail
      refine HH.out.mono ?_
      rintro e w' ⟨rfl, rfl⟩
      simp only [Option.isSome_some]
      go_wp2
      go_ret
      rw [HR.out]
      obtain ⟨k1, k2⟩ := HD1.out
      obtain ⟨k3, k4⟩ := after_sure k1 (HC1.out _) (chg_setBlock _ mS _) (HS1.out _) (HFS.out.put n a cS)
      exact ⟨rfl, k3, k2.trans k4⟩
end Go.Proofs.YtahdldbfcjbklaaGreat
