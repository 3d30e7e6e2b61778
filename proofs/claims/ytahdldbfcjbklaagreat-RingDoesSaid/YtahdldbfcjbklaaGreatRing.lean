/- ring: what a ring is; read, first, State, Live. -/
import Derived.Test.YtahdldbfcjbklaaGreatR11h
import Derived.Test.YtahdldbfcjbklaaGreatRdR
namespace Go.Proofs.YtahdldbfcjbklaaGreat
open Go.RowKit Go.MapKept
open Go.ChangeMaps (setBlock)
/-- a row -/
structure Rw where
  dom : Bs
  now : Nat
  old : Nat
/-- what stands in a row's text -/
def rowJ (t : Bs) : Rw × Bool :=
  (⟨(rdText 255 (some t)).1, (rdNum 1000000 (rdText 255 (some t)).2).1, (rdNum 1000000 (rdNum 1000000 (rdText 255 (some t)).2).2).1⟩,
    decide (rdDone (rdNum 1000000 (rdNum 1000000 (rdText 255 (some t)).2).2).2 = 0))
/-- a row taken from a text: the row, and what is left -/
def rowStep (s : Bs) : Option (Rw × Bs) :=
  if (rowJ (rdText 300 (some s)).1).2 then (rdText 300 (some s)).2.map fun t => ((rowJ (rdText 300 (some s)).1).1, t) else none
theorem rdTake_none (n : Nat) (r : Rd) (h : (rdTake n r).2 = none) : (rdTake n r).1 = [] := by
  cases r with
  | none => rfl
  | some s =>
    by_cases hl : n ≤ s.length
    · simp [rdTake, hl] at h
    · simp [rdTake, hl]
theorem rdText_none (m : Nat) (r : Rd) (h : (rdText m r).2 = none) : (rdText m r).1 = [] := rdTake_none _ _ h
theorem rowJ_nil : (rowJ []).2 = false := by
  simp [rowJ, rdText, rdNum, rdTake, rdDone]
theorem rowStep_ok (s : Bs) : (rowStep s).isSome = (rowJ (rdText 300 (some s)).1).2 := by
  unfold rowStep
  cases h : (rdText 300 (some s)).2 with
  | none => rw [rdText_none _ _ h, rowJ_nil]; rfl
  | some t => cases (rowJ (rdText 300 (some s)).1).2 <;> rfl
theorem rdNum_suffix (m : Nat) (s t : Bs) (h : (rdNum m (some s)).2 = some t) : t <:+ s ∧ t.length < s.length := by
  cases s with
  | nil => cases h
  | cons x l =>
    simp only [rdNum] at h
    split at h
    · cases h
    · split at h
      · cases h
      · cases h
        exact ⟨(List.drop_suffix _ _).trans (List.suffix_cons _ _), by simp; omega⟩
theorem rdText_suffix (m : Nat) (s t : Bs) (h : (rdText m (some s)).2 = some t) : t <:+ s ∧ t.length < s.length := by
  unfold rdText at h
  cases h1 : (rdNum m (some s)).2 with
  | none => rw [h1] at h; cases h
  | some u =>
    rw [h1] at h
    obtain ⟨a, b⟩ := rdNum_suffix m s u h1
    simp only [rdTake] at h
    split at h
    · cases h
      exact ⟨(List.drop_suffix _ _).trans a, by simp; omega⟩
    · cases h
theorem rowStep_suffix (s : Bs) (r : Rw) (t : Bs) (h : rowStep s = some (r, t)) : t <:+ s ∧ t.length < s.length := by
  unfold rowStep at h
  split at h
  · obtain ⟨u, h1, h2⟩ := Option.map_eq_some_iff.1 h
    cases h2
    exact rdText_suffix 300 s _ h1
  · cases h
/-- rows of a text: the rows, and what is left -/
def rowsF : Nat → Bs → List Rw × Bs
  | 0, s => ([], s)
  | n + 1, s => match rowStep s with
    | some (r, t) => (r :: (rowsF n t).1, (rowsF n t).2)
    | none => ([], s)
def rowsOf (s : Bs) : List Rw × Bs := rowsF (s.length + 1) s
/-- how far it has come: rows so far, what is left -/
structure RowsAt (s : Bs) (L : List Rw) (t : Bs) : Prop where
  n : ∃ n, t.length < n ∧ rowsOf s = (L ++ (rowsF n t).1, (rowsF n t).2)
  suf : t <:+ s
theorem RowsAt.start (s : Bs) : RowsAt s [] s := ⟨⟨s.length + 1, by omega, by simp [rowsOf]⟩, List.suffix_refl _⟩
theorem RowsAt.step {s t u : Bs} {L : List Rw} {r : Rw} (h : RowsAt s L t) (hs : rowStep t = some (r, u)) : RowsAt s (L ++ [r]) u := by
  obtain ⟨n, hn, he⟩ := h.n
  obtain ⟨a, b⟩ := rowStep_suffix t r u hs
  refine ⟨⟨n - 1, by omega, ?_⟩, a.trans h.suf⟩
  obtain ⟨m, rfl⟩ : ∃ m, n = m + 1 := ⟨n - 1, by omega⟩
  rw [he]
  simp [rowsF, hs]
theorem RowsAt.done {s t : Bs} {L : List Rw} (h : RowsAt s L t) (hs : rowStep t = none) : rowsOf s = (L, t) := by
  obtain ⟨n, hn, he⟩ := h.n
  obtain ⟨m, rfl⟩ : ∃ m, n = m + 1 := ⟨n - 1, by omega⟩
  rw [he]
  simp [rowsF, hs]
theorem RowsAt.len {s t : Bs} {L : List Rw} (h : RowsAt s L t) : t.length ≤ s.length := h.suf.length_le

set_option maxRecDepth 100000 in
set_option maxHeartbeats 2000000 in
theorem read_ring (b : Nat) (r : Rd) (w : World) (h : RdAt 78 w b r) :
    Calls Tryz.prog 34 #[.pointer (some ⟨b, 0, none⟩)] w fun e w' => e = .returned (.tuple #[vs (rowJ (rdText 300 r).1).1.dom, .agg #[.int .u64 (rowJ (rdText 300 r).1).1.now, .int .u64 (rowJ (rdText 300 r).1).1.old], .bool (rowJ (rdText 300 r).1).2]) ∧ RdAt 78 w' b (rdText 300 r).2 ∧ Chg (· = b) w w' := by
  have hblt := lt_of_heap h
  have HR := fun o => Lib.hid (RdAt.kept h (S := fun _ => False) ((Chg.refl _ w).alloc o) (fun h => h))
  clear h
  go_enter Tryz.func34, Tryz.ntmps34
  go_wp2_with fail
  refine (rtext_any _ b r 300 (by omega) _ (HR _).out).mono ?_
  rintro e w1 ⟨rfl, h1, hch1⟩
  have h3 := (hch1.block w.heap.size (by simp) (fun e => by have e : w.heap.size = b := e; omega)).trans (heap_alloc_new w _)
  have hs1 := hch1.size
  have hs1' : w.heap.size + 1 ≤ w1.heap.size := by simpa using hs1
  have HC1 := Lib.hid hch1
  have H1 := Lib.hid h1
  have H3 := Lib.hid h3
  clear hch1 h1 h3 hs1
  go_wp2_with fail
  refine (from_any _ _).mono ?_
  rintro e w2 ⟨rfl, h2, hb2⟩
  have HB2 := Lib.hid hb2
  have hsz2 := hb2.size
  have hlt2 := lt_of_heap h2
  clear hb2
  go_wp2_with fail
  refine (rtext_any _ _ _ 255 (by omega) _ h2).mono ?_
  rintro e w3 ⟨rfl, h4, hch3⟩
  have HC3 := Lib.hid hch3
  clear h2 hch3
  go_wp2_with fail
  refine (rnum_any _ _ _ 1000000 (by omega) _ h4).mono ?_
  rintro e w4 ⟨rfl, h5, hch4⟩
  have HC4 := Lib.hid hch4
  clear h4 hch4
  go_wp2_with fail
  refine (rnum_any _ _ _ 1000000 (by omega) _ h5).mono ?_
  rintro e w5 ⟨rfl, h6, hch5⟩
  have HC5 := Lib.hid (HC3.out.trans (HC4.out.trans hch5))
  have hsz5 := HC5.out.size
  have H6 := Lib.hid h6
  have H35 := Lib.hid ((HC5.out.block w.heap.size (by omega) (fun e => by have e : w.heap.size = w1.heap.size := e; omega)).trans ((HB2.out.block _ (by omega)).trans H3.out))
  have hJ : rowJ (rdText 300 r).1 = (⟨(rdText 255 (some (rdText 300 r).1)).1, (rdNum 1000000 (rdText 255 (some (rdText 300 r).1)).2).1, (rdNum 1000000 (rdNum 1000000 (rdText 255 (some (rdText 300 r).1)).2).2).1⟩,
    decide (rdDone (rdNum 1000000 (rdNum 1000000 (rdText 255 (some (rdText 300 r).1)).2).2).2 = 0)) := rfl
  have HJ := Lib.hid hJ
  clear h5 h6 hch5 HC3 HC4 hJ
  generalize hdom : (rdText 255 (some (rdText 300 r).1)).1 = dom at *
  generalize (rdNum 1000000 (rdText 255 (some (rdText 300 r).1)).2).1 = now at *
  generalize (rdNum 1000000 (rdNum 1000000 (rdText 255 (some (rdText 300 r).1)).2).2) = q at *
  obtain ⟨old, r5⟩ := q
  simp only at H6 HJ ⊢
  clear hdom
  have hb5 : b < w5.heap.size := by omega
  have HB5 := Lib.hid (RdAt.kept (RdAt.kept H1.out (S := fun _ => False) (Chg.of_below HB2.out) (fun h => h)) HC5.out (fun e => by have e : b = w1.heap.size := e; omega))
  have CC5 := Lib.hid (show Chg (· = b) w w5 from (((Chg.refl _ w).alloc _).trans (HC1.out.trans' (Chg.of_below (S := fun _ => False) HB2.out) (fun _ _ h => h.elim))).trans' HC5.out (fun i hi e => by have e : i = w1.heap.size := e; omega))
  have k0 := fun o => heap_alloc_old w5 o (r := w.heap.size) (by omega)
  have t0 := fun o => cell_of_row (w5.alloc o) w.heap.size 0 _ _ _ ((k0 o).trans H35.out)
  have t1 := fun o => cell_of_row (w5.alloc o) w.heap.size 1 _ _ _ ((k0 o).trans H35.out)
  have y0 := fun o => frozen_of_row (w5.alloc o) w.heap.size 0 _ _ ((k0 o).trans H35.out)
  have y1 := fun o => frozen_of_row (w5.alloc o) w.heap.size 1 _ _ ((k0 o).trans H35.out)
  simp only [List.getElem?_toArray, List.getElem?_cons_zero, List.getElem?_cons_succ] at t0 t1
  have hne : ¬ w.heap.size = w5.heap.size := by omega
  have hne2 : ¬ w1.heap.size = w.heap.size := by omega
  have hne3 : ¬ b = w.heap.size := by omega
  clear k0
  go_wp2_with fail
  go_region_with (first
    | (go_at_call 59; refine (done_any _ _ r5 _ (RdAt.kept H6.out (S := fun _ => False) ((Chg.refl _ w5).alloc _).drew (fun h => h))).mono ?_; rintro e w6 ⟨rfl, rfl⟩)
    | (go_at_call 59; refine (done_any _ _ r5 _ (RdAt.kept H6.out (S := (· = w.heap.size)) ((((Chg.refl (· = w.heap.size) w5).alloc _).drew.setCell (p := ⟨w.heap.size, 0, none⟩) (fun _ => rfl) _).setCell (p := ⟨w.heap.size, 1, none⟩) (fun _ => rfl) _) hne2)).mono ?_; rintro e w6 ⟨rfl, rfl⟩))
  all_goals
    go_wp2_with fail
    have hbool : ((rdDone r5 : Nat) == (0 : Int)) = decide (rdDone r5 = 0) := by
      rw [Bool.eq_iff_iff]; simp
    refine bodyPost_ret (v := .tuple #[vs dom, .agg #[.int .u64 now, .int .u64 old], .bool ((rdDone r5 : Int) == 0)]) (by simp [results, Tryz.results34, go_sem, t0, t1]) rfl ?_
    rw [HJ.out, hbool]
    refine ⟨rfl, ?_, ?_⟩
    · exact RdAt.kept HB5.out (S := (· = w.heap.size)) ((((Chg.refl (· = w.heap.size) w5).alloc _).setCell (p := ⟨w.heap.size, 0, none⟩) (fun _ => rfl) _).setCell (p := ⟨w.heap.size, 1, none⟩) (fun _ => rfl) _).drew hne3
    · exact (((CC5.out.alloc _).setCell (p := ⟨w.heap.size, 0, none⟩) (fun h => absurd h (Nat.lt_irrefl _)) _).setCell (p := ⟨w.heap.size, 1, none⟩) (fun h => absurd h (Nat.lt_irrefl _)) _).drew
end Go.Proofs.YtahdldbfcjbklaaGreat
