/- ring: the ring in memory; first, State, Live. -/
import Derived.Test.YtahdldbfcjbklaaGreatRing
namespace Go.Proofs.YtahdldbfcjbklaaGreat
open Go.RowKit Go.MapKept
open Go.ChangeMaps (setBlock)
def lastR (L : List Rw) (k : Bs) : Option Rw := L.reverse.find? (fun r => decide (r.dom = k))
/-- a domain's epoch, and the one that goes -/
def stR (L : List Rw) (k : Bs) : Nat × Nat := match lastR L k with | some r => (r.now, r.old) | none => (1, 0)
theorem lastR_snoc (L : List Rw) (r : Rw) (k : Bs) : lastR (L ++ [r]) k = if k = r.dom then some r else lastR L k := by
  unfold lastR
  rw [List.reverse_append, List.reverse_singleton, List.singleton_append, List.find?_cons]
  by_cases h : r.dom = k
  · subst h; simp
  · rw [if_neg (Ne.symm h)]; simp [h]
def rwV (r : Rw) : Value := .agg #[.int .u64 r.now, .int .u64 r.old]
def StatesR (es : List (Ent Bs)) (L : List Rw) : Prop := ∀ k, getE es k = (lastR L k).map rwV
theorem StatesR.put {es : List (Ent Bs)} {L : List Rw} (h : StatesR es L) (r : Rw) (c : Nat) : StatesR (putE es r.dom (rwV r) c) (L ++ [r]) := by
  intro k
  rw [getE_put, lastR_snoc, h k]
  split <;> rfl
theorem StatesR.nil : StatesR [] [] := fun _ => rfl

/-- the program's ring at a block: over the disk at b, with the states of these rows -/
structure RingAt (w : World) (F : Nat → Prop) (r b : Nat) (L : List Rw) : Prop where
  ex : ∃ (m : Nat) (es : List (Ent Bs)) (c : Nat), w.heap[r]? = some (.cells #[.pointer (some ⟨b, 0, none⟩), .map (some m)] 69 (0, 0)) ∧ MapB vs w m es c ∧ StatesR es L ∧ (∀ k, F k ↔ k = r ∨ k = m)
theorem RingAt.lt {w : World} {F : Nat → Prop} {r b : Nat} {L : List Rw} (h : RingAt w F r b L) : ∀ k, F k → k < w.heap.size := by
  obtain ⟨m, es, c, hb, hM, hS, hF⟩ := h.ex
  intro k hk
  rcases (hF k).1 hk with rfl | rfl
  · exact lt_of_heap hb
  · exact lt_of_heap hM.heap
theorem RingAt.self {w : World} {F : Nat → Prop} {r b : Nat} {L : List Rw} (h : RingAt w F r b L) : F r := by
  obtain ⟨m, es, c, hb, hM, hS, hF⟩ := h.ex
  exact (hF r).2 (.inl rfl)
theorem RingAt.kept {w w' : World} {F S : Nat → Prop} {r b : Nat} {L : List Rw} (h : RingAt w F r b L) (hc : Chg S w w') (hs : ∀ k, F k → ¬ S k) : RingAt w' F r b L := by
  obtain ⟨m, es, c, hb, hM, hS, hF⟩ := h.ex
  exact ⟨m, es, c, (hc.block r (lt_of_heap hb) (hs r ((hF r).2 (.inl rfl)))).trans hb, hM.kept hc (hs m ((hF m).2 (.inr rfl))), hS, hF⟩
theorem RingAt.keptB {w w' : World} {F : Nat → Prop} {r b : Nat} {L : List Rw} (h : RingAt w F r b L) (hc : Below w.heap.size w w') : RingAt w' F r b L := h.kept (S := fun _ => False) (Chg.of_below hc) (fun _ _ h => h)

theorem Tryz.zeroState (w : World) : (zeroValue 51).run Tryz.prog w = .ok (.agg #[.int .u64 0, .int .u64 0]) w := by kernel_rfl

set_option maxRecDepth 100000 in
theorem first_any (w : World) :
    Calls Tryz.prog 54 #[] w fun e w' => e = .returned (.agg #[.int .u64 1, .int .u64 0]) ∧ Below w.heap.size w w' := by
  go_enter Tryz.func54, Tryz.ntmps54
  go_wp2
  exact bodyPost_ret (v := .agg #[.int .u64 1, .int .u64 0]) (by simp [results, Tryz.results54, go_sem]) rfl ⟨rfl, (Below.refl _ _).alloc (Nat.le_refl _) _⟩

set_option maxRecDepth 100000 in
set_option maxHeartbeats 1000000 in
theorem state_any (F : Nat → Prop) (r b : Nat) (L : List Rw) (k : Bs) (w : World) (h : RingAt w F r b L) :
    Calls Tryz.prog 27 #[.pointer (some ⟨r, 0, none⟩), vs k] w fun e w' => e = .returned (.agg #[.int .u64 (stR L k).1, .int .u64 (stR L k).2]) ∧ Below w.heap.size w w' := by
  obtain ⟨m, es, c, hb, hM, hS, hF⟩ := h.ex
  have hblt := lt_of_heap hb
  have c1 := cell_of_row w r 1 _ _ _ hb
  simp only [List.getElem?_toArray, List.getElem?_cons_zero, List.getElem?_cons_succ] at c1
  have hM1 : ∀ o, MapB vs (w.alloc o) m es c := fun o => hM.kept (S := fun _ => False) ((Chg.refl _ w).alloc o) (fun h => h)
  have hlk := fun o => (run_lookup_map vs_key Tryz.underlying67 (Tryz.zeroState _) (hM1 o) k).1
  simp only [hS k] at hlk
  clear hb hM hF hM1 h
  cases hl : lastR L k with
  | none =>
    have HR := Lib.hid (show stR L k = (1, 0) from by simp [stR, hl])
    simp only [hl, Option.map_none, Option.getD_none, Option.isSome_none] at hlk
    clear hl
    go_enter Tryz.func27, Tryz.ntmps27
    go_wp2_with fail
    refine (first_any _).mono ?_
    rintro e w1 ⟨rfl, hb1⟩
    have hb1s : w.heap.size + 2 ≤ w1.heap.size := by have := hb1.size; simpa using this
    have t0 : w1.cell? ⟨w.heap.size, 0, none⟩ = some (.int .u64 0) := (hb1.cell (p := ⟨w.heap.size, 0, none⟩) (by simp; omega)).trans (cell_of_row _ _ 0 _ _ _ (heap_al2_old w _ _))
    have t1 : w1.cell? ⟨w.heap.size, 1, none⟩ = some (.int .u64 0) := (hb1.cell (p := ⟨w.heap.size, 1, none⟩) (by simp; omega)).trans (cell_of_row _ _ 1 _ _ _ (heap_al2_old w _ _))
    have y0 : w1.frozen? ⟨w.heap.size, 0, none⟩ = false := (hb1.frozen (p := ⟨w.heap.size, 0, none⟩) (by simp; omega)).trans (frozen_of_row _ _ 0 _ _ (heap_al2_old w _ _))
    have y1 : w1.frozen? ⟨w.heap.size, 1, none⟩ = false := (hb1.frozen (p := ⟨w.heap.size, 1, none⟩) (by simp; omega)).trans (frozen_of_row _ _ 1 _ _ (heap_al2_old w _ _))
    go_wp2_with fail
    refine bodyPost_ret (v := .agg #[.int .u64 1, .int .u64 0]) (by simp [results, Tryz.results27, go_sem, t0, t1]) rfl ?_
    rw [HR.out]
    exact ⟨rfl, ((((Below.refl _ w).alloc (Nat.le_refl _) _).alloc (by simp) _).trans (hb1.mono (by simp; omega))).setCell (p := ⟨w.heap.size, 0, none⟩) (Nat.le_refl _) _ |>.setCell (p := ⟨w.heap.size, 1, none⟩) (Nat.le_refl _) _⟩
  | some x =>
    have HR := Lib.hid (show stR L k = (x.now, x.old) from by simp [stR, hl])
    simp only [hl, Option.map_some, Option.getD_some, Option.isSome_some, rwV] at hlk
    clear hl
    go_enter Tryz.func27, Tryz.ntmps27
    go_wp2_with fail
    refine bodyPost_ret (v := .agg #[.int .u64 x.now, .int .u64 x.old]) (by simp [results, Tryz.results27, go_sem]) rfl ?_
    rw [HR.out]
    exact ⟨rfl, by exact (((Below.refl _ w).alloc (Nat.le_refl _) _).alloc (by simp) _)⟩

/-- is an epoch's key used? -/
def liveR (s : Nat × Nat) (e : Nat) : Bool := decide (0 < e) && (decide (e = s.1) || decide (e = s.2))

set_option maxRecDepth 100000 in
set_option maxHeartbeats 1000000 in
theorem live_any (F : Nat → Prop) (r b : Nat) (L : List Rw) (k : Bs) (ep : Nat) (w : World) (h : RingAt w F r b L) :
    Calls Tryz.prog 31 #[.pointer (some ⟨r, 0, none⟩), vs k, .int .u64 ep] w fun e w' => e = .returned (.bool (liveR (stR L k) ep)) ∧ Below w.heap.size w w' := by
  have HS := Lib.hid (state_any F r b L k w h)
  clear h
  generalize stR L k = st at *
  obtain ⟨now, old⟩ := st
  simp only at HS ⊢
  by_cases h0 : ep = 0
  · subst h0
    go_enter Tryz.func31, Tryz.ntmps31
    go_wp2_with fail
    refine HS.out.mono ?_
    rintro e w1 ⟨rfl, hb1⟩
    go_wp2_with fail
    go_ret
    exact ⟨by simp [liveR], hb1.alloc hb1.size _⟩
  · have e0 : (0 : Int) < (ep : Int) := by omega
    by_cases h1 : ep = now
    · subst h1
      go_enter Tryz.func31, Tryz.ntmps31
      go_wp2_with fail
      refine HS.out.mono ?_
      rintro e w1 ⟨rfl, hb1⟩
      go_wp2_with fail
      go_ret
      exact ⟨by simp [liveR]; omega, hb1.alloc hb1.size _⟩
    · have e1 : ((ep : Int) == (now : Int)) = false := by rw [beq_eq_false_iff_ne]; omega
      go_enter Tryz.func31, Tryz.ntmps31
      go_wp2_with fail
      refine HS.out.mono ?_
      rintro e w1 ⟨rfl, hb1⟩
      go_wp2_with fail
      go_ret
      refine ⟨?_, hb1.alloc hb1.size _⟩
      have : ((ep : Int) == (old : Int)) = decide (ep = old) := by rw [Bool.eq_iff_iff]; simp; omega
      have h0' : 0 < ep := by omega
      simp [liveR, h1, h0', this]
end Go.Proofs.YtahdldbfcjbklaaGreat
