/- posthornref14: State, Live. -/
import Derived.Test.YtahdldbfcjbklaaGreatRing6
namespace Go.Proofs.YtahdldbfcjbklaaGreat
open Go.RowKit Go.MapKept
def rwC (r : Rw) : List Value := [vs r.dom, .int .u64 r.now, .int .u64 r.old]
theorem rwC_length (r : Rw) : (rwC r).length = 3 := rfl
theorem rwC_one (r : Rw) : ∀ u ∈ rwC r, u.oneCell' = true := by
  intro u hu; simp only [rwC, List.mem_cons, List.not_mem_nil, or_false] at hu; rcases hu with rfl | rfl | rfl <;> rfl
abbrev rwCells (L : List Rw) : List Value := L.flatMap rwC
theorem rwCells_one (L : List Rw) : ∀ u ∈ rwCells L, u.oneCell' = true := by
  intro u hu; obtain ⟨p, _, hp⟩ := List.mem_flatMap.1 hu; exact rwC_one p u hp
abbrev RowsV (w : World) (B : Nat) (v : Value) (L : List Rw) : Prop := w.ownsRow B 48 3 v L.length (rwCells L)
structure R14At (w : World) (F : Nat → Prop) (r b : Nat) (L : List Rw) : Prop where
  ex : ∃ v : Value, w.heap[r]? = some (.cells #[.pointer (some ⟨b, 0, none⟩), v] 84 (0, 0)) ∧ RowsV w 0 v L ∧ (∀ k, F k ↔ k = r ∨ v.ownBlock = some k)
theorem R14At.lt {w : World} {F : Nat → Prop} {r b : Nat} {L : List Rw} (h : R14At w F r b L) : ∀ k, F k → k < w.heap.size := by
  obtain ⟨v, hb, hv, hF⟩ := h.ex
  intro k hk
  rcases (hF k).1 hk with rfl | h
  · exact lt_of_heap hb
  · exact (hv.lt k h).2
theorem R14At.self {w : World} {F : Nat → Prop} {r b : Nat} {L : List Rw} (h : R14At w F r b L) : F r := by
  obtain ⟨v, hb, hv, hF⟩ := h.ex
  exact (hF r).2 (.inl rfl)
theorem R14At.kept {w w' : World} {F S : Nat → Prop} {r b : Nat} {L : List Rw} (h : R14At w F r b L) (hc : Chg S w w') (hs : ∀ k, F k → ¬ S k) : R14At w' F r b L := by
  obtain ⟨v, hb, hv, hF⟩ := h.ex
  exact ⟨v, (hc.block r (lt_of_heap hb) (hs r ((hF r).2 (.inl rfl)))).trans hb, ownsRow_chg hv hc (fun k hk => hs k ((hF k).2 (.inr hk))), hF⟩
theorem R14At.keptB {w w' : World} {F : Nat → Prop} {r b : Nat} {L : List Rw} (h : R14At w F r b L) (hc : Below w.heap.size w w') : R14At w' F r b L := h.kept (S := fun _ => False) (Chg.of_below hc) (fun _ _ h => h)
theorem lastR_hit (L : List Rw) (key : Bs) (k : Nat) (x : Rw) (hk : L[k]? = some x) (hx : x.dom = key) (hb : ∀ q ∈ L.drop (k + 1), q.dom ≠ key) : lastR L key = some x := by
  obtain ⟨hlt, hx2⟩ := List.getElem?_eq_some_iff.1 hk
  have : L = L.take k ++ x :: L.drop (k + 1) := by
    conv => lhs; rw [← List.take_append_drop k L, List.drop_eq_getElem_cons hlt, hx2]
  unfold lastR
  rw [this, List.reverse_append, List.reverse_cons, List.append_assoc, List.find?_append]
  have h1 : ((L.drop (k + 1)).reverse.find? fun r => decide (r.dom = key)) = none := by
    rw [List.find?_eq_none]; intro q hq; simpa using hb q (by simpa using hq)
  rw [h1]
  simp [hx]
theorem lastR_miss (L : List Rw) (key : Bs) (hb : ∀ q ∈ L, q.dom ≠ key) : lastR L key = none := by
  unfold lastR
  rw [List.find?_eq_none]; intro q hq; simpa using hb q (by simpa using hq)

set_option maxRecDepth 100000 in
set_option maxHeartbeats 1000000 in
theorem r14_state (F : Nat → Prop) (r b : Nat) (L : List Rw) (k : Bs) (w : World) (h : R14At w F r b L) (hn : L.length ≤ 1000000000) :
    Calls Tryz.prog 26 #[.pointer (some ⟨r, 0, none⟩), vs k] w fun e w' => e = .returned (.agg #[vs k, .int .u64 (stR L k).1, .int .u64 (stR L k).2]) ∧ Below w.heap.size w w' := by
  obtain ⟨v, hb, hv, hF⟩ := h.ex
  obtain ⟨av, cv, rfl⟩ := ownsRow_val hv
  have hblt := lt_of_heap hb
  have c1 := cell_of_row w r 1 _ _ _ hb
  simp only [List.getElem?_toArray, List.getElem?_cons_zero, List.getElem?_cons_succ] at c1
  have HV := Lib.hid hv
  clear hb hF h hv
  go_enter Tryz.func26, Tryz.ntmps26
  go_wp2
  go_loop [5] (fun i => ∃ n : Nat, n ≤ L.length ∧ i = .int .i64 ((n : Int) - 1) ∧ Hid (∀ q ∈ L.drop n, q.dom ≠ k)) (fun i => (intOf i + 1).toNat)
  case atStart => exact ⟨L.length, Nat.le_refl _, rfl, Lib.hid (by simp)⟩
  case round =>
    obtain ⟨n, hnl, rfl, HB⟩ := hrel
    by_cases h0 : n = 0
    · subst h0
      have HR := Lib.hid (show stR L k = (1, 0) from by rw [stR, lastR_miss L k (by simpa using HB.out)])
      go_wp2
      refine bodyPost_ret (v := .agg #[vs k, .int .u64 1, .int .u64 0]) (by simp [results, Tryz.results26, go_sem]) rfl ?_
      rw [HR.out]
      exact ⟨rfl, (Below.refl _ w).alloc (Nat.le_refl _) _⟩
    · obtain ⟨j, rfl⟩ : ∃ j, n = j + 1 := ⟨n - 1, by omega⟩
      have hj : (((j + 1 : Nat) : Int) - 1) = (j : Int) := by omega
      rw [hj]
      clear hj
      obtain ⟨g, rfl, hc, hgl, _, hcv, hcm⟩ := ownsRow_some HV.out (by omega)
      obtain ⟨x, hx⟩ : ∃ x, L[j]? = some x := ⟨_, List.getElem?_eq_getElem (by omega)⟩
      have d0 := rec_cells rwC_length hc hx 0 (by omega)
      have d1 := rec_cells rwC_length hc hx 1 (by omega)
      have d2 := rec_cells rwC_length hc hx 2 (by omega)
      simp only [rwC, List.getElem?_cons_zero, List.getElem?_cons_succ, Nat.add_zero] at d0 d1 d2
      have HX := Lib.hid hx
      have hjl : j < L.length := by omega
      unfold maxLen at hcm
      clear hc hx
      by_cases he : x.dom = k
      · have hq : (x.dom == k) = true := by simpa using he
        have HR := Lib.hid (show stR L k = (x.now, x.old) from by rw [stR, lastR_hit L k j x HX.out he HB.out])
        have HE := Lib.hid he
        clear he
        go_wp2
        refine bodyPost_ret (v := .agg #[vs x.dom, .int .u64 x.now, .int .u64 x.old]) (by simp [results, Tryz.results26, go_sem]) rfl ?_
        rw [HR.out, HE.out]
        exact ⟨rfl, (Below.refl _ w).alloc (Nat.le_refl _) _⟩
      · have hq : (x.dom == k) = false := by simpa using he
        have HB2 := Lib.hid (show ∀ q ∈ L.drop j, q.dom ≠ k from by
          intro q hq2
          rw [List.drop_eq_getElem_cons hjl, (List.getElem?_eq_some_iff.1 HX.out).2] at hq2
          rcases List.mem_cons.1 hq2 with rfl | h
          · exact he
          · exact HB.out q h)
        clear he
        go_wp2
        go_round
        case rel => exact ⟨j, by omega, by go_num, HB2⟩
        case measure => simp [intOf]

set_option maxRecDepth 100000 in
set_option maxHeartbeats 1000000 in
theorem r14_live (F : Nat → Prop) (r b : Nat) (L : List Rw) (k : Bs) (ep : Nat) (w : World) (h : R14At w F r b L) (hn : L.length ≤ 1000000000) :
    Calls Tryz.prog 32 #[.pointer (some ⟨r, 0, none⟩), vs k, .int .u64 ep] w fun e w' => e = .returned (.bool (liveR (stR L k) ep)) ∧ Below w.heap.size w w' := by
  have HS := Lib.hid (r14_state F r b L k w h hn)
  clear h
  generalize stR L k = st at *
  obtain ⟨now, old⟩ := st
  simp only at HS ⊢
  by_cases h0 : ep = 0
  · subst h0
    go_enter Tryz.func32, Tryz.ntmps32
    go_wp2_with fail
    refine HS.out.mono ?_
    rintro e w1 ⟨rfl, hb1⟩
    go_wp2_with fail
    go_ret
    exact ⟨by simp [liveR], hb1.alloc hb1.size _⟩
  · have e0 : (0 : Int) < (ep : Int) := by omega
    by_cases h1 : ep = now
    · subst h1
      go_enter Tryz.func32, Tryz.ntmps32
      go_wp2_with fail
      refine HS.out.mono ?_
      rintro e w1 ⟨rfl, hb1⟩
      go_wp2_with fail
      go_ret
      exact ⟨by simp [liveR]; omega, hb1.alloc hb1.size _⟩
    · have e1 : ((ep : Int) == (now : Int)) = false := by rw [beq_eq_false_iff_ne]; omega
      go_enter Tryz.func32, Tryz.ntmps32
      go_wp2_with fail
      refine HS.out.mono ?_
      rintro e w1 ⟨rfl, hb1⟩
      go_wp2_with fail
      go_ret
      refine ⟨?_, hb1.alloc hb1.size _⟩
      have : ((ep : Int) == (old : Int)) = decide (ep = old) := by rw [Bool.eq_iff_iff]; simp; omega
      have h0' : 0 < ep := by omega
      simp [liveR, h1, h0', this]
end Go.Proofs.YtahdldbfcjbklaaGreat
