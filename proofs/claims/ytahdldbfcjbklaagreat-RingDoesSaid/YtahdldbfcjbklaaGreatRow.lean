/- pack.Out's Text and Num; ring.row, ring.Key, posthornref14.Write, Key. -/
import Derived.Test.YtahdldbfcjbklaaGreatBld
import Derived.Deep.RegionWith
namespace Go.Proofs.YtahdldbfcjbklaaGreat
open Go.RowKit
theorem BldAt.kept {T B b : Nat} {l : List UInt8} {w w' : World} {S : Nat → Prop} (h : BldAt T B w b l) (hc : Chg S w w') (hs : ∀ k, k < w.heap.size → ¬ S k) : BldAt T B w' b l := by
  obtain ⟨hB, p, v, hp, hb, hown, hne⟩ := h
  exact ⟨hB, p, v, hp, (hc.block b (lt_of_heap hb) (hs b (lt_of_heap hb))).trans hb, ownsRow_chg hown hc (fun k hk => hs k (hown.lt k hk).2), hne⟩
theorem BldAt.keptB {T B b : Nat} {l : List UInt8} {w w' : World} (h : BldAt T B w b l) (hc : Below w.heap.size w w') : BldAt T B w' b l := h.kept (S := fun _ => False) (Chg.of_below hc) (fun _ _ h => h)
theorem BldAt.drew {T B b : Nat} {l : List UInt8} {w : World} (h : BldAt T B w b l) : BldAt T B w.drew b l := h

set_option maxRecDepth 100000 in
set_option maxHeartbeats 1000000 in
theorem outText_any (B b : Nat) (l s : List UInt8) (hsz : l.length + s.length ≤ 1000000000) (w : World) (hBw : B ≤ w.heap.size) (h : BldAt 129 B w b l) :
    Calls Tryz.prog 87 #[.pointer (some ⟨b, 0, none⟩), vs s] w fun e w' => e = .returned (.tuple #[]) ∧ BldAt 129 B w' b (l ++ textB s) ∧ Below B w w' := by
  have h8 : need s.length ≤ 8 := need_le 8 _ (by have : (256 : Nat) ^ 8 = 18446744073709551616 := rfl; omega)
  have hl : (textB s).length = need s.length + 1 + s.length := by simp [textB, numB_length]
  have hsz2 : l.length + (textB s).length ≤ 1099511627776 := by omega
  clear hl h8
  have H := Lib.hid h; clear h
  go_enter Tryz.func87, Tryz.ntmps87
  go_wp2_with fail
  go_region_with (first | (go_at_call 50; refine (text_any s (by omega) _).mono ?_; rintro e w1 ⟨rfl, hb1⟩) | (go_at_call 97; refine (writeString_any B b l _ hsz2 _ (Nat.le_trans hBw (below_undrew hb1).size) (H.out.keptB (below_undrew hb1))).mono ?_; rintro e w2 ⟨rfl, h2, hb2⟩))
  all_goals (go_wp2; go_end0; exact ⟨rfl, h2, ((below_undrew hb1).mono hBw).trans hb2⟩)

set_option maxRecDepth 100000 in
set_option maxHeartbeats 1000000 in
theorem outNum_any (B b : Nat) (l : List UInt8) (n : Nat) (hn : n < 18446744073709551616) (hsz : l.length ≤ 1000000000) (w : World) (hBw : B ≤ w.heap.size) (h : BldAt 129 B w b l) :
    Calls Tryz.prog 88 #[.pointer (some ⟨b, 0, none⟩), .int .u64 n] w fun e w' => e = .returned (.tuple #[]) ∧ BldAt 129 B w' b (l ++ numB n) ∧ Below B w w' := by
  have h8 : need n ≤ 8 := need_le 8 n (by simpa using hn)
  have hsz2 : l.length + (numB n).length ≤ 1099511627776 := by rw [numB_length]; omega
  clear h8
  have H := Lib.hid h; clear h
  go_enter Tryz.func88, Tryz.ntmps88
  go_wp2_with fail
  go_region_with (first | (go_at_call 51; refine (num_any n hn _).mono ?_; rintro e w1 ⟨rfl, hb1⟩) | (go_at_call 97; refine (writeString_any B b l _ hsz2 _ (Nat.le_trans hBw (below_undrew hb1).size) (H.out.keptB (below_undrew hb1))).mono ?_; rintro e w2 ⟨rfl, h2, hb2⟩))
  all_goals (go_wp2; go_end0; exact ⟨rfl, h2, ((below_undrew hb1).mono hBw).trans hb2⟩)

/-- a row of the ring's file -/
def rowB (dom : List UInt8) (now old : Nat) : List UInt8 := textB (textB dom ++ (numB now ++ numB old))
theorem textB_ne (s : List UInt8) : textB s ≠ [] := by simp [textB, numB]
theorem textB_length (s : List UInt8) : (textB s).length = need s.length + 1 + s.length := by simp [textB, numB_length]
theorem need8 (n : Nat) (h : n < 18446744073709551616) : need n ≤ 8 := need_le 8 n (by simpa using h)

set_option maxRecDepth 100000 in
set_option maxHeartbeats 1000000 in
theorem row_any (dom : List UInt8) (hd : dom.length ≤ 1000) (now old : Nat) (hn : now < 18446744073709551616) (ho : old < 18446744073709551616) (w : World) :
    Calls Tryz.prog 70 #[vs dom, .agg #[.int .u64 now, .int .u64 old]] w fun e w' => e = .returned (vs (rowB dom now old)) ∧ Below w.heap.size w w' := by
  have n1 := need8 dom.length (by omega)
  have n2 := need8 now hn
  have n3 := need8 old ho
  have hl1 := textB_length dom
  have hl2 : (textB dom ++ numB now).length ≤ 2000 := by rw [List.length_append, hl1, numB_length]; omega
  have hl3 : (textB dom ++ (numB now ++ numB old)).length ≤ 3000 := by rw [← List.append_assoc, List.length_append, numB_length]; omega
  have hne : textB dom ++ (numB now ++ numB old) ≠ [] := by simp [textB_ne]
  have hl1' : (textB dom).length ≤ 1100 := by omega
  have HL1 := Lib.hid hl1'; have HL2 := Lib.hid hl2; have HL3 := Lib.hid hl3; clear hl1 hl2 hl3 n1 n2 n3 hl1'
  go_enter Tryz.func70, Tryz.ntmps70
  go_wp2_with fail
  have h0 : BldAt 129 (w.heap.size + 1) ((w.alloc (Obj.cells #[Value.int IntKind.u64 ↑now, Value.int IntKind.u64 ↑old] 51)).alloc (Obj.cells #[Value.pointer none, Value.slice none 0 0] 129)) (w.heap.size + 1) [] :=
    ⟨Nat.le_refl _, _, _, .inl rfl, heap_alloc2_new w _ _, World.ownsRow_nil _ _ _ _, by simp [Value.ownBlock]⟩
  refine (outText_any (w.heap.size + 1) (w.heap.size + 1) [] dom (by simp; omega) _ (by simp) h0).mono ?_
  rintro e w1 ⟨rfl, h1, hb1⟩
  simp only [List.nil_append] at h1
  have ha : ∀ i, ((w.alloc (Obj.cells #[Value.int IntKind.u64 ↑now, Value.int IntKind.u64 ↑old] 51)).alloc (Obj.cells #[Value.pointer none, Value.slice none 0 0] 129)).cell? ⟨w.heap.size, i, none⟩ = #[Value.int IntKind.u64 ↑now, Value.int IntKind.u64 ↑old][i]? := fun i => cell_of_row _ _ _ _ _ _ (heap_alloc2_old w _ _)
  have c0 : w1.cell? ⟨w.heap.size, 0, none⟩ = some (.int .u64 now) := (hb1.cell (p := ⟨w.heap.size, 0, none⟩) (by simp)).trans (ha 0)
  have c1 : w1.cell? ⟨w.heap.size, 1, none⟩ = some (.int .u64 old) := (hb1.cell (p := ⟨w.heap.size, 1, none⟩) (by simp)).trans (ha 1)
  have hs1 : w.heap.size + 1 ≤ w1.heap.size := Nat.le_trans (by simp) hb1.size
  clear ha h0
  go_wp2_with fail
  refine (outNum_any (w.heap.size + 1) (w.heap.size + 1) (textB dom) now hn (by have := HL1.out; omega) _ hs1 h1).mono ?_
  rintro e w2 ⟨rfl, h2, hb2⟩
  have d1 : w2.cell? ⟨w.heap.size, 1, none⟩ = some (.int .u64 old) := (hb2.cell (p := ⟨w.heap.size, 1, none⟩) (by simp)).trans c1
  have hs2 : w.heap.size + 1 ≤ w2.heap.size := Nat.le_trans hs1 hb2.size
  clear c0 c1 h1
  go_wp2_with fail
  refine (outNum_any (w.heap.size + 1) (w.heap.size + 1) (textB dom ++ numB now) old ho (by have := HL2.out; omega) _ hs2 h2).mono ?_
  rintro e w3 ⟨rfl, h3, hb3⟩
  have hs3 : w.heap.size + 1 ≤ w3.heap.size := Nat.le_trans hs2 hb3.size
  clear h2 d1
  go_wp2_with fail
  refine (bldString_any (w.heap.size + 1) (w.heap.size + 1) _ hne _ (by rw [← List.append_assoc]; exact h3)).mono ?_
  rintro e w4 ⟨rfl, hb4⟩
  go_wp2_with fail
  refine (text_any _ (by have := HL3.out; omega) _).mono ?_
  rintro e w5 ⟨rfl, hb5⟩
  go_wp2_with fail
  go_ret
  refine ⟨rfl, ?_⟩
  have hb0 : Below w.heap.size w ((w.alloc (Obj.cells #[Value.int IntKind.u64 ↑now, Value.int IntKind.u64 ↑old] 51)).alloc (Obj.cells #[Value.pointer none, Value.slice none 0 0] 129)) := ((Below.refl _ _).alloc (Nat.le_refl _) _).alloc (by simp) _
  exact hb0.trans (((((hb1.trans hb2).trans hb3).trans hb4).trans (hb5.mono (Nat.le_trans hs3 hb4.size))).mono (by omega))

set_option maxHeartbeats 1000000 in
theorem key_any (dom : List UInt8) (hd : dom.length ≤ 1000) (n : Nat) (hn : n < 18446744073709551616) (w : World) :
    Calls Tryz.prog 24 #[vs dom, .int .u64 n] w fun e w' => e = .returned (vs (textB dom ++ numB n)) ∧ Below w.heap.size w w' := by
  have n1 := need8 dom.length (by omega)
  have n2 := need8 n hn
  have hl1 := textB_length dom
  have hl2 := numB_length n
  go_enter Tryz.func24, Tryz.ntmps24
  go_wp2_with fail
  refine (text_any dom (by omega) _).mono ?_
  rintro e w1 ⟨rfl, hb1⟩
  go_wp2_with fail
  refine (num_any n hn _).mono ?_
  rintro e w2 ⟨rfl, hb2⟩
  go_wp2_with fail
  go_ret
  exact ⟨rfl, hb1.trans (hb2.mono hb1.size)⟩
set_option maxHeartbeats 1000000 in
theorem r14_key (dom : List UInt8) (hd : dom.length ≤ 1000) (n : Nat) (hn : n < 18446744073709551616) (w : World) :
    Calls Tryz.prog 25 #[vs dom, .int .u64 n] w fun e w' => e = .returned (vs (textB dom ++ numB n)) ∧ Below w.heap.size w w' := by
  have n1 := need8 dom.length (by omega)
  have n2 := need8 n hn
  have hl1 := textB_length dom
  have hl2 := numB_length n
  go_enter Tryz.func25, Tryz.ntmps25
  go_wp2_with fail
  refine (r12_text dom (by omega) _).mono ?_
  rintro e w1 ⟨rfl, hb1⟩
  go_wp2_with fail
  refine (r12_num n hn _).mono ?_
  rintro e w2 ⟨rfl, hb2⟩
  go_wp2_with fail
  go_ret
  exact ⟨rfl, hb1.trans (hb2.mono hb1.size)⟩

set_option maxRecDepth 100000 in
set_option maxHeartbeats 1000000 in
theorem r14_write (dom : List UInt8) (hd : dom.length ≤ 1000) (now old : Nat) (hn : now < 18446744073709551616) (ho : old < 18446744073709551616) (w : World) :
    Calls Tryz.prog 72 #[.agg #[vs dom, .int .u64 now, .int .u64 old]] w fun e w' => e = .returned (vs (rowB dom now old)) ∧ Below w.heap.size w w' := by
  have n1 := need8 dom.length (by omega)
  have n2 := need8 now hn
  have n3 := need8 old ho
  have hl1 := textB_length dom
  have hl2 : (textB dom ++ numB now).length ≤ 2000 := by rw [List.length_append, hl1, numB_length]; omega
  have hl3 : (textB dom ++ (numB now ++ numB old)).length ≤ 1000000000000 := by rw [← List.append_assoc, List.length_append, numB_length]; omega
  have hd' : dom.length ≤ 1000000000000 := by omega
  have k1 : (textB dom).length ≤ 3000 := by omega
  have k2 := numB_length now
  have k3 := numB_length old
  clear hl1 hl2
  have cc := fun i d os => fun v (h : #[vs dom, .int .u64 now, .int .u64 old][i]? = some v) => cell_regrown (w := w.alloc (.cells #[vs dom, .int .u64 now, .int .u64 old] 48)) (a := ⟨w.heap.size, i, none⟩) ((cell_of_row _ _ i _ _ _ (heap_alloc_new w _)).trans h) d os
  have c0 := fun d os => cc 0 d os _ rfl
  have c1 := fun d os => cc 1 d os _ rfl
  have c2 := fun d os => cc 2 d os _ rfl
  clear cc
  go_enter Tryz.func72, Tryz.ntmps72
  go_wp2_with fail
  refine wp_region_quietB (by kernel_rfl) (by kernel_rfl) ?_
  repeat (go_big_quiet_step ((first | (go_at_call 52; exact Calls.regrown_of (r12_text _ (by assumption) _)) | (go_at_call 53; exact Calls.regrown_of (r12_num _ (by assumption) _)))))
  refine wpQuiet_nil ?_
  intro w4 hb4
  go_wp2
  go_ret
  exact ⟨rfl, ((Below.refl _ _).alloc (Nat.le_refl _) _).trans (hb4.mono (by simp))⟩
end Go.Proofs.YtahdldbfcjbklaaGreat
