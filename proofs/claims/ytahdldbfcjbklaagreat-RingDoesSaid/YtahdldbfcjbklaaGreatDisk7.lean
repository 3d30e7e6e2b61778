/- disk: New. -/
import Derived.Test.YtahdldbfcjbklaaGreatDisk6
import Derived.Carry
namespace Go.Proofs.YtahdldbfcjbklaaGreat
open Go.RowKit Go.MapKept

theorem new_diskAt {TD TE : TypeId} (hty : TD ≠ TE) (w : World) :
    ∃ F, DiskAt TD TE (((w.alloc (.map #[] 0)).alloc (.map #[] 0)).alloc (.cells #[.map (some w.heap.size), .map (some (w.heap.size + 1)), .slice none 0 0, .slice none 0 0, .int .i64 1048576, .int .i64 (-1), .bool false] TD)) F (w.heap.size + 2) DS.new ∧ (∀ k, F k → w.heap.size ≤ k) := by
  have e0 : FilesR [] [] := ⟨List.Pairwise.nil, fun k => rfl⟩
  have h0 : (((w.alloc (.map #[] 0)).alloc (.map #[] 0)).alloc (.cells #[.map (some w.heap.size), .map (some (w.heap.size + 1)), .slice none 0 0, .slice none 0 0, .int .i64 1048576, .int .i64 (-1), .bool false] TD)).heap[w.heap.size]? = some (.map #[] 0) := by
    refine (Below.heap_alloc _ _ _ (by simp; omega)).trans ((Below.heap_alloc _ _ _ (by simp)).trans ?_)
    have := heap_alloc_new w (.map #[] 0); simpa using this
  have h1 : (((w.alloc (.map #[] 0)).alloc (.map #[] 0)).alloc (.cells #[.map (some w.heap.size), .map (some (w.heap.size + 1)), .slice none 0 0, .slice none 0 0, .int .i64 1048576, .int .i64 (-1), .bool false] TD)).heap[w.heap.size + 1]? = some (.map #[] 0) := by
    refine (Below.heap_alloc _ _ _ (by simp)).trans ?_
    have := heap_alloc_new (w.alloc (.map #[] 0)) (.map #[] 0); simpa using this
  have h2 : (((w.alloc (.map #[] 0)).alloc (.map #[] 0)).alloc (.cells #[.map (some w.heap.size), .map (some (w.heap.size + 1)), .slice none 0 0, .slice none 0 0, .int .i64 1048576, .int .i64 (-1), .bool false] TD)).heap[w.heap.size + 2]? = some (.cells #[.map (some w.heap.size), .map (some (w.heap.size + 1)), .slice none 0 0, .slice none 0 0, .int .i64 1048576, .int .i64 (-1), .bool false] TD (0, 0)) := by
    have := heap_alloc_new ((w.alloc (.map #[] 0)).alloc (.map #[] 0)) (.cells #[.map (some w.heap.size), .map (some (w.heap.size + 1)), .slice none 0 0, .slice none 0 0, .int .i64 1048576, .int .i64 (-1), .bool false] TD)
    simpa using this
  refine ⟨fun k => k = w.heap.size + 2 ∨ k = w.heap.size ∨ k = w.heap.size + 1 ∨ (Value.slice none 0 0).ownBlock = some k ∨ (Value.slice none 0 0).ownBlock = some k, ⟨⟨w.heap.size, w.heap.size + 1, .slice none 0 0, .slice none 0 0, [], [], 0, 0, h2, ⟨h0, List.nodup_nil, List.nodup_nil, by simp⟩, e0, ⟨h1, List.nodup_nil, List.nodup_nil, by simp⟩, e0, by omega, World.ownsRow_nil _ _ _ _, World.ownsRow_nil _ _ _ _, (fun k hk => by cases hk), fun k => Iff.rfl⟩, hty⟩, ?_⟩
  rintro k (rfl | rfl | rfl | h | h)
  · omega
  · omega
  · omega
  · cases h
  · cases h

set_option maxRecDepth 100000 in
theorem new_any (w : World) (hty : 62 ≠ 89) :
    Calls Tryz.prog 5 #[] w fun r w' => r = .returned (.pointer (some ⟨w.heap.size + 2, 0, none⟩)) ∧ (∃ F, DiskAt 62 89 w' F (w.heap.size + 2) DS.new ∧ ∀ k, F k → w.heap.size ≤ k) ∧ Below w.heap.size w w' := by
  have H := Lib.hid (new_diskAt hty w)
  have hmm := @run_makeMap Tryz.prog
  go_enter Tryz.func5, Tryz.ntmps5
  go_wp2
  go_ret
  refine ⟨?_, H.out, ?_⟩
  · simp
  · exact (((Below.refl _ w).alloc (Nat.le_refl _) _).alloc (by simp) _).alloc (by simp; omega) _
end Go.Proofs.YtahdldbfcjbklaaGreat
