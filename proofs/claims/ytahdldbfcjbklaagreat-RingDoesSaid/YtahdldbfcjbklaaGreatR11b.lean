/- posthornref11: do. -/
import Derived.Test.YtahdldbfcjbklaaGreatR11
import Derived.BigQuiet
namespace Go.Proofs.YtahdldbfcjbklaaGreat
open Go.RowKit
attribute [local go_sem ↓] Go.wp_at_zero Go.wp_at_succ
theorem FilesAt.keptB {w w' : World} {B : Nat} {v : Value} {l : Files} (h : FilesAt w B v l) (hb : Below w.heap.size w w') : FilesAt w' B v l := ownsRow_chg h (S := fun _ => False) (Chg.of_below hb) (fun _ _ h => h)
theorem FilesAt.base {w : World} {B : Nat} {v : Value} {l : Files} (h : FilesAt w B v l) : FilesAt w 0 v l := ownsRow_base h (Nat.zero_le _)
theorem FilesAt.new {w : World} {B : Nat} {v : Value} {l : Files} (h : FilesAt w B v l) (k : Nat) (hk : v.ownBlock = some k) : B ≤ k := (h.lt k hk).1
theorem dataF_len (l : Files) (n : Bs) : (dataF l n).length ≤ sizeF l := dataF_le l n

/-- what do leaves -/
def DoPost (w : World) (v : Value) (l : Files) (r : Ending) (w' : World) : Prop :=
  ∃ v', r = .returned v' ∧ FilesAt w' 0 v' l ∧ (∀ k, v'.ownBlock = some k → v.ownBlock = some k ∨ w.heap.size ≤ k) ∧ Below w.heap.size w w'

set_option maxRecDepth 100000 in
set_option maxHeartbeats 2000000 in
theorem r11_do (l : Files) (hsl : SortedF l) (v : Value) (e : Ev) (w : World) (h : FilesAt w 0 v l) (hl : l.length ≤ 900000000) (hop : e.op = 1 ∨ e.op = 2 ∨ e.op = 3 ∨ e.op = 4) (hsz : (dataF l e.name).length + e.data.length ≤ 1099511627776) :
    Calls Tryz.prog 45 #[v, .agg #[.int .i64 e.op, vs e.name, vs e.to_, vs e.data]] w (DoPost w v (doF l e)) := by
  obtain ⟨op, name, to_, data⟩ := e
  have H := Lib.hid h
  have HSL := Lib.hid hsl
  have HF := fun w' (hb : Below w.heap.size w w') => Lib.hid (FilesAt.keptB h hb)
  clear h hsl
  simp only at hop hsz ⊢
  rcases hop with rfl | rfl | rfl | rfl
  · have HB := Lib.hid ((Below.refl w.heap.size w).alloc (Nat.le_refl _) (.cells #[.int .i64 ((1 : Nat) : Int), vs name, vs to_, vs data] 92))
    go_enter Tryz.func45, Tryz.ntmps45
    go_wp2_with fail
    refine (r11_put l HSL.out v name data _ (HF _ HB.out).out (by omega)).mono ?_
    rintro r w1 ⟨v', rfl, hf, hb⟩
    go_wp2_with fail
    go_ret
    exact ⟨_, rfl, hf.base, fun k hk => .inr (by have := hf.new k hk; simp at this; omega), HB.out.trans (hb.mono (by simp))⟩
  · have HB := Lib.hid ((Below.refl w.heap.size w).alloc (Nat.le_refl _) (.cells #[.int .i64 ((2 : Nat) : Int), vs name, vs to_, vs data] 92))
    have hbox := heap_alloc_new w (.cells #[.int .i64 ((2 : Nat) : Int), vs name, vs to_, vs data] 92)
    have g1 := cell_of_row _ _ 1 _ _ _ hbox
    have g3 := cell_of_row _ _ 3 _ _ _ hbox
    simp only [List.getElem?_toArray, List.getElem?_cons_zero, List.getElem?_cons_succ] at g1 g3
    go_enter Tryz.func45, Tryz.ntmps45
    go_wp2_with fail
    go_region_with (first
      | (go_at_call 49; refine (r11_data l v name _ (HF _ HB.out.drew).out (by omega)).mono ?_; rintro e w2 ⟨rfl, rfl⟩)
      | (go_at_call 48; refine (r11_put l HSL.out v name _ _ (HF _ HB.out.drew).out (by omega)).mono ?_; rintro r w1 ⟨v', rfl, hf, hb⟩))
    all_goals
      go_wp2_with fail
      go_ret
      exact ⟨_, rfl, hf.base, fun k hk => .inr (by have := hf.new k hk; simp at this; omega), HB.out.drew.trans (hb.mono (by simp))⟩
  · have HB := Lib.hid ((Below.refl w.heap.size w).alloc (Nat.le_refl _) (.cells #[.int .i64 ((3 : Nat) : Int), vs name, vs to_, vs data] 92))
    have hbox := heap_alloc_new w (.cells #[.int .i64 ((3 : Nat) : Int), vs name, vs to_, vs data] 92)
    have g1 := cell_of_row _ _ 1 _ _ _ hbox
    have g2 := cell_of_row _ _ 2 _ _ _ hbox
    have g3 := cell_of_row _ _ 3 _ _ _ hbox
    simp only [List.getElem?_toArray, List.getElem?_cons_zero, List.getElem?_cons_succ] at g1 g2 g3
    have hld := length_delF l name
    have HSD := Lib.hid (HSL.out.del name)
    go_enter Tryz.func45, Tryz.ntmps45
    go_wp2_with fail
    go_region_with (first
      | (go_at_call 49; refine (r11_data l v name _ (HF _ (by first | exact HB.out.drew | exact HB.out.drew.trans (hb.mono (by simp)))).out (by omega)).mono ?_; rintro e w2 ⟨rfl, rfl⟩)
      | (go_at_call 74; refine (r11_without l v name _ (HF _ HB.out.drew).out (by omega)).mono ?_; rintro r w1 ⟨v1, rfl, hf, hb⟩; have q1 := cell_below hb g1; have q2 := cell_below hb g2; have q3 := cell_below hb g3)
      | (go_at_call 48; refine (r11_put _ HSD.out v1 to_ _ _ hf.base (by omega)).mono ?_; rintro r w2 ⟨v2, rfl, hf2, hb2⟩))
    all_goals
      go_wp2_with fail
      go_ret
      have hs1 : w.heap.size + 1 ≤ w1.heap.size := by have := hb.size; simpa using this
      exact ⟨_, rfl, hf2.base, fun k hk => .inr (by have := hf2.new k hk; omega), HB.out.drew.trans ((hb.mono (by simp)).trans (hb2.mono (by omega)))⟩
  · have HB := Lib.hid ((Below.refl w.heap.size w).alloc (Nat.le_refl _) (.cells #[.int .i64 ((4 : Nat) : Int), vs name, vs to_, vs data] 92))
    go_enter Tryz.func45, Tryz.ntmps45
    go_wp2_with fail
    refine (r11_without l v name _ (HF _ HB.out).out (by omega)).mono ?_
    rintro r w1 ⟨v', rfl, hf, hb⟩
    go_wp2_with fail
    go_ret
    exact ⟨_, rfl, hf.base, fun k hk => .inr (by have := hf.new k hk; simp at this; omega), HB.out.trans (hb.mono (by simp))⟩

/-! ### the reference's disk in memory -/
abbrev EvsAt (w : World) (B : Nat) (v : Value) (l : List Ev) : Prop := w.ownsRow B 92 4 v l.length (evCells l)
structure R11At (w : World) (F : Nat → Prop) (b : Nat) (d : DS) : Prop where
  ex : ∃ vN vS vP vT : Value, w.heap[b]? = some (.cells #[vN, vS, vP, vT, .int .i64 d.quota, .int .i64 d.fuse, .bool d.dead] 66 (0, 0)) ∧
    FilesAt w 0 vN d.now ∧ FilesAt w 0 vS d.sure ∧ EvsAt w 0 vP d.pend ∧ EvsAt w 0 vT d.trace ∧
    (∀ k, F k ↔ k = b ∨ vN.ownBlock = some k ∨ vS.ownBlock = some k ∨ vP.ownBlock = some k ∨ vT.ownBlock = some k)
  now : SortedF d.now
  sure : SortedF d.sure
theorem R11At.lt {w : World} {F : Nat → Prop} {b : Nat} {d : DS} (h : R11At w F b d) : ∀ k, F k → k < w.heap.size := by
  obtain ⟨⟨vN, vS, vP, vT, hb, hN, hS, hP, hT, hF⟩, _, _⟩ := h
  intro k hk
  rcases (hF k).1 hk with rfl | h | h | h | h
  · exact lt_of_heap hb
  · exact (hN.lt k h).2
  · exact (hS.lt k h).2
  · exact (hP.lt k h).2
  · exact (hT.lt k h).2
theorem R11At.self {w : World} {F : Nat → Prop} {b : Nat} {d : DS} (h : R11At w F b d) : F b := by
  obtain ⟨⟨vN, vS, vP, vT, hb, hN, hS, hP, hT, hF⟩, _, _⟩ := h
  exact (hF b).2 (.inl rfl)
theorem R11At.kept {w w' : World} {F S : Nat → Prop} {b : Nat} {d : DS} (h : R11At w F b d) (hc : Chg S w w') (hs : ∀ k, F k → ¬ S k) : R11At w' F b d := by
  obtain ⟨⟨vN, vS, vP, vT, hb, hN, hS, hP, hT, hF⟩, s1, s2⟩ := h
  refine ⟨⟨vN, vS, vP, vT, (hc.block b (lt_of_heap hb) (hs b ((hF b).2 (.inl rfl)))).trans hb, ownsRow_chg hN hc (fun k hk => hs k ((hF k).2 (.inr (.inl hk)))), ownsRow_chg hS hc (fun k hk => hs k ((hF k).2 (.inr (.inr (.inl hk))))), ownsRow_chg hP hc (fun k hk => hs k ((hF k).2 (.inr (.inr (.inr (.inl hk)))))), ownsRow_chg hT hc (fun k hk => hs k ((hF k).2 (.inr (.inr (.inr (.inr hk)))))), hF⟩, s1, s2⟩
theorem R11At.keptB {w w' : World} {F : Nat → Prop} {b : Nat} {d : DS} (h : R11At w F b d) (hc : Below w.heap.size w w') : R11At w' F b d := h.kept (S := fun _ => False) (Chg.of_below hc) (fun _ _ h => h)
/-- what a call may have changed -/
abbrev R11To (w : World) (F : Nat → Prop) (b : Nat) (d' : DS) (w' : World) : Prop :=
  ∃ F', R11At w' F' b d' ∧ (∀ k, F' k → F k ∨ w.heap.size ≤ k) ∧ Chg F w w'
/-- the block has these cells now, the slices are those, or others that hold what is said -/
theorem R11At.set {w w' : World} {F : Nat → Prop} {b : Nat} {d d' : DS} (h : R11At w F b d) (hc : Chg (· = b) w w') {vN vS vP vT : Value}
    (hb : w'.heap[b]? = some (.cells #[vN, vS, vP, vT, .int .i64 d'.quota, .int .i64 d'.fuse, .bool d'.dead] 66 (0, 0)))
    (hN : FilesAt w' 0 vN d'.now) (hS : FilesAt w' 0 vS d'.sure) (hP : EvsAt w' 0 vP d'.pend) (hT : EvsAt w' 0 vT d'.trace) (s1 : SortedF d'.now) (s2 : SortedF d'.sure)
    (fN : ∀ k, vN.ownBlock = some k → F k ∨ w.heap.size ≤ k) (fS : ∀ k, vS.ownBlock = some k → F k ∨ w.heap.size ≤ k) (fP : ∀ k, vP.ownBlock = some k → F k ∨ w.heap.size ≤ k) (fT : ∀ k, vT.ownBlock = some k → F k ∨ w.heap.size ≤ k) : R11To w F b d' w' := by
  refine ⟨fun k => k = b ∨ vN.ownBlock = some k ∨ vS.ownBlock = some k ∨ vP.ownBlock = some k ∨ vT.ownBlock = some k, ⟨⟨vN, vS, vP, vT, hb, hN, hS, hP, hT, fun k => Iff.rfl⟩, s1, s2⟩, ?_, hc.mono (fun k _ e => by subst e; exact h.self)⟩
  rintro k (rfl | h1 | h1 | h1 | h1)
  · exact .inl h.self
  · exact fN k h1
  · exact fS k h1
  · exact fP k h1
  · exact fT k h1
end Go.Proofs.YtahdldbfcjbklaaGreat
