/- strings.Builder inside a pack.Out; Out.Num, Out.Text; ring.row. -/
import Derived.Test.YtahdldbfcjbklaaGreatPack
import Derived.Lib.AppendStr
import Derived.Lib.Builder
import Derived.Lib.UnsafeStr
namespace Go.Proofs.YtahdldbfcjbklaaGreat
open Go.RowKit
/-- a builder whose block begins with it: what was written so far -/
def BldAt (T B : Nat) (w : World) (b : Nat) (l : (List UInt8)) : Prop :=
  B ≤ b ∧ ∃ p v, (p = .pointer none ∨ p = .pointer (some ⟨b, 0, none⟩)) ∧ w.heap[b]? = some (.cells #[p, v] T (0, 0)) ∧ w.ownsRow B 5 1 v l.length (l.map vb) ∧ v.ownBlock ≠ some b

theorem Tryz.infoBuilder : (Tryz.prog.info? 127).map (fun i => decide (i.size ≠ 0)) = some true := by kernel_rfl
theorem Tryz.liesOut : liesAt Tryz.prog Tryz.prog.depth 129 (2 / Tryz.prog.cellsOf 129) 0 127 1 = true := by kernel_rfl
theorem Tryz.noEscape (x : Value) (w : World) : (callFunc 117 #[x]).run Tryz.prog w = .ok (.value x) w := by
  rw [run_callFunc_extern Tryz.func117 (by kernel_rfl) (by kernel_rfl) (by kernel_rfl) (e := Extern.AbiNoEscape.same) (by kernel_rfl), Lib.run_noEscape]
  rfl

set_option maxRecDepth 100000 in
set_option maxHeartbeats 1000000 in
theorem copyCheck_any (B b : Nat) (l : (List UInt8)) (w : World) (h : BldAt 129 B w b l) :
    Calls Tryz.prog 110 #[.pointer (some ⟨b, 0, none⟩)] w fun e w' => e = .returned (.tuple #[]) ∧ BldAt 129 B w' b l ∧ Chg (· = b) w w' := by
  obtain ⟨hB, p, v, hp, hb, hown, hne⟩ := h
  obtain ⟨j, hj, hjs⟩ := Option.map_eq_some_iff.1 Tryz.infoBuilder
  have c0 := cell_of_row w b 0 _ _ _ hb
  have f0 := frozen_of_row w b 0 _ _ hb
  simp only [List.getElem?_toArray, List.getElem?_cons_zero] at c0
  have hsh : w.shape? b = some (129, 2) := by simp [World.shape?, hb]
  have hbs := heap_setCell_same w b 0 _ _ (.pointer (some ⟨b, 0, none⟩)) hb
  rcases hp with rfl | rfl
  · have k1 := Lib.run_to_unsafe (P := Tryz.prog) w ⟨b, 0, none⟩ Tryz.underlying125 Tryz.underlying161 hj (by simpa using hjs) hsh (Nat.zero_lt_succ 1)
    have k2 := fun x => Tryz.noEscape x w
    have k3 := Lib.run_from_unsafe (P := Tryz.prog) w ⟨b, 0, none⟩ Tryz.underlying161 Tryz.underlying125 hj hsh Tryz.liesOut
    have k4 := fun w => Lib.run_neq_ptr_same (P := Tryz.prog) w ⟨b, 0, none⟩ Tryz.underlying125 hj
    have HB := Lib.hid hb; have HO := Lib.hid hown; have HN := Lib.hid hne; have HS := Lib.hid hbs
    clear hb hown hne hbs hsh hj hjs
    go_enter Tryz.func110, Tryz.ntmps110
    go_wp2
    go_end0
    exact ⟨rfl, ⟨hB, _, v, .inr rfl, HS.out, ownsRow_chg HO.out (chg1 _ _ _ _) (fun k hk he => HN.out (by rw [hk, he])), HN.out⟩, chg1 _ _ _ _⟩
  · have k4 := fun w => Lib.run_neq_ptr_same (P := Tryz.prog) w ⟨b, 0, none⟩ Tryz.underlying125 hj
    have HB := Lib.hid hb; have HO := Lib.hid hown; have HN := Lib.hid hne
    clear hb hown hne hbs hsh hj hjs
    go_enter Tryz.func110, Tryz.ntmps110
    go_wp2
    go_end0
    exact ⟨rfl, ⟨hB, _, v, .inr rfl, HB.out, HO.out, HN.out⟩, Chg.refl _ _⟩

theorem strCells_vs (s : List UInt8) : Lib.strCells ⟨s.toArray⟩ = s.map vb := rfl

set_option maxRecDepth 100000 in
set_option maxHeartbeats 1000000 in
theorem writeString_any (B b : Nat) (l s : List UInt8) (hsz : l.length + s.length ≤ 1099511627776) (w : World) (hBw : B ≤ w.heap.size) (h : BldAt 129 B w b l) :
    Calls Tryz.prog 97 #[.pointer (some ⟨b, 0, none⟩), vs s] w fun e w' => e = .returned (.tuple #[.int .i64 s.length, .nilIface]) ∧ BldAt 129 B w' b (l ++ s) ∧ Below B w w' := by
  obtain ⟨i, hi, hz, hs1, hby⟩ := info_parts Tryz.infoByte
  have HI := Lib.hid hi; have HZ := Lib.hid hz; have HS1 := Lib.hid hs1; have HBY := Lib.hid hby
  clear hi hz hs1 hby
  go_enter Tryz.func97, Tryz.ntmps97
  go_wp2_with fail
  refine (copyCheck_any B b l w h).mono ?_
  rintro e w1 ⟨rfl, ⟨hB, p, v, hp, hb, hown, hne⟩, hch⟩
  have c0 := cell_of_row w1 b 0 _ _ _ hb
  have c1 := cell_of_row w1 b 1 _ _ _ hb
  have f1 := frozen_of_row w1 b 1 _ _ hb
  simp only [List.getElem?_toArray, List.getElem?_cons_zero, List.getElem?_cons_succ] at c0 c1
  have HB := Lib.hid hb; have HN := Lib.hid hne; clear hb hne h
  have hBw1 : B ≤ w1.heap.size := Nat.le_trans hBw hch.size
  go_wp2_with (at_builtin; refine Lib.wpList_append_own_string w1 rfl (.tmp 12) (.tmp 13) 121 9 rfl B 5 i Tryz.underlying121 Tryz.underlying9 HI.out HZ.out HS1.out HBY.out v l.length _ rfl hown ⟨s.toArray⟩ rfl ?c1 ?c2 hBw1 (fun v' w2 hown' hgrow _ => ?_); rotate_right; obtain ⟨va, vn, vc, rfl⟩ := ownsRow_slice hown'; have hb2 := (hgrow.block b (lt_of_heap HB.out) (fun e => HN.out e.symm)).trans HB.out; have c1' := cell_of_row w2 b 1 _ _ _ hb2; have f1' := frozen_of_row w2 b 1 _ _ hb2; simp only [List.getElem?_toArray, List.getElem?_cons_zero, List.getElem?_cons_succ] at c1'; have HB2 := Lib.hid hb2; clear hb2)
  case c1 => simp [ByteArray.size, maxLen]; omega
  case c2 => simp [ByteArray.size]; omega
  go_ret2
  have hne2 := own_ne hown' HB2.out (by decide)
  have hs2 : (⟨s.toArray⟩ : ByteArray).size = s.length := rfl
  rw [hs2, strCells_vs, ← List.map_append, ← List.length_append] at hown'
  refine ⟨rfl, ⟨hB, p, _, hp, heap_setCell_same _ _ _ _ _ _ HB2.out, ownsRow_chg hown' (chg1 _ _ _ _) (fun k hk he => hne2 (by rw [hk, he])), hne2⟩, ?_⟩
  exact ((hch.below hBw (fun k hk => by subst hk; exact hB)).trans (below_grown hgrow hBw1 (fun k hk => (hown.lt k hk).1))).setCell hB _

set_option maxRecDepth 100000 in
set_option maxHeartbeats 1000000 in
theorem bldString_any (B b : Nat) (l : List UInt8) (h0 : l ≠ []) (w : World) (h : BldAt 129 B w b l) :
    Calls Tryz.prog 89 #[.pointer (some ⟨b, 0, none⟩)] w fun e w' => e = .returned (vs l) ∧ Below B w w' := by
  obtain ⟨hB, p, v, hp, hbk, hown, hne⟩ := h
  have hl0 : l.length ≠ 0 := by simpa using h0
  obtain ⟨g, cap, cur, rfl, hbg, hg, hnc, hcm, hcs, htake⟩ : ∃ g cap cur, v = .slice (some ⟨g, 0, none⟩) l.length cap ∧ B ≤ g ∧ w.heap[g]? = some (.cells cur 5 (0, 0)) ∧ l.length ≤ cap ∧ cap ≤ maxLen ∧ cur.size = cap * 1 ∧ cur.toList.take (l.length * 1) = l.map vb := by
    rcases hown.2 with ⟨_, hz⟩ | ⟨g, cap, cur, hv, r⟩
    · exact absurd hz hl0
    · exact ⟨g, cap, cur, hv, r⟩
  have c1 : w.drew.cell? ⟨b, 1, none⟩ = some (.slice (some ⟨g, 0, none⟩) l.length cap) := cell_of_row w b 1 _ _ _ hbk
  have hSD : (Builtin.unsafeSliceData_ #[121] 143 #[.slice (some ⟨g, 0, none⟩) l.length cap]).run Tryz.prog w.drew = .ok (.pointer (some ⟨g, 0, none⟩)) w.drew :=
    Lib.run_unsafeSliceData_row _ _ _ _ _ _ (by omega)
  have hUS : (Builtin.unsafeString_ #[143, 3] 9 #[.pointer (some ⟨g, 0, none⟩), .int .i64 l.length]).run Tryz.prog w.drew = .ok (vs l) (w.drew.freeze ⟨g, 0, none⟩ l.length) := by
    refine Lib.run_unsafeString_row w.drew 143 3 9 5 Tryz.underlying143 (by kernel_rfl) g cur.size (by have hg' : w.drew.heap[g]? = some (.cells cur 5 (0, 0)) := hg; simp [World.shape?, hg']) l h0 (by omega) (by unfold maxLen at hcm; omega) ?_
    intro j x hx
    have := hown.cells (g := g) rfl j (.int .u8 x.toNat) (by simp [hx, vb])
    exact this
  clear hown hbk hg htake hcs hne hp
  go_enter Tryz.func89, Tryz.ntmps89
  go_wp2
  go_region
  all_goals (go_wp2; go_ret; exact ⟨rfl, Lib.below_freeze (Below.drew (Below.refl B w)) (p := ⟨g, 0, none⟩) hbg _⟩)
end Go.Proofs.YtahdldbfcjbklaaGreat
