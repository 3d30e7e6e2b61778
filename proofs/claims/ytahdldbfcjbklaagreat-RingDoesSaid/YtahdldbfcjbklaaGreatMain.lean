/- Whatever is begun, ended, cut off, edited and opened anew, a ring's states, answers and file are as the document says: the law returns true at every input. No condition. -/
import Derived.Test.YtahdldbfcjbklaaGreatLaw6
import Derived.Test.YtahdldbfcjbklaaGreatRows
import Derived.ProofKit
import Derived.SizedLaws
import Derived.Deep.Slices
import Derived.Deep.Fields
import Derived.Below
import Derived.ChangeSame
namespace Go.Proofs.YtahdldbfcjbklaaGreat
open Go.ChangeShapes Go.WideShapes Go.ChangeAt Go.RowKit Go.Deep

theorem Tryz.own : ownKnob Tryz.prog.godebug = none := by kernel_rfl
theorem Tryz.laidOut : laidOutB Tryz.prog = true := by kernel_rfl
theorem Tryz.cellsAct : Tryz.prog.cellsOf 37 = 3 := by kernel_rfl

section
variable {H : Type} {enc : TypeId × Value → H} {w : World} {base : Nat} {spare : Nat → Bool} {held : Bool}
set_option maxRecDepth 100000 in
/-- one act in memory -/
theorem open_act {n : Nat} {a : Addr} {y : DataW H × List MemPlace} {cs : List Value} (hc : w.cells? base a 3 = some cs) (h : DataW.trod enc Tryz.prog w base spare held n 37 cs = some y) :
    ∃ (k m : Int) (s : Bs), w.cell? a = some (.int .i64 k) ∧ w.cell? (a.add 1) = some (.int .i64 m) ∧ w.cell? (a.add 2) = some (vs s) ∧ (-9223372036854775808 ≤ m ∧ m ≤ 9223372036854775807) ∧ s.length ≤ 9223372036854775807 := by
  obtain ⟨_, hlen, hat⟩ := World.cells?_some hc
  obtain ⟨ys, n', _, _, _, hyl, hf⟩ := DataW.trod_struct Tryz.underlying37 h
  match cs, hlen with
  | [c0, c1, c2], _ =>
    have g0 : DataW.trod enc Tryz.prog w base spare held n' 3 (List.take (Tryz.prog.cellsOf 3) (List.drop 0 [c0, c1, c2])) = ys[0]? := hf 0 _ rfl
    have g1 : DataW.trod enc Tryz.prog w base spare held n' 3 (List.take (Tryz.prog.cellsOf 3) (List.drop 1 [c0, c1, c2])) = ys[1]? := hf 1 _ rfl
    have g2 : DataW.trod enc Tryz.prog w base spare held n' 9 (List.take (Tryz.prog.cellsOf 9) (List.drop 2 [c0, c1, c2])) = ys[2]? := hf 2 _ rfl
    have hone : ∀ t, t = 3 ∨ t = 9 → Tryz.prog.cellsOf t = 1 := by
      intro t ht
      rcases ht with rfl | rfl <;> kernel_rfl
    simp only [hone 3 (.inl rfl), hone 9 (.inr rfl), List.drop_zero, List.drop_succ_cons, List.take_succ_cons, List.take_zero] at g0 g1 g2
    match ys, hyl with
    | [y0, y1, y2], _ =>
      simp only [List.getElem?_cons_zero, List.getElem?_cons_succ] at g0 g1 g2
      obtain ⟨k, hk, _, _⟩ := DataW.trod_int Tryz.underlying3 g0
      obtain ⟨m, hm, _, wm⟩ := DataW.trod_int Tryz.underlying3 g1
      obtain ⟨s, hs, _, ws⟩ := DataW.trod_string Tryz.underlying9 g2
      have e0 := hat 0 (by omega)
      have e1 := hat 1 (by omega)
      have e2 := hat 2 (by omega)
      simp only [List.cons.injEq, and_true] at hk hm hs
      subst hk; subst hm; subst hs
      refine ⟨k, m, s.data.toList, by simpa [Addr.add] using e0, by simpa using e1, by simpa using e2, ?_, by
        have h3 : s.size ≤ 9223372036854775807 := by have h4 := ws; unfold maxLen at h4; omega
        show s.data.toList.length ≤ _
        rw [Array.length_toList]; exact h3⟩
      have h1 : IntKind.i64.min = -9223372036854775808 := rfl
      have h2 : IntKind.i64.max = 9223372036854775807 := rfl
      simp only [Lit.wf, Bool.and_eq_true, decide_eq_true_eq] at wm
      omega
end
theorem list_of {α : Type} (n : Nat) (P : Nat → α → Prop) (h : ∀ i, i < n → ∃ y, P i y) : ∃ l : List α, l.length = n ∧ ∀ i y, l[i]? = some y → P i y := by
  induction n with
  | zero => exact ⟨[], rfl, fun i y h => by simp at h⟩
  | succ n ih =>
    obtain ⟨l, hl, hP⟩ := ih (fun i hi => h i (by omega))
    obtain ⟨y, hy⟩ := h n (by omega)
    refine ⟨l ++ [y], by simp [hl], fun i z hz => ?_⟩
    by_cases hi : i < n
    · rw [List.getElem?_append_left (by omega)] at hz
      exact hP i z hz
    · rw [List.getElem?_append_right (by omega)] at hz
      have hi2 : i = n := by
        by_cases h3 : i - l.length = 0
        · omega
        · rw [List.getElem?_eq_none (by simp; omega)] at hz; cases hz
      subst hi2
      rw [hl] at hz
      simp at hz
      subst hz
      exact hy

set_option maxRecDepth 100000 in
theorem f_lifted (os : Os) (started : os.Started) (H : Type) (enc : TypeId × Value → H) :
    ReturnsInHanded {} Tryz.checked os 3 .any (Rows.ringDoesSpec.pre6 enc Tryz.prog Tryz.f3 Rows.ringDoesRow.domain false) (Rows.ringDoesSpec.post enc Tryz.prog Tryz.f3 false true false false) := by
  refine returnsInHanded_of_change (C := Tryz.checked) Tryz.own started (by kernel_rfl) Tryz.func3
    (ChangeSpec.witness6 (enc := enc) (C := Tryz.checked) false ⟨#[], #[.slice none 0 0, .int .u64 0], []⟩ 8 (by kernel_rfl) (by kernel_rfl) (by kernel_rfl) (by kernel_rfl)) ?_
  intro W base args ds gs before hval0 hW _ _
  have hval : ∀ (j : Nat) t v, Tryz.f3.params[j]? = some t → args[j]? = some v → Value.okWide Tryz.prog W .any base t v := hval0
  have hW' := hW
  obtain ⟨p, q, hA0, hV, rfl, hfz, hnd⟩ := hW
  have hA : DataW.TrodAll enc Tryz.prog W 0 (fun _ => true) true Tryz.f3.params.toList args.toList ds p := hA0
  rw [Tryz.params3] at hA hval
  obtain ⟨v0, v1, d0, d1, p0, p1, rfl, rfl, rfl, h0, h1⟩ := trodAll_two hA
  obtain ⟨rfl, rfl⟩ := trodVars_none hV
  obtain ⟨a0, len, cap, rfl⟩ := okWide_slice Tryz.underlying22 (hval 0 22 v0 rfl rfl)
  obtain ⟨ep, rfl, rfl, rfl, wep⟩ := open_int Tryz.underlying23 (hval 1 23 v1 rfl rfl) h1
  have h0k := h0
  obtain ⟨fuel, hf⟩ := h0
  clear hA0 hval0
  simp only [List.append_nil] at hW'
  have hlt : ∀ x ∈ p0, x.block < W.heap.size := fun x hx => by simpa using hW'.lt x (by simpa using hx)
  have hep : 0 ≤ ep ∧ ep ≤ 18446744073709551615 := by
    have e1 : IntKind.u64.min = 0 := rfl
    have e2 : IntKind.u64.max = 18446744073709551615 := rfl
    simp only [Lit.wf, Bool.and_eq_true, decide_eq_true_eq] at wep
    omega
  obtain ⟨epn, rfl⟩ : ∃ n : Nat, ep = n := ⟨ep.toNat, by omega⟩
  have fin : ∀ (W' : World), Below W.heap.size W W' → Rows.ringDoesSpec.post enc Tryz.checked.prog Tryz.f3 false true false false W #[.slice a0 len cap, .int .u64 epn] (.bool true) W' := by
    intro W' hnx
    refine ⟨_, _, _, [] ++ [], p0 ++ [], [], hW', trodAll_mk1 (shut_bool Tryz.underlying4 true), ?_, rfl, hnx.frame _, fun h => by cases h⟩
    exact trodAll_mk2 (Below.trod Tryz.laidOut (by kernel_rfl) (of_decide_eq_true (by kernel_rfl)) h0k hnx hlt) (shut_int Tryz.underlying23 wep)
  have hacts : ∃ acts, ActsAt W W.heap.size (.slice a0 len cap) acts := by
    rcases open_slice Tryz.underlying22 hf with ⟨hcs, hx⟩ | ⟨a, len', cap', m, n, D, Pl, hcs, hb, hl, hm, hmm, hx, hi⟩
    · simp [Value.cells] at hcs
      obtain ⟨rfl, rfl, rfl⟩ := hcs
      exact ⟨[], none, 0, rfl, by simp, by simp, by omega, fun i y h => by simp at h⟩
    · simp [Value.cells] at hcs
      obtain ⟨rfl, rfl, rfl⟩ := hcs
      simp only [if_true] at hmm
      subst hmm
      simp only [Tryz.cellsAct] at hi hx
      simp only [Prod.mk.injEq] at hx
      obtain ⟨_, hp0⟩ := hx
      obtain ⟨g, off, spot⟩ := a
      obtain ⟨acts, hal, hall⟩ := list_of len (fun i (y : Int × Int × Bs) => spot = none ∧ g < W.heap.size ∧ W.cell? ⟨g, off + i * 3, none⟩ = some (.int .i64 y.1) ∧ W.cell? ⟨g, off + i * 3 + 1, none⟩ = some (.int .i64 y.2.1) ∧ W.cell? ⟨g, off + i * 3 + 2, none⟩ = some (vs y.2.2) ∧ (-9223372036854775808 ≤ y.2.1 ∧ y.2.1 ≤ 9223372036854775807) ∧ y.2.2.length ≤ 9223372036854775807) (fun i hil => by
        obtain ⟨cs0, hc0, ht0⟩ := hi 0 (by omega)
        obtain ⟨_, _, _, e0, _⟩ := open_act hc0 ht0
        have hsp : spot = none := by simpa [Addr.add] using World.cell?_spot e0
        subst hsp
        obtain ⟨cs', hc, ht⟩ := hi i (by omega)
        obtain ⟨k, mm, s, e1, e2, e3, e4, e5⟩ := open_act hc ht
        have hadd : ∀ j, (⟨g, off, none⟩ : Addr).add j = ⟨g, off + j, none⟩ := by intro j; unfold Addr.add; split <;> simp_all
        have hadd2 : ∀ o j, (⟨g, o, none⟩ : Addr).add j = ⟨g, o + j, none⟩ := by intro o j; unfold Addr.add; split <;> simp_all
        rw [hadd] at e1
        rw [hadd, hadd2] at e2 e3
        exact ⟨(k, mm, s), rfl, block_lt_of_cell e1, e1, e2, e3, e4, e5⟩)
      unfold maxLen at hm
      refine ⟨acts, some ⟨g, off, spot⟩, _, by rw [hal], by omega, by omega, by omega, fun i y hy => ?_⟩
      obtain ⟨q1, q2, q3, q4, q5, q6, q7⟩ := hall i y hy
      subst q1
      exact ⟨g, off, rfl, q2, q3, q4, q5, q6, q7⟩
  obtain ⟨acts, hact⟩ := hacts
  refine (law_walk _ acts epn (by omega) W hact).mono fun e W' ⟨he, hnx⟩ => ?_
  subst he
  exact ⟨_, rfl, fin _ hnx⟩

theorem ring_does : Rows.RingDoesSaid :=
  OpenClaim.holds_of_wide 3 Tryz.f3 rfl rfl rfl rfl rfl rfl rfl ⟨rfl, rfl, rfl, rfl, rfl⟩ rfl rfl rfl rfl rfl (by kernel_rfl) Tryz.func3 (by kernel_rfl)
    (of_decide_eq_true (by kernel_rfl)) (by unfold Func.isWrapper; first | (rw [if_pos (by decide +kernel)]; kernel_rfl) | (rw [if_neg (by decide +kernel)]; exact ⟨rfl, rfl⟩))
    (fun os started H enc _ => f_lifted os started H enc)

#print axioms ring_does
end Go.Proofs.YtahdldbfcjbklaaGreat
