/- RingDoes: the law's walk. -/
import Derived.Test.YtahdldbfcjbklaaGreatLaw4
import Derived.Deep.CutBlock
namespace Go.Proofs.YtahdldbfcjbklaaGreat
open Go.RowKit
/-- both sides; besides a block that neither side has -/
structure LawMid (B q : Nat) (ob : Option Obj) (w : World) (b x : Nat) (d d2 : DS) (o o2 : Option (List Rw)) (va vb : Value) : Prop where
  ex : ∃ FA FB, SideA w FA b d o va ∧ SideB w FB x d2 o2 vb ∧ (∀ k, FA k → ¬ FB k) ∧ (∀ k, FA k → B ≤ k) ∧ (∀ k, FB k → B ≤ k) ∧ (∀ z, ob = some z → w.heap[q]? = some z ∧ ¬ FA q ∧ ¬ FB q)
/-- both sides, in the same state -/
abbrev LawAt (B q : Nat) (ob : Option Obj) (w : World) (b x : Nat) (d : DS) (o : Option (List Rw)) (va vb : Value) : Prop := LawMid B q ob w b x d d o o va vb
theorem LawMid.keptB {B q : Nat} {ob : Option Obj} {w w' : World} {b x : Nat} {d d2 : DS} {o o2 : Option (List Rw)} {va vb : Value} (h : LawMid B q ob w b x d d2 o o2 va vb) (hb : Below w.heap.size w w') : LawMid B q ob w' b x d d2 o o2 va vb := by
  obtain ⟨FA, FB, h1, h2, h3, h4, h5, h6⟩ := h.ex
  exact ⟨FA, FB, h1.keptB hb, h2.keptB hb, h3, h4, h5, fun z hz => ⟨(hb.block q (lt_of_heap (h6 z hz).1)).trans (h6 z hz).1, (h6 z hz).2⟩⟩
theorem LawMid.plain {B q : Nat} {ob : Option Obj} {w : World} {b x : Nat} {d d2 : DS} {o o2 : Option (List Rw)} {va vb : Value} (h : LawMid B q ob w b x d d2 o o2 va vb) : LawMid B 0 none w b x d d2 o o2 va vb := by
  obtain ⟨FA, FB, h1, h2, h3, h4, h5, h6⟩ := h.ex
  exact ⟨FA, FB, h1, h2, h3, h4, h5, fun z hz => by cases hz⟩
theorem LawMid.boxed {B : Nat} {w : World} {b x : Nat} {d d2 : DS} {o o2 : Option (List Rw)} {va vb : Value} (h : LawMid B 0 none w b x d d2 o o2 va vb) (ob : Obj) : LawMid B w.heap.size (some ob) (w.alloc ob) b x d d2 o o2 va vb := by
  obtain ⟨FA, FB, h1, h2, h3, h4, h5, h6⟩ := h.ex
  have hb := (Below.refl w.heap.size w).alloc (Nat.le_refl _) ob
  exact ⟨FA, FB, h1.keptB hb, h2.keptB hb, h3, h4, h5, fun z hz => by
    cases hz
    exact ⟨heap_alloc_new w _, fun h => by have := h1.lt _ h; omega, fun h => by have := h2.lt _ h; omega⟩⟩
theorem LawMid.box {B q : Nat} {z : Obj} {w : World} {b x : Nat} {d d2 : DS} {o o2 : Option (List Rw)} {va vb : Value} (h : LawMid B q (some z) w b x d d2 o o2 va vb) : w.heap[q]? = some z := by
  obtain ⟨FA, FB, h1, h2, h3, h4, h5, h6⟩ := h.ex
  exact (h6 z rfl).1
/-- what a step of A's leaves of both -/
theorem LawMid.stepA {B q : Nat} {ob : Option Obj} {w : World} {b x : Nat} {d d2 : DS} {o o2 : Option (List Rw)} {va vb : Value} (h : LawMid B q ob w b x d d2 o o2 va vb) (hB : B ≤ w.heap.size) {f : Nat} {args : Array Value} {R : Ending → Prop} {d' : DS} {o' : Option (List Rw)} {va' : Ending → Value → Prop}
    (hc : ∀ F, SideA w F b d o va → Calls Tryz.prog f args w fun e w' => ∃ v, R e ∧ va' e v ∧ SideATo w F b d' o' v w') : Calls Tryz.prog f args w fun e w' => ∃ v, R e ∧ va' e v ∧ LawMid B q ob w' b x d' d2 o' o2 v vb ∧ Below B w w' := by
  obtain ⟨FA, FB, h1, h2, h3, h4, h5, h6⟩ := h.ex
  refine (hc FA h1).mono ?_
  rintro e w' ⟨v, r1, r2, ⟨FA', q1, q2⟩, q3⟩
  refine ⟨v, r1, r2, ⟨FA', FB, q1, h2.kept q3 (fun k hk hx => h3 k hx hk), fun k hk hx => ?_, fun k hk => (q2 k hk).elim (h4 k) (fun h => by omega), h5, fun z hz => ?_⟩, q3.below hB h4⟩
  · rcases q2 k hk with hk | hk
    · exact h3 k hk hx
    · have := h2.lt k hx; omega
  · obtain ⟨a1, a2, a3⟩ := h6 z hz
    have hlt := lt_of_heap a1
    exact ⟨(q3.block q hlt a2).trans a1, fun h => (q2 q h).elim a2 (fun h => by omega), a3⟩
theorem LawMid.stepB {B q : Nat} {ob : Option Obj} {w : World} {b x : Nat} {d d2 : DS} {o o2 : Option (List Rw)} {va vb : Value} (h : LawMid B q ob w b x d d2 o o2 va vb) (hB : B ≤ w.heap.size) {f : Nat} {args : Array Value} {R : Ending → Prop} {d2' : DS} {o2' : Option (List Rw)} {vb' : Ending → Value → Prop}
    (hc : ∀ F, SideB w F x d2 o2 vb → Calls Tryz.prog f args w fun e w' => ∃ v, R e ∧ vb' e v ∧ SideBTo w F x d2' o2' v w') : Calls Tryz.prog f args w fun e w' => ∃ v, R e ∧ vb' e v ∧ LawMid B q ob w' b x d d2' o o2' va v ∧ Below B w w' := by
  obtain ⟨FA, FB, h1, h2, h3, h4, h5, h6⟩ := h.ex
  refine (hc FB h2).mono ?_
  rintro e w' ⟨v, r1, r2, ⟨FB', q1, q2⟩, q3⟩
  refine ⟨v, r1, r2, ⟨FA, FB', h1.kept q3 (fun k hk hx => h3 k hk hx), q1, fun k hk hx => ?_, h4, fun k hk => (q2 k hk).elim (h5 k) (fun h => by omega), fun z hz => ?_⟩, q3.below hB h5⟩
  · rcases q2 k hx with hx | hx
    · exact h3 k hk hx
    · have := h1.lt k hk; omega
  · obtain ⟨a1, a2, a3⟩ := h6 z hz
    have hlt := lt_of_heap a1
    exact ⟨(q3.block q hlt a3).trans a1, a2, fun h => (q2 q h).elim a3 (fun h => by omega)⟩
theorem LawMid.fuseA' {B q : Nat} {ob : Option Obj} {w : World} {b x : Nat} {d d2 : DS} {o o2 : Option (List Rw)} {va vb : Value} (h : LawMid B q ob w b x d d2 o o2 va vb) (hB : B ≤ w.heap.size) (n : Int) :
    Calls Tryz.prog 14 #[.pointer (some ⟨b, 0, none⟩), .int .i64 n] w fun e w' => e = .returned (.tuple #[]) ∧ LawMid B q ob w' b x (d.setFuse n) d2 o o2 va vb ∧ Below B w w' := by
  refine (h.stepA hB (R := fun e => e = .returned (.tuple #[])) (va' := fun _ v => v = va) (fun F hF => (fuseA w F b d o va n hF).mono fun e w' hh => ⟨va, hh.1, rfl, hh.2⟩)).mono ?_
  rintro e w' ⟨v, r1, rfl, r3, r4⟩
  exact ⟨r1, r3, r4⟩
theorem LawMid.quotaA' {B q : Nat} {ob : Option Obj} {w : World} {b x : Nat} {d d2 : DS} {o o2 : Option (List Rw)} {va vb : Value} (h : LawMid B q ob w b x d d2 o o2 va vb) (hB : B ≤ w.heap.size) (n : Int) :
    Calls Tryz.prog 18 #[.pointer (some ⟨b, 0, none⟩), .int .i64 n] w fun e w' => e = .returned (.tuple #[]) ∧ LawMid B q ob w' b x (d.setQuota n) d2 o o2 va vb ∧ Below B w w' := by
  refine (h.stepA hB (R := fun e => e = .returned (.tuple #[])) (va' := fun _ v => v = va) (fun F hF => (quotaA w F b d o va n hF).mono fun e w' hh => ⟨va, hh.1, rfl, hh.2⟩)).mono ?_
  rintro e w' ⟨v, r1, rfl, r3, r4⟩
  exact ⟨r1, r3, r4⟩
theorem LawMid.crashA' {B q : Nat} {ob : Option Obj} {w : World} {b x : Nat} {d d2 : DS} {o o2 : Option (List Rw)} {va vb : Value} (h : LawMid B q ob w b x d d2 o o2 va vb) (hB : B ≤ w.heap.size) (n : Int) {V K : Nat} (hR : RD V K d) (hV : V ≤ 100000000) (hK : K ≤ 100000000) :
    Calls Tryz.prog 16 #[.pointer (some ⟨b, 0, none⟩), .int .i64 n] w fun e w' => e = .returned (.tuple #[]) ∧ LawMid B q ob w' b x (d.crash n) d2 o o2 va vb ∧ Below B w w' := by
  refine (h.stepA hB (R := fun e => e = .returned (.tuple #[])) (va' := fun _ v => v = va) (fun F hF => (crashA w F b d o va n hF hR hV hK).mono fun e w' hh => ⟨va, hh.1, rfl, hh.2⟩)).mono ?_
  rintro e w' ⟨v, r1, rfl, r3, r4⟩
  exact ⟨r1, r3, r4⟩
theorem LawMid.editA' {B q : Nat} {ob : Option Obj} {w : World} {b x : Nat} {d d2 : DS} {o o2 : Option (List Rw)} {va vb : Value} (h : LawMid B q ob w b x d d2 o o2 va vb) (hB : B ≤ w.heap.size) (t : Bs) {V K : Nat} (hR : RD V K d) :
    Calls Tryz.prog 20 #[.pointer (some ⟨b, 0, none⟩), vs ringN, vs t] w fun e w' => e = .returned (.int .i64 ((d.edit ringN t).2 : Nat)) ∧ LawMid B q ob w' b x ((d.edit ringN t).1) d2 o o2 va vb ∧ Below B w w' := by
  refine (h.stepA hB (R := fun e => e = .returned (.int .i64 ((d.edit ringN t).2 : Nat))) (va' := fun _ v => v = va) (fun F hF => (editA w F b d o va t hF hR).mono fun e w' hh => ⟨va, hh.1, rfl, hh.2⟩)).mono ?_
  rintro e w' ⟨v, r1, rfl, r3, r4⟩
  exact ⟨r1, r3, r4⟩
theorem LawMid.openA' {B q : Nat} {ob : Option Obj} {w : World} {b x : Nat} {d d2 : DS} {o o2 : Option (List Rw)} {va vb : Value} (h : LawMid B q ob w b x d d2 o o2 va vb) (hB : B ≤ w.heap.size) {V K : Nat} (hR : RD V K d) (hV : V ≤ 100000000) (hK : K ≤ 100000000) :
    Calls Tryz.prog 7 #[.pointer (some ⟨b, 0, none⟩)] w fun e w' => ∃ v, e = .returned (.tuple #[v, .int .i64 ((openR d).2.2 : Nat)]) ∧ LawMid B q ob w' b x (openR d).1 d2 (openR d).2.1 o2 v vb ∧ Below B w w' := by
  refine (h.stepA hB (R := fun _ => True) (va' := fun e v => e = .returned (.tuple #[v, .int .i64 ((openR d).2.2 : Nat)])) (fun F hF => (openA w F b d _ _ hF hR hV hK).mono fun e w' hh => hh.elim fun v hv => ⟨v, trivial, hv.1, hv.2⟩)).mono ?_
  rintro e w' ⟨v, -, r2, r3, r4⟩
  exact ⟨v, r2, r3, r4⟩
theorem LawMid.beginA' {B q : Nat} {ob : Option Obj} {w : World} {b x : Nat} {d d2 : DS} {o2 : Option (List Rw)} {vb : Value} {L : List Rw} {r : Nat} (h : LawMid B q ob w b x d d2 (some L) o2 (.pointer (some ⟨r, 0, none⟩)) vb) (hB : B ≤ w.heap.size) (k : Bs) {V K N : Nat} (hR : RD V K d) (hL : LOk N L) (hV : V ≤ 100000000) (hK : K ≤ 100000000) (hN : N ≤ 100000000) (hk : k.length ≤ 1000) :
    Calls Tryz.prog 10 #[.pointer (some ⟨r, 0, none⟩), vs k] w fun e w' => e = .returned (.tuple #[.int .u64 ((beginR d L k).2.2.1 : Nat), .int .i64 ((beginR d L k).2.2.2 : Nat)]) ∧ LawMid B q ob w' b x (beginR d L k).1 d2 (some (beginR d L k).2.1) o2 (.pointer (some ⟨r, 0, none⟩)) vb ∧ Below B w w' := by
  refine (h.stepA hB (R := fun e => e = .returned (.tuple #[.int .u64 ((beginR d L k).2.2.1 : Nat), .int .i64 ((beginR d L k).2.2.2 : Nat)])) (va' := fun _ v => v = .pointer (some ⟨r, 0, none⟩)) (fun F hF => (beginA w F b d L r k hF hR hL hV hK hN hk).mono fun e w' hh => ⟨_, hh.1, rfl, hh.2⟩)).mono ?_
  rintro e w' ⟨v, r1, rfl, r3, r4⟩
  exact ⟨r1, r3, r4⟩
theorem LawMid.endA' {B q : Nat} {ob : Option Obj} {w : World} {b x : Nat} {d d2 : DS} {o2 : Option (List Rw)} {vb : Value} {L : List Rw} {r : Nat} (h : LawMid B q ob w b x d d2 (some L) o2 (.pointer (some ⟨r, 0, none⟩)) vb) (hB : B ≤ w.heap.size) (k : Bs) {V K N : Nat} (hR : RD V K d) (hL : LOk N L) (hV : V ≤ 100000000) (hK : K ≤ 100000000) (hN : N ≤ 100000000) (hk : k.length ≤ 1000) :
    Calls Tryz.prog 12 #[.pointer (some ⟨r, 0, none⟩), vs k] w fun e w' => e = .returned (.int .i64 ((endR d L k).2.2 : Nat)) ∧ LawMid B q ob w' b x (endR d L k).1 d2 (some (endR d L k).2.1) o2 (.pointer (some ⟨r, 0, none⟩)) vb ∧ Below B w w' := by
  refine (h.stepA hB (R := fun e => e = .returned (.int .i64 ((endR d L k).2.2 : Nat))) (va' := fun _ v => v = .pointer (some ⟨r, 0, none⟩)) (fun F hF => (endA w F b d L r k hF hR hL hV hK hN hk).mono fun e w' hh => ⟨_, hh.1, rfl, hh.2⟩)).mono ?_
  rintro e w' ⟨v, r1, rfl, r3, r4⟩
  exact ⟨r1, r3, r4⟩
theorem LawMid.readA' {B q : Nat} {ob : Option Obj} {w : World} {b x : Nat} {d d2 : DS} {o o2 : Option (List Rw)} {va vb : Value} (h : LawMid B q ob w b x d d2 o o2 va vb) {V K : Nat} (hR : RD V K d) :
    Calls Tryz.prog 22 #[.pointer (some ⟨b, 0, none⟩), vs ringN] w fun e w' => e = .returned (.tuple #[vs (d.read ringN).1, .int .i64 (d.read ringN).2]) ∧ w = w' := by
  obtain ⟨FA, FB, h1, h2, h3⟩ := h.ex
  exact readA w _ b d _ _ h1 hR
theorem LawMid.stateA' {B q : Nat} {ob : Option Obj} {w : World} {b x : Nat} {d d2 : DS} {o2 : Option (List Rw)} {vb : Value} {L : List Rw} {r : Nat} (h : LawMid B q ob w b x d d2 (some L) o2 (.pointer (some ⟨r, 0, none⟩)) vb) (k : Bs) {N : Nat} (hL : LOk N L) (hN : N ≤ 100000000) :
    Calls Tryz.prog 27 #[.pointer (some ⟨r, 0, none⟩), vs k] w fun e w' => e = .returned (.agg #[.int .u64 (stR L k).1, .int .u64 (stR L k).2]) ∧ Below w.heap.size w w' := by
  obtain ⟨FA, FB, h1, h2, h3⟩ := h.ex
  exact stateA w _ b d L r k h1 hL hN
theorem LawMid.liveA' {B q : Nat} {ob : Option Obj} {w : World} {b x : Nat} {d d2 : DS} {o2 : Option (List Rw)} {vb : Value} {L : List Rw} {r : Nat} (h : LawMid B q ob w b x d d2 (some L) o2 (.pointer (some ⟨r, 0, none⟩)) vb) (k : Bs) (ep : Nat) {N : Nat} (hL : LOk N L) (hN : N ≤ 100000000) :
    Calls Tryz.prog 31 #[.pointer (some ⟨r, 0, none⟩), vs k, .int .u64 ep] w fun e w' => e = .returned (.bool (liveR (stR L k) ep)) ∧ Below w.heap.size w w' := by
  obtain ⟨FA, FB, h1, h2, h3⟩ := h.ex
  exact liveA w _ b d L r k ep h1 hL hN
theorem LawMid.domainsA' {B q : Nat} {ob : Option Obj} {w : World} {b x : Nat} {d d2 : DS} {o2 : Option (List Rw)} {vb : Value} {L : List Rw} {r : Nat} (h : LawMid B q ob w b x d d2 (some L) o2 (.pointer (some ⟨r, 0, none⟩)) vb) {N : Nat} (hL : LOk N L) (hN : N ≤ 100000000) :
    Calls Tryz.prog 29 #[.pointer (some ⟨r, 0, none⟩)] w fun e w' => ∃ v, e = .returned v ∧ NamesV w' w.heap.size v (domR L) ∧ Below w.heap.size w w' := by
  obtain ⟨FA, FB, h1, h2, h3⟩ := h.ex
  exact domainsA w _ b d L r h1 hL hN
theorem LawMid.fuseB' {B q : Nat} {ob : Option Obj} {w : World} {b x : Nat} {d d2 : DS} {o o2 : Option (List Rw)} {va vb : Value} (h : LawMid B q ob w b x d d2 o o2 va vb) (hB : B ≤ w.heap.size) (n : Int) :
    Calls Tryz.prog 15 #[.pointer (some ⟨x, 0, none⟩), .int .i64 n] w fun e w' => e = .returned (.tuple #[]) ∧ LawMid B q ob w' b x d (d2.setFuse n) o o2 va vb ∧ Below B w w' := by
  refine (h.stepB hB (R := fun e => e = .returned (.tuple #[])) (vb' := fun _ v => v = vb) (fun F hF => (fuseB w F x d2 o2 vb n hF).mono fun e w' hh => ⟨vb, hh.1, rfl, hh.2⟩)).mono ?_
  rintro e w' ⟨v, r1, rfl, r3, r4⟩
  exact ⟨r1, r3, r4⟩
theorem LawMid.quotaB' {B q : Nat} {ob : Option Obj} {w : World} {b x : Nat} {d d2 : DS} {o o2 : Option (List Rw)} {va vb : Value} (h : LawMid B q ob w b x d d2 o o2 va vb) (hB : B ≤ w.heap.size) (n : Int) :
    Calls Tryz.prog 19 #[.pointer (some ⟨x, 0, none⟩), .int .i64 n] w fun e w' => e = .returned (.tuple #[]) ∧ LawMid B q ob w' b x d (d2.setQuota n) o o2 va vb ∧ Below B w w' := by
  refine (h.stepB hB (R := fun e => e = .returned (.tuple #[])) (vb' := fun _ v => v = vb) (fun F hF => (quotaB w F x d2 o2 vb n hF).mono fun e w' hh => ⟨vb, hh.1, rfl, hh.2⟩)).mono ?_
  rintro e w' ⟨v, r1, rfl, r3, r4⟩
  exact ⟨r1, r3, r4⟩
theorem LawMid.crashB' {B q : Nat} {ob : Option Obj} {w : World} {b x : Nat} {d d2 : DS} {o o2 : Option (List Rw)} {va vb : Value} (h : LawMid B q ob w b x d d2 o o2 va vb) (hB : B ≤ w.heap.size) (n : Int) {V K : Nat} (hR : RD V K d2) (hV : V ≤ 100000000) (hK : K ≤ 100000000) :
    Calls Tryz.prog 17 #[.pointer (some ⟨x, 0, none⟩), .int .i64 n] w fun e w' => e = .returned (.tuple #[]) ∧ LawMid B q ob w' b x d (d2.crash n) o o2 va vb ∧ Below B w w' := by
  refine (h.stepB hB (R := fun e => e = .returned (.tuple #[])) (vb' := fun _ v => v = vb) (fun F hF => (crashB w F x d2 o2 vb n hF hR hV hK).mono fun e w' hh => ⟨vb, hh.1, rfl, hh.2⟩)).mono ?_
  rintro e w' ⟨v, r1, rfl, r3, r4⟩
  exact ⟨r1, r3, r4⟩
theorem LawMid.editB' {B q : Nat} {ob : Option Obj} {w : World} {b x : Nat} {d d2 : DS} {o o2 : Option (List Rw)} {va vb : Value} (h : LawMid B q ob w b x d d2 o o2 va vb) (hB : B ≤ w.heap.size) (t : Bs) {V K : Nat} (hR : RD V K d2) :
    Calls Tryz.prog 21 #[.pointer (some ⟨x, 0, none⟩), vs ringN, vs t] w fun e w' => e = .returned (.int .i64 ((d2.edit ringN t).2 : Nat)) ∧ LawMid B q ob w' b x d ((d2.edit ringN t).1) o o2 va vb ∧ Below B w w' := by
  refine (h.stepB hB (R := fun e => e = .returned (.int .i64 ((d2.edit ringN t).2 : Nat))) (vb' := fun _ v => v = vb) (fun F hF => (editB w F x d2 o2 vb t hF hR).mono fun e w' hh => ⟨vb, hh.1, rfl, hh.2⟩)).mono ?_
  rintro e w' ⟨v, r1, rfl, r3, r4⟩
  exact ⟨r1, r3, r4⟩
theorem LawMid.openB' {B q : Nat} {ob : Option Obj} {w : World} {b x : Nat} {d d2 : DS} {o o2 : Option (List Rw)} {va vb : Value} (h : LawMid B q ob w b x d d2 o o2 va vb) (hB : B ≤ w.heap.size) {V K : Nat} (hR : RD V K d2) (hV : V ≤ 100000000) (hK : K ≤ 100000000) :
    Calls Tryz.prog 8 #[.pointer (some ⟨x, 0, none⟩)] w fun e w' => ∃ v, e = .returned (.tuple #[v, .int .i64 ((openR d2).2.2 : Nat)]) ∧ LawMid B q ob w' b x d (openR d2).1 o (openR d2).2.1 va v ∧ Below B w w' := by
  refine (h.stepB hB (R := fun _ => True) (vb' := fun e v => e = .returned (.tuple #[v, .int .i64 ((openR d2).2.2 : Nat)])) (fun F hF => (openB w F x d2 _ _ hF hR hV hK).mono fun e w' hh => hh.elim fun v hv => ⟨v, trivial, hv.1, hv.2⟩)).mono ?_
  rintro e w' ⟨v, -, r2, r3, r4⟩
  exact ⟨v, r2, r3, r4⟩
theorem LawMid.beginB' {B q : Nat} {ob : Option Obj} {w : World} {b x : Nat} {d d2 : DS} {o : Option (List Rw)} {va : Value} {L : List Rw} {r : Nat} (h : LawMid B q ob w b x d d2 o (some L) va (.pointer (some ⟨r, 0, none⟩))) (hB : B ≤ w.heap.size) (k : Bs) {V K N : Nat} (hR : RD V K d2) (hL : LOk N L) (hV : V ≤ 100000000) (hK : K ≤ 100000000) (hN : N ≤ 100000000) (hk : k.length ≤ 1000) :
    Calls Tryz.prog 11 #[.pointer (some ⟨r, 0, none⟩), vs k] w fun e w' => e = .returned (.tuple #[.int .u64 ((beginR d2 L k).2.2.1 : Nat), .int .i64 ((beginR d2 L k).2.2.2 : Nat)]) ∧ LawMid B q ob w' b x d (beginR d2 L k).1 o (some (beginR d2 L k).2.1) va (.pointer (some ⟨r, 0, none⟩)) ∧ Below B w w' := by
  refine (h.stepB hB (R := fun e => e = .returned (.tuple #[.int .u64 ((beginR d2 L k).2.2.1 : Nat), .int .i64 ((beginR d2 L k).2.2.2 : Nat)])) (vb' := fun _ v => v = .pointer (some ⟨r, 0, none⟩)) (fun F hF => (beginB w F x d2 L r k hF hR hL hV hK hN hk).mono fun e w' hh => ⟨_, hh.1, rfl, hh.2⟩)).mono ?_
  rintro e w' ⟨v, r1, rfl, r3, r4⟩
  exact ⟨r1, r3, r4⟩
theorem LawMid.endB' {B q : Nat} {ob : Option Obj} {w : World} {b x : Nat} {d d2 : DS} {o : Option (List Rw)} {va : Value} {L : List Rw} {r : Nat} (h : LawMid B q ob w b x d d2 o (some L) va (.pointer (some ⟨r, 0, none⟩))) (hB : B ≤ w.heap.size) (k : Bs) {V K N : Nat} (hR : RD V K d2) (hL : LOk N L) (hV : V ≤ 100000000) (hK : K ≤ 100000000) (hN : N ≤ 100000000) (hk : k.length ≤ 1000) :
    Calls Tryz.prog 13 #[.pointer (some ⟨r, 0, none⟩), vs k] w fun e w' => e = .returned (.int .i64 ((endR d2 L k).2.2 : Nat)) ∧ LawMid B q ob w' b x d (endR d2 L k).1 o (some (endR d2 L k).2.1) va (.pointer (some ⟨r, 0, none⟩)) ∧ Below B w w' := by
  refine (h.stepB hB (R := fun e => e = .returned (.int .i64 ((endR d2 L k).2.2 : Nat))) (vb' := fun _ v => v = .pointer (some ⟨r, 0, none⟩)) (fun F hF => (endB w F x d2 L r k hF hR hL hV hK hN hk).mono fun e w' hh => ⟨_, hh.1, rfl, hh.2⟩)).mono ?_
  rintro e w' ⟨v, r1, rfl, r3, r4⟩
  exact ⟨r1, r3, r4⟩
theorem LawMid.readB' {B q : Nat} {ob : Option Obj} {w : World} {b x : Nat} {d d2 : DS} {o o2 : Option (List Rw)} {va vb : Value} (h : LawMid B q ob w b x d d2 o o2 va vb) {V K : Nat} (hR : RD V K d2) :
    Calls Tryz.prog 23 #[.pointer (some ⟨x, 0, none⟩), vs ringN] w fun e w' => e = .returned (.tuple #[vs (d2.read ringN).1, .int .i64 (d2.read ringN).2]) ∧ w = w' := by
  obtain ⟨FA, FB, h1, h2, h3⟩ := h.ex
  exact readB w _ x d2 _ _ h2 hR
theorem LawMid.stateB' {B q : Nat} {ob : Option Obj} {w : World} {b x : Nat} {d d2 : DS} {o : Option (List Rw)} {va : Value} {L : List Rw} {r : Nat} (h : LawMid B q ob w b x d d2 o (some L) va (.pointer (some ⟨r, 0, none⟩))) (k : Bs) {N : Nat} (hL : LOk N L) (hN : N ≤ 100000000) :
    Calls Tryz.prog 26 #[.pointer (some ⟨r, 0, none⟩), vs k] w fun e w' => e = .returned (.agg #[vs k, .int .u64 (stR L k).1, .int .u64 (stR L k).2]) ∧ Below w.heap.size w w' := by
  obtain ⟨FA, FB, h1, h2, h3⟩ := h.ex
  exact stateB w _ x d2 L r k h2 hL hN
theorem LawMid.liveB' {B q : Nat} {ob : Option Obj} {w : World} {b x : Nat} {d d2 : DS} {o : Option (List Rw)} {va : Value} {L : List Rw} {r : Nat} (h : LawMid B q ob w b x d d2 o (some L) va (.pointer (some ⟨r, 0, none⟩))) (k : Bs) (ep : Nat) {N : Nat} (hL : LOk N L) (hN : N ≤ 100000000) :
    Calls Tryz.prog 32 #[.pointer (some ⟨r, 0, none⟩), vs k, .int .u64 ep] w fun e w' => e = .returned (.bool (liveR (stR L k) ep)) ∧ Below w.heap.size w w' := by
  obtain ⟨FA, FB, h1, h2, h3⟩ := h.ex
  exact liveB w _ x d2 L r k ep h2 hL hN
theorem LawMid.domainsB' {B q : Nat} {ob : Option Obj} {w : World} {b x : Nat} {d d2 : DS} {o : Option (List Rw)} {va : Value} {L : List Rw} {r : Nat} (h : LawMid B q ob w b x d d2 o (some L) va (.pointer (some ⟨r, 0, none⟩))) {N : Nat} (hL : LOk N L) (hN : N ≤ 100000000) :
    Calls Tryz.prog 30 #[.pointer (some ⟨r, 0, none⟩)] w fun e w' => ∃ v, e = .returned v ∧ NamesV w' w.heap.size v (domR L) ∧ Below w.heap.size w w' := by
  obtain ⟨FA, FB, h1, h2, h3⟩ := h.ex
  exact domainsB w _ x d2 L r h2 hL hN
theorem LawAt.none_ptr {B q : Nat} {ob : Option Obj} {w : World} {b x : Nat} {d : DS} {va vb : Value} (h : LawAt B q ob w b x d none va vb) : va = .pointer none ∧ vb = .pointer none := by
  obtain ⟨FA, FB, h1, h2, h3⟩ := h.ex
  obtain ⟨_, _, q1, _⟩ := h1.ex
  obtain ⟨_, _, q2, _⟩ := h2.ex
  exact ⟨q1, q2⟩
theorem LawAt.some_ptr {B q : Nat} {ob : Option Obj} {w : World} {b x : Nat} {d : DS} {L : List Rw} {va vb : Value} (h : LawAt B q ob w b x d (some L) va vb) : ∃ r s, va = .pointer (some ⟨r, 0, none⟩) ∧ vb = .pointer (some ⟨s, 0, none⟩) := by
  obtain ⟨FA, FB, h1, h2, h3⟩ := h.ex
  obtain ⟨r, q1⟩ := h1.ptr
  obtain ⟨s, q2⟩ := h2.ptr
  exact ⟨r, s, q1, q2⟩

/-- the acts that came in -/
structure ActsAt (w : World) (B : Nat) (v : Value) (acts : List (Int × Int × Bs)) : Prop where
  ex : ∃ av cv, v = .slice av acts.length cv ∧ acts.length ≤ 9223372036854775807 ∧ acts.length ≤ cv ∧ cv ≤ 9223372036854775807 ∧ ∀ i y, acts[i]? = some y → ∃ g off, av = some ⟨g, off, none⟩ ∧ g < B ∧ w.cell? ⟨g, off + i * 3, none⟩ = some (.int .i64 y.1) ∧ w.cell? ⟨g, off + i * 3 + 1, none⟩ = some (.int .i64 y.2.1) ∧ w.cell? ⟨g, off + i * 3 + 2, none⟩ = some (vs y.2.2) ∧
    (-9223372036854775808 ≤ y.2.1 ∧ y.2.1 ≤ 9223372036854775807) ∧ y.2.2.length ≤ 9223372036854775807

end Go.Proofs.YtahdldbfcjbklaaGreat
