/- RingDoes: the program's side and the reference's side, call by call. -/
import Derived.Test.YtahdldbfcjbklaaGreatLaw2
namespace Go.Proofs.YtahdldbfcjbklaaGreat
open Go.RowKit

/-! ### side A -/
def PartA (w : World) (F FD : Nat → Prop) (b : Nat) (o : Option (List Rw)) (v : Value) : Prop :=
  match o with
    | none => v = .pointer none ∧ ∀ k, F k ↔ FD k
    | some L => ∃ r FR, v = .pointer (some ⟨r, 0, none⟩) ∧ RingAt w FR r b L ∧ (∀ k, FR k → ¬ FD k) ∧ (∀ k, F k ↔ FD k ∨ FR k)
structure SideA (w : World) (F : Nat → Prop) (b : Nat) (d : DS) (o : Option (List Rw)) (v : Value) : Prop where
  ex : ∃ FD, DiskAt 62 89 w FD b d ∧ PartA w F FD b o v
theorem SideA.kept {w w' : World} {F S : Nat → Prop} {b : Nat} {d : DS} {o : Option (List Rw)} {v : Value} (h : SideA w F b d o v) (hc : Chg S w w') (hs : ∀ k, F k → ¬ S k) : SideA w' F b d o v := by
  obtain ⟨FD, hd, ho⟩ := h.ex
  cases o with
  | none =>
    obtain ⟨h1, h2⟩ := ho
    exact ⟨FD, hd.kept hc (fun k hk => hs k ((h2 k).2 hk)), h1, h2⟩
  | some L =>
    obtain ⟨r, FR, h1, h2, h3, h4⟩ := ho
    exact ⟨FD, hd.kept hc (fun k hk => hs k ((h4 k).2 (.inl hk))), r, FR, h1, h2.kept hc (fun k hk => hs k ((h4 k).2 (.inr hk))), h3, h4⟩
theorem SideA.keptB {w w' : World} {F : Nat → Prop} {b : Nat} {d : DS} {o : Option (List Rw)} {v : Value} (h : SideA w F b d o v) (hc : Below w.heap.size w w') : SideA w' F b d o v := h.kept (S := fun _ => False) (Chg.of_below hc) (fun _ _ h => h)
theorem SideA.lt {w : World} {F : Nat → Prop} {b : Nat} {d : DS} {o : Option (List Rw)} {v : Value} (h : SideA w F b d o v) : ∀ k, F k → k < w.heap.size := by
  obtain ⟨FD, hd, ho⟩ := h.ex
  intro k hk
  cases o with
  | none =>
    obtain ⟨h1, h2⟩ := ho
    exact hd.lt k ((h2 k).1 hk)
  | some L =>
    obtain ⟨r, FR, h1, h2, h3, h4⟩ := ho
    rcases (h4 k).1 hk with h | h
    · exact hd.lt k h
    · exact h2.lt k h
/-- what a call leaves -/
structure SideATo (w : World) (F : Nat → Prop) (b : Nat) (d : DS) (o : Option (List Rw)) (v : Value) (w' : World) : Prop where
  ex : ∃ F', SideA w' F' b d o v ∧ (∀ k, F' k → F k ∨ w.heap.size ≤ k)
  chg : Chg F w w'
theorem SideA.disk {w w' : World} {F FD FD' : Nat → Prop} {b : Nat} {d d' : DS} {o : Option (List Rw)} {v : Value} (hd : DiskAt 62 89 w FD b d) (ho : PartA w F FD b o v)
    (hd' : DiskAt 62 89 w' FD' b d') (hf : ∀ k, FD' k → FD k ∨ w.heap.size ≤ k) (hc : Chg FD w w') : SideATo w F b d' o v w' := by
  cases o with
  | none =>
    obtain ⟨h1, h2⟩ := ho
    exact ⟨⟨FD', ⟨FD', hd', h1, fun _ => Iff.rfl⟩, fun k hk => (hf k hk).imp (fun h => (h2 k).2 h) id⟩, hc.mono (fun k _ h => (h2 k).2 h)⟩
  | some L =>
    obtain ⟨r, FR, h1, h2, h3, h4⟩ := ho
    refine ⟨⟨fun k => FD' k ∨ FR k, ⟨FD', hd', r, FR, h1, h2.kept hc h3, fun k hk h => ?_, fun _ => Iff.rfl⟩, fun k hk => ?_⟩, hc.mono (fun k _ h => (h4 k).2 (.inl h))⟩
    · rcases hf k h with h | h
      · exact h3 k hk h
      · have := h2.lt k hk; omega
    · rcases hk with h | h
      · exact (hf k h).imp (fun h => (h4 k).2 (.inl h)) id
      · exact .inl ((h4 k).2 (.inr h))

/-! ### side B -/
def PartB (w : World) (F FD : Nat → Prop) (b : Nat) (o : Option (List Rw)) (v : Value) : Prop :=
  match o with
    | none => v = .pointer none ∧ ∀ k, F k ↔ FD k
    | some L => ∃ r FR, v = .pointer (some ⟨r, 0, none⟩) ∧ R14At w FR r b L ∧ (∀ k, FR k → ¬ FD k) ∧ (∀ k, F k ↔ FD k ∨ FR k)
structure SideB (w : World) (F : Nat → Prop) (b : Nat) (d : DS) (o : Option (List Rw)) (v : Value) : Prop where
  ex : ∃ FD, R11At w FD b d ∧ PartB w F FD b o v
theorem SideB.kept {w w' : World} {F S : Nat → Prop} {b : Nat} {d : DS} {o : Option (List Rw)} {v : Value} (h : SideB w F b d o v) (hc : Chg S w w') (hs : ∀ k, F k → ¬ S k) : SideB w' F b d o v := by
  obtain ⟨FD, hd, ho⟩ := h.ex
  cases o with
  | none =>
    obtain ⟨h1, h2⟩ := ho
    exact ⟨FD, hd.kept hc (fun k hk => hs k ((h2 k).2 hk)), h1, h2⟩
  | some L =>
    obtain ⟨r, FR, h1, h2, h3, h4⟩ := ho
    exact ⟨FD, hd.kept hc (fun k hk => hs k ((h4 k).2 (.inl hk))), r, FR, h1, h2.kept hc (fun k hk => hs k ((h4 k).2 (.inr hk))), h3, h4⟩
theorem SideB.keptB {w w' : World} {F : Nat → Prop} {b : Nat} {d : DS} {o : Option (List Rw)} {v : Value} (h : SideB w F b d o v) (hc : Below w.heap.size w w') : SideB w' F b d o v := h.kept (S := fun _ => False) (Chg.of_below hc) (fun _ _ h => h)
theorem SideB.lt {w : World} {F : Nat → Prop} {b : Nat} {d : DS} {o : Option (List Rw)} {v : Value} (h : SideB w F b d o v) : ∀ k, F k → k < w.heap.size := by
  obtain ⟨FD, hd, ho⟩ := h.ex
  intro k hk
  cases o with
  | none =>
    obtain ⟨h1, h2⟩ := ho
    exact hd.lt k ((h2 k).1 hk)
  | some L =>
    obtain ⟨r, FR, h1, h2, h3, h4⟩ := ho
    rcases (h4 k).1 hk with h | h
    · exact hd.lt k h
    · exact h2.lt k h
/-- what a call leaves -/
structure SideBTo (w : World) (F : Nat → Prop) (b : Nat) (d : DS) (o : Option (List Rw)) (v : Value) (w' : World) : Prop where
  ex : ∃ F', SideB w' F' b d o v ∧ (∀ k, F' k → F k ∨ w.heap.size ≤ k)
  chg : Chg F w w'
theorem SideB.disk {w w' : World} {F FD FD' : Nat → Prop} {b : Nat} {d d' : DS} {o : Option (List Rw)} {v : Value} (hd : R11At w FD b d) (ho : PartB w F FD b o v)
    (hd' : R11At w' FD' b d') (hf : ∀ k, FD' k → FD k ∨ w.heap.size ≤ k) (hc : Chg FD w w') : SideBTo w F b d' o v w' := by
  cases o with
  | none =>
    obtain ⟨h1, h2⟩ := ho
    exact ⟨⟨FD', ⟨FD', hd', h1, fun _ => Iff.rfl⟩, fun k hk => (hf k hk).imp (fun h => (h2 k).2 h) id⟩, hc.mono (fun k _ h => (h2 k).2 h)⟩
  | some L =>
    obtain ⟨r, FR, h1, h2, h3, h4⟩ := ho
    refine ⟨⟨fun k => FD' k ∨ FR k, ⟨FD', hd', r, FR, h1, h2.kept hc h3, fun k hk h => ?_, fun _ => Iff.rfl⟩, fun k hk => ?_⟩, hc.mono (fun k _ h => (h4 k).2 (.inl h))⟩
    · rcases hf k h with h | h
      · exact h3 k hk h
      · have := h2.lt k hk; omega
    · rcases hk with h | h
      · exact (hf k h).imp (fun h => (h4 k).2 (.inl h)) id
      · exact .inl ((h4 k).2 (.inr h))

theorem openA {V K : Nat} (w : World) (F : Nat → Prop) (b : Nat) (d : DS) (o : Option (List Rw)) (v : Value) (h : SideA w F b d o v) (hR : RD V K d) (hV : V ≤ 100000000) (hK : K ≤ 100000000) :
    Calls Tryz.prog 7 #[.pointer (some ⟨b, 0, none⟩)] w fun e w' => ∃ v', e = .returned (.tuple #[v', .int .i64 ((openR d).2.2 : Nat)]) ∧ SideATo w F b (openR d).1 (openR d).2.1 v' w' := by
  obtain ⟨FD, hd, ho⟩ := h.ex
  refine (open_any FD b d w hd (hR.ok (by omega) (by omega)) ((open_write_ok hR).ok (by omega) (by omega))).mono ?_
  rintro e w' ⟨v', rfl, ⟨FD', hd', hf, hm⟩, hc⟩
  refine ⟨v', rfl, ?_⟩
  have hFD : ∀ k, FD k → F k := by
    cases o with
    | none => exact fun k hk => (ho.2 k).2 hk
    | some L =>
      obtain ⟨r, FR, h1, h2, h3, h4⟩ := ho
      exact fun k hk => (h4 k).2 (.inl hk)
  have hc' : Chg F w w' := hc.mono (fun k _ h => hFD k h)
  generalize (openR d).2.1 = o' at *
  cases o' with
  | none => exact ⟨⟨FD', ⟨FD', hd', hm, fun _ => Iff.rfl⟩, fun k hk => (hf k hk).imp (hFD k) id⟩, hc'⟩
  | some L' =>
    obtain ⟨r, FR, h1, h2, h3, h4⟩ := hm
    refine ⟨⟨fun k => FD' k ∨ FR k, ⟨FD', hd', r, FR, h1, h2, h4, fun _ => Iff.rfl⟩, fun k hk => ?_⟩, hc'⟩
    rcases hk with hk | hk
    · exact (hf k hk).imp (hFD k) id
    · exact .inr (h3 k hk)

theorem beginA {V K N : Nat} (w : World) (F : Nat → Prop) (b : Nat) (d : DS) (L : List Rw) (r : Nat) (k : Bs) (h : SideA w F b d (some L) (.pointer (some ⟨r, 0, none⟩))) (hR : RD V K d) (hL : LOk N L) (hV : V ≤ 100000000) (hK : K ≤ 100000000) (hN : N ≤ 100000000) (hk : k.length ≤ 1000) :
    Calls Tryz.prog 10 #[.pointer (some ⟨r, 0, none⟩), vs k] w fun e w' => e = .returned (.tuple #[.int .u64 ((beginR d L k).2.2.1 : Nat), .int .i64 ((beginR d L k).2.2.2 : Nat)]) ∧ SideATo w F b (beginR d L k).1 (some (beginR d L k).2.1) (.pointer (some ⟨r, 0, none⟩)) w' := by
  obtain ⟨FD, hd, r', FR, h1, h2, h3, h4⟩ := h.ex
  cases h1
  have hs := hL.st k
  refine (begin_any FD FR b r d L k w hd h2 h3 (hR.ok (by omega) (by omega)) hs.1 hs.2 hk (fun _ => (hR.append (rowB k ((stR L k).1 + 1) (stR L k).1)).ok (by have := rowB_length k ((stR L k).1 + 1) (stR L k).1 hk (by omega) (by omega); omega) (by omega))).mono ?_
  rintro e w' ⟨rfl, ⟨FD', hd', hr', hf⟩, hc⟩
  exact ⟨rfl, ⟨fun k => FD' k ∨ FR k, ⟨FD', hd', r, FR, rfl, hr', fun q hq hx => by
    rcases hf q hx with hx | hx
    · exact h3 q hq hx
    · have := h2.lt q hq; omega, fun _ => Iff.rfl⟩, fun q hq => hq.elim (fun hx => (hf q hx).imp (fun hy => (h4 q).2 (.inl hy)) id) (fun hx => .inl ((h4 q).2 (.inr hx)))⟩, hc.mono (fun q _ hx => (h4 q).2 hx)⟩

theorem endA {V K N : Nat} (w : World) (F : Nat → Prop) (b : Nat) (d : DS) (L : List Rw) (r : Nat) (k : Bs) (h : SideA w F b d (some L) (.pointer (some ⟨r, 0, none⟩))) (hR : RD V K d) (hL : LOk N L) (hV : V ≤ 100000000) (hK : K ≤ 100000000) (hN : N ≤ 100000000) (hk : k.length ≤ 1000) :
    Calls Tryz.prog 12 #[.pointer (some ⟨r, 0, none⟩), vs k] w fun e w' => e = .returned (.int .i64 ((endR d L k).2.2 : Nat)) ∧ SideATo w F b (endR d L k).1 (some (endR d L k).2.1) (.pointer (some ⟨r, 0, none⟩)) w' := by
  obtain ⟨FD, hd, r', FR, h1, h2, h3, h4⟩ := h.ex
  cases h1
  have hs := hL.st k
  refine (end_any FD FR b r d L k w hd h2 h3 (hR.ok (by omega) (by omega)) hs.1 hs.2 hk (fun _ => (hR.append (rowB k (stR L k).1 0)).ok (by have := rowB_length k (stR L k).1 0 hk (by omega) (by omega); omega) (by omega))).mono ?_
  rintro e w' ⟨rfl, ⟨FD', hd', hr', hf⟩, hc⟩
  exact ⟨rfl, ⟨fun k => FD' k ∨ FR k, ⟨FD', hd', r, FR, rfl, hr', fun q hq hx => by
    rcases hf q hx with hx | hx
    · exact h3 q hq hx
    · have := h2.lt q hq; omega, fun _ => Iff.rfl⟩, fun q hq => hq.elim (fun hx => (hf q hx).imp (fun hy => (h4 q).2 (.inl hy)) id) (fun hx => .inl ((h4 q).2 (.inr hx)))⟩, hc.mono (fun q _ hx => (h4 q).2 hx)⟩

theorem fuseA (w : World) (F : Nat → Prop) (b : Nat) (d : DS) (o : Option (List Rw)) (v : Value) (n : Int) (h : SideA w F b d o v) :
    Calls Tryz.prog 14 #[.pointer (some ⟨b, 0, none⟩), .int .i64 n] w fun e w' => e = .returned (.tuple #[]) ∧ SideATo w F b (d.setFuse n) o v w' := by
  obtain ⟨FD, hd, ho⟩ := h.ex
  refine (fuse_any FD b d n w hd).mono ?_
  rintro e w' ⟨rfl, hd', hc⟩
  exact ⟨rfl, SideA.disk hd ho hd' (fun _ hk => .inl hk) hc⟩

theorem quotaA (w : World) (F : Nat → Prop) (b : Nat) (d : DS) (o : Option (List Rw)) (v : Value) (n : Int) (h : SideA w F b d o v) :
    Calls Tryz.prog 18 #[.pointer (some ⟨b, 0, none⟩), .int .i64 n] w fun e w' => e = .returned (.tuple #[]) ∧ SideATo w F b (d.setQuota n) o v w' := by
  obtain ⟨FD, hd, ho⟩ := h.ex
  refine (quota_any FD b d n w hd).mono ?_
  rintro e w' ⟨rfl, hd', hc⟩
  exact ⟨rfl, SideA.disk hd ho hd' (fun _ hk => .inl hk) hc⟩

theorem crashA {V K : Nat} (w : World) (F : Nat → Prop) (b : Nat) (d : DS) (o : Option (List Rw)) (v : Value) (n : Int) (h : SideA w F b d o v) (hR : RD V K d) (hV : V ≤ 100000000) (hK : K ≤ 100000000) :
    Calls Tryz.prog 16 #[.pointer (some ⟨b, 0, none⟩), .int .i64 n] w fun e w' => e = .returned (.tuple #[]) ∧ SideATo w F b (d.crash n) o v w' := by
  obtain ⟨FD, hd, ho⟩ := h.ex
  refine (crash_any FD b d n w hd (hR.ok (by omega) (by omega)) hR.ops (fun i e he => by have := hR.foldsz i e he; omega)).mono ?_
  rintro e w' ⟨rfl, FD', hd', hf, hc⟩
  exact ⟨rfl, SideA.disk hd ho hd' hf hc⟩

theorem editA {V K : Nat} (w : World) (F : Nat → Prop) (b : Nat) (d : DS) (o : Option (List Rw)) (v : Value) (t : Bs) (h : SideA w F b d o v) (hR : RD V K d) :
    Calls Tryz.prog 20 #[.pointer (some ⟨b, 0, none⟩), vs ringN, vs t] w fun e w' => e = .returned (.int .i64 ((d.edit ringN t).2 : Nat)) ∧ SideATo w F b (d.edit ringN t).1 o v w' := by
  obtain ⟨FD, hd, ho⟩ := h.ex
  refine (edit_any FD b d ringN t w hd).mono ?_
  rintro e w' ⟨rfl, hd', hc⟩
  exact ⟨rfl, SideA.disk hd ho hd' (fun _ hk => .inl hk) hc⟩

theorem readA {V K : Nat} (w : World) (F : Nat → Prop) (b : Nat) (d : DS) (o : Option (List Rw)) (v : Value) (h : SideA w F b d o v) (hR : RD V K d) :
    Calls Tryz.prog 22 #[.pointer (some ⟨b, 0, none⟩), vs ringN] w fun e w' => e = .returned (.tuple #[vs (d.read ringN).1, .int .i64 (d.read ringN).2]) ∧ w = w' := by
  obtain ⟨FD, hd, ho⟩ := h.ex
  exact read_any FD b d ringN w hd

theorem stateA {N : Nat} (w : World) (F : Nat → Prop) (b : Nat) (d : DS) (L : List Rw) (r : Nat) (k : Bs) (h : SideA w F b d (some L) (.pointer (some ⟨r, 0, none⟩))) (hL : LOk N L) (hN : N ≤ 100000000) :
    Calls Tryz.prog 27 #[.pointer (some ⟨r, 0, none⟩), vs k] w fun e w' => e = .returned (.agg #[.int .u64 (stR L k).1, .int .u64 (stR L k).2]) ∧ Below w.heap.size w w' := by
  obtain ⟨FD, hd, r', FR, h1, h2, h3, h4⟩ := h.ex
  cases h1
  exact state_any FR r b L k w h2

theorem liveA {N : Nat} (w : World) (F : Nat → Prop) (b : Nat) (d : DS) (L : List Rw) (r : Nat) (k : Bs) (ep : Nat) (h : SideA w F b d (some L) (.pointer (some ⟨r, 0, none⟩))) (hL : LOk N L) (hN : N ≤ 100000000) :
    Calls Tryz.prog 31 #[.pointer (some ⟨r, 0, none⟩), vs k, .int .u64 ep] w fun e w' => e = .returned (.bool (liveR (stR L k) ep)) ∧ Below w.heap.size w w' := by
  obtain ⟨FD, hd, r', FR, h1, h2, h3, h4⟩ := h.ex
  cases h1
  exact live_any FR r b L k ep w h2

theorem domainsA {N : Nat} (w : World) (F : Nat → Prop) (b : Nat) (d : DS) (L : List Rw) (r : Nat) (h : SideA w F b d (some L) (.pointer (some ⟨r, 0, none⟩))) (hL : LOk N L) (hN : N ≤ 100000000) :
    Calls Tryz.prog 29 #[.pointer (some ⟨r, 0, none⟩)] w fun e w' => ∃ v, e = .returned v ∧ NamesV w' w.heap.size v (domR L) ∧ Below w.heap.size w w' := by
  obtain ⟨FD, hd, r', FR, h1, h2, h3, h4⟩ := h.ex
  cases h1
  exact domains_any FR r b L w h2 (fun x hx => by have := (hL.rows x hx).2.2; omega) (by have := hL.len; omega)

theorem openB {V K : Nat} (w : World) (F : Nat → Prop) (b : Nat) (d : DS) (o : Option (List Rw)) (v : Value) (h : SideB w F b d o v) (hR : RD V K d) (hV : V ≤ 100000000) (hK : K ≤ 100000000) :
    Calls Tryz.prog 8 #[.pointer (some ⟨b, 0, none⟩)] w fun e w' => ∃ v', e = .returned (.tuple #[v', .int .i64 ((openR d).2.2 : Nat)]) ∧ SideBTo w F b (openR d).1 (openR d).2.1 v' w' := by
  obtain ⟨FD, hd, ho⟩ := h.ex
  refine (r14_open FD b d w hd (hR.ok (by omega) (by omega)) (by have := hR.nl; omega) (by have := hR.read; omega) ((open_write_ok hR).ok (by omega) (by omega)) (by have := (open_write_ok hR).nl; omega)).mono ?_
  rintro e w' ⟨v', rfl, ⟨FD', hd', hf, hm⟩, hc⟩
  refine ⟨v', rfl, ?_⟩
  have hFD : ∀ k, FD k → F k := by
    cases o with
    | none => exact fun k hk => (ho.2 k).2 hk
    | some L =>
      obtain ⟨r, FR, h1, h2, h3, h4⟩ := ho
      exact fun k hk => (h4 k).2 (.inl hk)
  have hc' : Chg F w w' := hc.mono (fun k _ h => hFD k h)
  generalize (openR d).2.1 = o' at *
  cases o' with
  | none => exact ⟨⟨FD', ⟨FD', hd', hm, fun _ => Iff.rfl⟩, fun k hk => (hf k hk).imp (hFD k) id⟩, hc'⟩
  | some L' =>
    obtain ⟨r, FR, h1, h2, h3, h4⟩ := hm
    refine ⟨⟨fun k => FD' k ∨ FR k, ⟨FD', hd', r, FR, h1, h2, h4, fun _ => Iff.rfl⟩, fun k hk => ?_⟩, hc'⟩
    rcases hk with hk | hk
    · exact (hf k hk).imp (hFD k) id
    · exact .inr (h3 k hk)

theorem beginB {V K N : Nat} (w : World) (F : Nat → Prop) (b : Nat) (d : DS) (L : List Rw) (r : Nat) (k : Bs) (h : SideB w F b d (some L) (.pointer (some ⟨r, 0, none⟩))) (hR : RD V K d) (hL : LOk N L) (hV : V ≤ 100000000) (hK : K ≤ 100000000) (hN : N ≤ 100000000) (hk : k.length ≤ 1000) :
    Calls Tryz.prog 11 #[.pointer (some ⟨r, 0, none⟩), vs k] w fun e w' => e = .returned (.tuple #[.int .u64 ((beginR d L k).2.2.1 : Nat), .int .i64 ((beginR d L k).2.2.2 : Nat)]) ∧ SideBTo w F b (beginR d L k).1 (some (beginR d L k).2.1) (.pointer (some ⟨r, 0, none⟩)) w' := by
  obtain ⟨FD, hd, r', FR, h1, h2, h3, h4⟩ := h.ex
  cases h1
  have hs := hL.st k
  refine (r14_begin FD FR b r d L k w hd h2 h3 (hR.ok (by omega) (by omega)) (by have := hR.nl; omega) (by have := hL.len; omega) hs.1 hs.2 hk (fun _ => ⟨(hR.append (rowB k ((stR L k).1 + 1) (stR L k).1)).ok (by have := rowB_length k ((stR L k).1 + 1) (stR L k).1 hk (by omega) (by omega); omega) (by omega), by have := (hR.append (rowB k ((stR L k).1 + 1) (stR L k).1)).nl; omega⟩)).mono ?_
  rintro e w' ⟨rfl, ⟨FD', FR', hd', hr', hf, hf2, hdis⟩, hc⟩
  exact ⟨rfl, ⟨fun k => FD' k ∨ FR' k, ⟨FD', hd', r, FR', rfl, hr', hdis, fun _ => Iff.rfl⟩, fun q hq => hq.elim (fun hx => (hf q hx).imp (fun hy => (h4 q).2 (.inl hy)) id) (fun hx => (hf2 q hx).imp (fun hy => (h4 q).2 (.inr hy)) id)⟩, hc.mono (fun q _ hx => (h4 q).2 hx)⟩

theorem endB {V K N : Nat} (w : World) (F : Nat → Prop) (b : Nat) (d : DS) (L : List Rw) (r : Nat) (k : Bs) (h : SideB w F b d (some L) (.pointer (some ⟨r, 0, none⟩))) (hR : RD V K d) (hL : LOk N L) (hV : V ≤ 100000000) (hK : K ≤ 100000000) (hN : N ≤ 100000000) (hk : k.length ≤ 1000) :
    Calls Tryz.prog 13 #[.pointer (some ⟨r, 0, none⟩), vs k] w fun e w' => e = .returned (.int .i64 ((endR d L k).2.2 : Nat)) ∧ SideBTo w F b (endR d L k).1 (some (endR d L k).2.1) (.pointer (some ⟨r, 0, none⟩)) w' := by
  obtain ⟨FD, hd, r', FR, h1, h2, h3, h4⟩ := h.ex
  cases h1
  have hs := hL.st k
  refine (r14_end FD FR b r d L k w hd h2 h3 (hR.ok (by omega) (by omega)) (by have := hR.nl; omega) (by have := hL.len; omega) hs.1 hs.2 hk (fun _ => ⟨(hR.append (rowB k (stR L k).1 0)).ok (by have := rowB_length k (stR L k).1 0 hk (by omega) (by omega); omega) (by omega), by have := (hR.append (rowB k (stR L k).1 0)).nl; omega⟩)).mono ?_
  rintro e w' ⟨rfl, ⟨FD', FR', hd', hr', hf, hf2, hdis⟩, hc⟩
  exact ⟨rfl, ⟨fun k => FD' k ∨ FR' k, ⟨FD', hd', r, FR', rfl, hr', hdis, fun _ => Iff.rfl⟩, fun q hq => hq.elim (fun hx => (hf q hx).imp (fun hy => (h4 q).2 (.inl hy)) id) (fun hx => (hf2 q hx).imp (fun hy => (h4 q).2 (.inr hy)) id)⟩, hc.mono (fun q _ hx => (h4 q).2 hx)⟩

theorem fuseB (w : World) (F : Nat → Prop) (b : Nat) (d : DS) (o : Option (List Rw)) (v : Value) (n : Int) (h : SideB w F b d o v) :
    Calls Tryz.prog 15 #[.pointer (some ⟨b, 0, none⟩), .int .i64 n] w fun e w' => e = .returned (.tuple #[]) ∧ SideBTo w F b (d.setFuse n) o v w' := by
  obtain ⟨FD, hd, ho⟩ := h.ex
  refine (r11_fuse FD b d n w hd).mono ?_
  rintro e w' ⟨rfl, hd', hc⟩
  exact ⟨rfl, SideB.disk hd ho hd' (fun _ hk => .inl hk) hc⟩

theorem quotaB (w : World) (F : Nat → Prop) (b : Nat) (d : DS) (o : Option (List Rw)) (v : Value) (n : Int) (h : SideB w F b d o v) :
    Calls Tryz.prog 19 #[.pointer (some ⟨b, 0, none⟩), .int .i64 n] w fun e w' => e = .returned (.tuple #[]) ∧ SideBTo w F b (d.setQuota n) o v w' := by
  obtain ⟨FD, hd, ho⟩ := h.ex
  refine (r11_quota FD b d n w hd).mono ?_
  rintro e w' ⟨rfl, hd', hc⟩
  exact ⟨rfl, SideB.disk hd ho hd' (fun _ hk => .inl hk) hc⟩

theorem crashB {V K : Nat} (w : World) (F : Nat → Prop) (b : Nat) (d : DS) (o : Option (List Rw)) (v : Value) (n : Int) (h : SideB w F b d o v) (hR : RD V K d) (hV : V ≤ 100000000) (hK : K ≤ 100000000) :
    Calls Tryz.prog 17 #[.pointer (some ⟨b, 0, none⟩), .int .i64 n] w fun e w' => e = .returned (.tuple #[]) ∧ SideBTo w F b (d.crash n) o v w' := by
  obtain ⟨FD, hd, ho⟩ := h.ex
  refine (r11_crash FD b d n w hd (by have := hR.pl; omega) hR.ops (fun i e he => by have := hR.foldsz i e he; omega) (fun i => by have := hR.foldn i; omega)).mono ?_
  rintro e w' ⟨rfl, FD', hd', hf, hc⟩
  exact ⟨rfl, SideB.disk hd ho hd' hf hc⟩

theorem editB {V K : Nat} (w : World) (F : Nat → Prop) (b : Nat) (d : DS) (o : Option (List Rw)) (v : Value) (t : Bs) (h : SideB w F b d o v) (hR : RD V K d) :
    Calls Tryz.prog 21 #[.pointer (some ⟨b, 0, none⟩), vs ringN, vs t] w fun e w' => e = .returned (.int .i64 ((d.edit ringN t).2 : Nat)) ∧ SideBTo w F b (d.edit ringN t).1 o v w' := by
  obtain ⟨FD, hd, ho⟩ := h.ex
  refine (r11_edit FD b d ringN t w hd (by have := hR.nl; omega) (by have := hR.sl; omega)).mono ?_
  rintro e w' ⟨rfl, FD', hd', hf, hc⟩
  exact ⟨rfl, SideB.disk hd ho hd' hf hc⟩

theorem readB {V K : Nat} (w : World) (F : Nat → Prop) (b : Nat) (d : DS) (o : Option (List Rw)) (v : Value) (h : SideB w F b d o v) (hR : RD V K d) :
    Calls Tryz.prog 23 #[.pointer (some ⟨b, 0, none⟩), vs ringN] w fun e w' => e = .returned (.tuple #[vs (d.read ringN).1, .int .i64 (d.read ringN).2]) ∧ w = w' := by
  obtain ⟨FD, hd, ho⟩ := h.ex
  exact r11_read FD b d ringN w hd (by have := hR.nl; omega)

theorem stateB {N : Nat} (w : World) (F : Nat → Prop) (b : Nat) (d : DS) (L : List Rw) (r : Nat) (k : Bs) (h : SideB w F b d (some L) (.pointer (some ⟨r, 0, none⟩))) (hL : LOk N L) (hN : N ≤ 100000000) :
    Calls Tryz.prog 26 #[.pointer (some ⟨r, 0, none⟩), vs k] w fun e w' => e = .returned (.agg #[vs k, .int .u64 (stR L k).1, .int .u64 (stR L k).2]) ∧ Below w.heap.size w w' := by
  obtain ⟨FD, hd, r', FR, h1, h2, h3, h4⟩ := h.ex
  cases h1
  exact r14_state FR r b L k w h2 (by have := hL.len; omega)

theorem liveB {N : Nat} (w : World) (F : Nat → Prop) (b : Nat) (d : DS) (L : List Rw) (r : Nat) (k : Bs) (ep : Nat) (h : SideB w F b d (some L) (.pointer (some ⟨r, 0, none⟩))) (hL : LOk N L) (hN : N ≤ 100000000) :
    Calls Tryz.prog 32 #[.pointer (some ⟨r, 0, none⟩), vs k, .int .u64 ep] w fun e w' => e = .returned (.bool (liveR (stR L k) ep)) ∧ Below w.heap.size w w' := by
  obtain ⟨FD, hd, r', FR, h1, h2, h3, h4⟩ := h.ex
  cases h1
  exact r14_live FR r b L k ep w h2 (by have := hL.len; omega)

theorem domainsB {N : Nat} (w : World) (F : Nat → Prop) (b : Nat) (d : DS) (L : List Rw) (r : Nat) (h : SideB w F b d (some L) (.pointer (some ⟨r, 0, none⟩))) (hL : LOk N L) (hN : N ≤ 100000000) :
    Calls Tryz.prog 30 #[.pointer (some ⟨r, 0, none⟩)] w fun e w' => ∃ v, e = .returned v ∧ NamesV w' w.heap.size v (domR L) ∧ Below w.heap.size w w' := by
  obtain ⟨FD, hd, r', FR, h1, h2, h3, h4⟩ := h.ex
  cases h1
  exact r14_domains FR r b L w h2 (by have := hL.len; omega)
end Go.Proofs.YtahdldbfcjbklaaGreat
