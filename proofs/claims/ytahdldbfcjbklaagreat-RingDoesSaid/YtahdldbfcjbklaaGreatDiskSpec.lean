/- The disk, as plain lists: what both the program's and the reference's compute. No function of the program. -/
import Derived.Test.YtahdldbfcjbklaaGreatMap
import Derived.Sort.Walk0
namespace Go.Proofs.YtahdldbfcjbklaaGreat
open Go.RowKit
abbrev Bs := List UInt8
abbrev Files := List (Bs × Bs)
def getF (l : Files) (k : Bs) : Option Bs := (l.find? (fun p => decide (p.1 = k))).map (·.2)
def dataF (l : Files) (k : Bs) : Bs := (getF l k).getD []
def putF : Files → Bs → Bs → Files
  | [], k, v => [(k, v)]
  | p :: l, k, v => if p.1 = k then (k, v) :: l else if p.1 < k then p :: putF l k v else (k, v) :: p :: l
def delF (l : Files) (k : Bs) : Files := l.filter (fun p => decide (p.1 ≠ k))
def sizeF (l : Files) : Nat := (l.map (·.2.length)).sum
def SortedF (l : Files) : Prop := l.Pairwise (fun p q => p.1 < q.1)

theorem lt_irr (a : Bs) : ¬ a < a := List.lt_irrefl a
theorem lt_tri (a b : Bs) (h1 : ¬ a < b) (h2 : a ≠ b) : b < a := by
  have h3 : b ≤ a := List.not_lt.1 h1
  rcases List.le_iff_lt_or_eq.1 h3 with h | h
  · exact h
  · exact absurd h.symm h2
theorem getF_cons (p : Bs × Bs) (l : Files) (k : Bs) : getF (p :: l) k = if p.1 = k then some p.2 else getF l k := by
  unfold getF
  by_cases h : p.1 = k <;> simp [h]
theorem getF_none_of_lt {l : Files} {k : Bs} (h : ∀ p ∈ l, k < p.1) : getF l k = none := by
  unfold getF
  rw [List.find?_eq_none.2]; rfl
  intro p hp
  have := h p hp
  simp only [decide_eq_true_eq]
  intro e; subst e; exact lt_irr _ this
theorem getF_put (l : Files) (k v k' : Bs) : getF (putF l k v) k' = if k' = k then some v else getF l k' := by
  induction l with
  | nil => simp only [putF, getF_cons]; by_cases h : k = k' <;> simp [h, eq_comm, getF]
  | cons p l ih =>
    unfold putF
    split
    · rename_i h
      simp only [getF_cons]
      by_cases h2 : k = k'
      · simp [h2]
      · rw [if_neg h2, if_neg (Ne.symm h2), if_neg (by rw [h]; exact h2)]
    · rename_i h
      split
      · simp only [getF_cons, ih]
        by_cases h2 : p.1 = k'
        · rw [if_pos h2, if_pos h2, if_neg (by rw [← h2]; exact h)]
        · rw [if_neg h2, if_neg h2]
      · simp only [getF_cons]
        by_cases h2 : k = k'
        · simp [h2]
        · rw [if_neg h2, if_neg (Ne.symm h2)]
theorem getF_del (l : Files) (k k' : Bs) : getF (delF l k) k' = if k' = k then none else getF l k' := by
  induction l with
  | nil => simp [delF, getF]
  | cons p l ih =>
    unfold delF at ih ⊢
    by_cases h : p.1 = k
    · rw [List.filter_cons_of_neg (by simpa using h), ih, getF_cons]
      by_cases h2 : k' = k
      · simp [h2]
      · rw [if_neg h2, if_neg h2, if_neg (by rw [h]; exact Ne.symm h2)]
    · rw [List.filter_cons_of_pos (by simpa using h), getF_cons, ih, getF_cons]
      by_cases h2 : p.1 = k'
      · rw [if_pos h2, if_pos h2, if_neg (by rw [← h2]; exact h)]
      · rw [if_neg h2, if_neg h2]
theorem SortedF.nil : SortedF [] := List.Pairwise.nil
theorem mem_putF {l : Files} {k v : Bs} {p : Bs × Bs} (h : p ∈ putF l k v) : p = (k, v) ∨ p ∈ l := by
  induction l with
  | nil => simp only [putF, List.mem_singleton] at h; exact .inl h
  | cons q l ih =>
    unfold putF at h
    split at h
    · rcases List.mem_cons.1 h with h | h
      · exact .inl h
      · exact .inr (List.mem_cons_of_mem _ h)
    · split at h
      · rcases List.mem_cons.1 h with h | h
        · exact .inr (by rw [h]; exact List.mem_cons_self)
        · rcases ih h with h | h
          · exact .inl h
          · exact .inr (List.mem_cons_of_mem _ h)
      · rcases List.mem_cons.1 h with h | h
        · exact .inl h
        · exact .inr h
theorem SortedF.put {l : Files} (h : SortedF l) (k v : Bs) : SortedF (putF l k v) := by
  induction l with
  | nil => exact List.pairwise_singleton _ _
  | cons p l ih =>
    have hp := List.pairwise_cons.1 h
    unfold putF
    split
    · rename_i e
      exact List.pairwise_cons.2 ⟨fun q hq => by rw [← e]; exact hp.1 q hq, hp.2⟩
    · rename_i ne
      split
      · rename_i hlt
        refine List.pairwise_cons.2 ⟨fun q hq => ?_, ih hp.2⟩
        rcases mem_putF hq with rfl | hq
        · exact hlt
        · exact hp.1 q hq
      · rename_i hlt
        have hk := lt_tri _ _ hlt ne
        refine List.pairwise_cons.2 ⟨fun q hq => ?_, h⟩
        rcases List.mem_cons.1 hq with rfl | hq
        · exact hk
        · exact List.lt_trans hk (hp.1 q hq)
theorem SortedF.del {l : Files} (h : SortedF l) (k : Bs) : SortedF (delF l k) := List.Pairwise.sublist List.filter_sublist h
theorem sizeF_put (l : Files) (k v : Bs) : sizeF (putF l k v) ≤ sizeF l + v.length := by
  induction l with
  | nil => simp [putF, sizeF]
  | cons p l ih =>
    unfold putF
    simp only [sizeF, List.map_cons, List.sum_cons] at ih ⊢
    split
    · simp only [List.map_cons, List.sum_cons]; omega
    · split
      · simp only [List.map_cons, List.sum_cons]; omega
      · simp only [List.map_cons, List.sum_cons]; omega
theorem sizeF_del (l : Files) (k : Bs) : sizeF (delF l k) ≤ sizeF l := by
  induction l with
  | nil => exact Nat.le_refl _
  | cons p l ih =>
    unfold delF at ih ⊢
    simp only [sizeF, List.filter_cons] at ih ⊢
    split <;> simp only [List.map_cons, List.sum_cons] <;> omega
theorem dataF_le (l : Files) (k : Bs) : (dataF l k).length ≤ sizeF l := by
  induction l with
  | nil => exact Nat.le_refl _
  | cons p l ih =>
    unfold dataF at ih ⊢
    rw [getF_cons]
    simp only [sizeF, List.map_cons, List.sum_cons] at ih ⊢
    split
    · simp
    · omega
theorem length_putF (l : Files) (k v : Bs) : (putF l k v).length ≤ l.length + 1 := by
  induction l with
  | nil => simp [putF]
  | cons p l ih =>
    unfold putF
    split
    · simp
    · split <;> simp <;> omega
theorem length_delF (l : Files) (k : Bs) : (delF l k).length ≤ l.length := List.length_filter_le _ _

/-! ### what a map's entries say of files -/
def FilesR (es : List (Ent Bs)) (l : Files) : Prop := SortedF l ∧ ∀ k, getE es k = (getF l k).map vs
theorem getE_put {α : Type} [DecidableEq α] (es : List (Ent α)) (k : α) (v : Value) (c : Nat) (k' : α) : getE (putE es k v c) k' = if k' = k then some v else getE es k' := by
  unfold putE
  split
  · rename_i hh
    have h1 : ∀ l : List (Ent α), getE (l.map fun e => if e.key = k then { e with val := v } else e) k' = if k' = k then (if hasE l k then some v else none) else getE l k' := by
      intro l
      induction l with
      | nil => simp [getE, hasE]
      | cons e l ih =>
        simp only [getE, hasE, List.map_cons, List.find?_cons, List.any_cons] at ih ⊢
        by_cases h2 : e.key = k
        · by_cases h3 : k' = k
          · subst h3; simp [h2]
          · simp only [h2, if_true, if_neg h3, decide_eq_false (Ne.symm h3)] at ih ⊢
            exact ih
        · by_cases h3 : k' = k
          · subst h3; simp only [h2, if_false, decide_false, Bool.false_or] at ih ⊢; exact ih
          · simp only [h2, if_false, if_neg h3] at ih ⊢
            by_cases h4 : e.key = k'
            · simp [h4]
            · simp only [h4, decide_false]; exact ih
    rw [h1, hh]; simp
  · rename_i hh
    have hn : getE es k = none := by
      have := hasE_get es k
      cases h : getE es k with
      | none => rfl
      | some _ => rw [h] at this; exact absurd this hh
    unfold getE at hn ⊢
    rw [List.find?_append]
    by_cases h3 : k' = k
    · subst h3
      have : es.find? (fun e => decide (e.key = k')) = none := by simpa using hn
      rw [this]; simp
    · rw [if_neg h3]
      cases es.find? (fun e => decide (e.key = k')) with
      | none => simp [Ne.symm h3]
      | some _ => rfl
theorem getE_del {α : Type} [DecidableEq α] (es : List (Ent α)) (k k' : α) : getE (delE es k) k' = if k' = k then none else getE es k' := by
  induction es with
  | nil => simp [delE, getE]
  | cons e es ih =>
    unfold delE at ih ⊢
    by_cases h : e.key = k
    · rw [List.filter_cons_of_neg (by simpa using h), ih]
      by_cases h2 : k' = k
      · simp [h2]
      · simp [getE, h, h2, Ne.symm h2]
    · rw [List.filter_cons_of_pos (by simpa using h)]
      simp only [getE, List.find?_cons] at ih ⊢
      by_cases h2 : e.key = k'
      · subst h2; simp [h]
      · simp only [h2, decide_false]; exact ih
theorem FilesR.put {es : List (Ent Bs)} {l : Files} (h : FilesR es l) (k v : Bs) (c : Nat) : FilesR (putE es k (vs v) c) (putF l k v) :=
  ⟨h.1.put k v, fun k' => by rw [getE_put, getF_put, h.2]; split <;> rfl⟩
theorem FilesR.del {es : List (Ent Bs)} {l : Files} (h : FilesR es l) (k : Bs) : FilesR (delE es k) (delF l k) :=
  ⟨h.1.del k, fun k' => by rw [getE_del, getF_del, h.2]; split <;> rfl⟩
theorem FilesR.data {es : List (Ent Bs)} {l : Files} (h : FilesR es l) (k : Bs) : (getE es k).getD (vs []) = vs (dataF l k) := by
  rw [h.2, dataF]
  cases getF l k <;> rfl
theorem sorted_nodup {l : Files} (h : SortedF l) : (l.map (·.1)).Nodup := by
  rw [List.Nodup, List.pairwise_map]
  refine List.Pairwise.imp (R := fun p q : Bs × Bs => p.1 < q.1) ?_ h
  intro a b hab e
  rw [e] at hab
  exact lt_irr _ hab
theorem mem_iff_getF {l : Files} (h : SortedF l) (k v : Bs) : (k, v) ∈ l ↔ getF l k = some v := by
  induction l with
  | nil => simp [getF]
  | cons p l ih =>
    have hp := List.pairwise_cons.1 h
    rw [getF_cons, List.mem_cons]
    by_cases e : p.1 = k
    · rw [if_pos e]
      constructor
      · rintro (h1 | h1)
        · rw [← h1]
        · exact absurd (hp.1 _ h1) (by rw [e]; exact lt_irr k)
      · intro h1
        left
        cases h1
        rw [← e]
    · rw [if_neg e, ← ih hp.2]
      constructor
      · rintro (h1 | h1)
        · exact absurd (by rw [← h1]) e
        · exact h1
      · exact .inr
theorem mem_iff_getE {α : Type} [DecidableEq α] {es : List (Ent α)} (hn : (es.map (·.key)).Nodup) (k : α) (v : Value) : (k, v) ∈ es.map (fun e => (e.key, e.val)) ↔ getE es k = some v := by
  induction es with
  | nil => simp [getE]
  | cons e es ih =>
    simp only [List.map_cons, List.nodup_cons] at hn
    simp only [getE, List.find?_cons, List.map_cons, List.mem_cons] at ih ⊢
    by_cases h : e.key = k
    · subst h
      simp only [decide_true, Option.map_some]
      constructor
      · rintro (h1 | h1)
        · cases h1; rfl
        · obtain ⟨e2, he2, h2⟩ := List.mem_map.1 h1
          exact absurd (List.mem_map.2 ⟨e2, he2, (Prod.mk.inj h2).1⟩) hn.1
      · intro h1; left; cases h1; rfl
    · simp only [h, decide_false]
      rw [← ih hn.2]
      constructor
      · rintro (h1 | h1)
        · exact absurd (Prod.mk.inj h1).1.symm h
        · exact h1
      · exact .inr
/-- the entries are the files, in some order -/
theorem FilesR.perm {es : List (Ent Bs)} {l : Files} (h : FilesR es l) (hn : (es.map (·.key)).Nodup) : (es.map (fun e => (e.key, e.val))).Perm (l.map fun p => (p.1, vs p.2)) := by
  have n1 : (es.map (fun e => (e.key, e.val))).Nodup := by
    refine nodup_of_map (f := Prod.fst) ?_
    rw [List.map_map]; exact hn
  have n2 : (l.map fun p => (p.1, vs p.2)).Nodup := by
    refine nodup_of_map (f := Prod.fst) ?_
    rw [List.map_map]; exact sorted_nodup h.1
  rw [List.perm_ext_iff_of_nodup n1 n2]
  rintro ⟨k, v⟩
  rw [mem_iff_getE hn, h.2]
  constructor
  · intro h1
    obtain ⟨x, hx, rfl⟩ := Option.map_eq_some_iff.1 h1
    exact List.mem_map.2 ⟨(k, x), (mem_iff_getF h.1 k x).2 hx, rfl⟩
  · intro h1
    obtain ⟨⟨a, x⟩, hx, he⟩ := List.mem_map.1 h1
    obtain ⟨rfl, rfl⟩ := Prod.mk.inj he
    rw [(mem_iff_getF h.1 a x).1 hx]; rfl

/-! ### events, disks -/
structure Ev where
  op : Nat
  name : Bs
  to_ : Bs
  data : Bs
def Ev.cells (e : Ev) : List Value := [.int .i64 e.op, vs e.name, vs e.to_, vs e.data]
def evCells (l : List Ev) : List Value := l.flatMap Ev.cells
theorem evCells_length (l : List Ev) : (evCells l).length = l.length * 4 := by
  induction l with
  | nil => rfl
  | cons e l ih => simp only [evCells, List.flatMap_cons, List.length_append, List.length_cons] at ih ⊢; rw [ih]; simp [Ev.cells]; omega
theorem evCells_snoc (l : List Ev) (e : Ev) : evCells (l ++ [e]) = evCells l ++ e.cells := by simp [evCells]
def doF (l : Files) (e : Ev) : Files :=
  if e.op = 1 then putF l e.name e.data
  else if e.op = 2 then putF l e.name (dataF l e.name ++ e.data)
  else if e.op = 3 then putF (delF l e.name) e.to_ (dataF l e.name)
  else if e.op = 4 then delF l e.name
  else l
theorem doF_sorted {l : Files} (h : SortedF l) (e : Ev) : SortedF (doF l e) := by
  unfold doF
  split
  · exact h.put _ _
  split
  · exact h.put _ _
  split
  · exact (h.del _).put _ _
  split
  · exact h.del _
  · exact h
structure DS where
  now : Files
  sure : Files
  pend : List Ev
  trace : List Ev
  quota : Int
  fuse : Int
  dead : Bool
def DS.new : DS := ⟨[], [], [], [], 1048576, -1, false⟩
def DS.burnt (d : DS) : DS := { d with fuse := if 0 < d.fuse then d.fuse - 1 else d.fuse }
def DS.done (d : DS) (e : Ev) : DS × Nat :=
  if d.dead = true ∨ d.fuse = 0 then ({ d with dead := true }, 13)
  else if e.op = 5 then ({ d.burnt with trace := d.trace ++ [e], sure := d.now, pend := [] }, 0)
  else ({ d.burnt with trace := d.trace ++ [e], now := doF d.now e, pend := d.pend ++ [e] }, 0)
def mayC (c : UInt8) : Bool := (97 ≤ c.toNat && c.toNat ≤ 122) || (48 ≤ c.toNat && c.toNat ≤ 57) || c.toNat == 46 || c.toNat == 95 || c.toNat == 45 || c.toNat == 47
def mayN (s : Bs) : Bool := s.all mayC && decide (1 ≤ s.length) && decide (s.length ≤ 80)
def DS.write (d : DS) (n b : Bs) : DS × Nat :=
  if mayN n = false then (d, 1)
  else if getF d.now n = none ∧ 200 ≤ d.now.length then (d, 4)
  else if d.quota < (sizeF d.now : Int) - (dataF d.now n).length + b.length then (d, 12)
  else d.done ⟨1, n, [], b⟩
def DS.append (d : DS) (n b : Bs) : DS × Nat :=
  if getF d.now n = none then (d, 10)
  else if d.quota < (sizeF d.now : Int) + b.length then (d, 12)
  else d.done ⟨2, n, [], b⟩
def DS.rename (d : DS) (n t : Bs) : DS × Nat :=
  if getF d.now n = none then (d, 10) else if mayN t = false then (d, 1) else d.done ⟨3, n, t, []⟩
def DS.remove (d : DS) (n : Bs) : DS × Nat := if getF d.now n = none then (d, 10) else d.done ⟨4, n, [], []⟩
def DS.sync (d : DS) : DS × Nat := d.done ⟨5, [], [], []⟩
def DS.read (d : DS) (n : Bs) : Bs × Nat := match getF d.now n with | none => ([], 10) | some b => (b, 0)
def DS.setQuota (d : DS) (n : Int) : DS := { d with quota := if n < 0 then 0 else n }
def DS.setFuse (d : DS) (n : Int) : DS := if d.dead = true then d else { d with fuse := if n < 0 then -1 else n }
def DS.crash (d : DS) (n : Int) : DS :=
  let l := (d.pend.take n.toNat).foldl doF d.sure
  { d with now := l, sure := l, pend := [], dead := false, fuse := -1 }
def DS.edit (d : DS) (n b : Bs) : DS × Nat :=
  if getF d.now n = none then (d, 10)
  else ({ d with now := putF d.now n b, sure := if getF d.sure n = none then d.sure else putF d.sure n b }, 0)

/-! ### the program's disk in memory -/
structure DiskAt (TD TE : TypeId) (w : World) (F : Nat → Prop) (b : Nat) (d : DS) : Prop where
  ex : ∃ (mN mS : Nat) (vP vT : Value) (esN esS : List (Ent Bs)) (cN cS : Nat),
    w.heap[b]? = some (.cells #[.map (some mN), .map (some mS), vP, vT, .int .i64 d.quota, .int .i64 d.fuse, .bool d.dead] TD (0, 0)) ∧
    MapB vs w mN esN cN ∧ FilesR esN d.now ∧ MapB vs w mS esS cS ∧ FilesR esS d.sure ∧ mN ≠ mS ∧
    w.ownsRow 0 TE 4 vP d.pend.length (evCells d.pend) ∧ w.ownsRow 0 TE 4 vT d.trace.length (evCells d.trace) ∧ (∀ k, vP.ownBlock = some k → vT.ownBlock ≠ some k) ∧
    (∀ k, F k ↔ k = b ∨ k = mN ∨ k = mS ∨ vP.ownBlock = some k ∨ vT.ownBlock = some k)
  types : TD ≠ TE

section
variable {TD TE : TypeId} {w w' : World} {F S : Nat → Prop} {b : Nat} {d : DS}
theorem DiskAt.lt (h : DiskAt TD TE w F b d) : ∀ k, F k → k < w.heap.size := by
  obtain ⟨⟨mN, mS, vP, vT, esN, esS, cN, cS, hb, hMN, hFN, hMS, hFS, hne, hP, hT, hPT, hF⟩, hty⟩ := h
  intro k hk
  rcases (hF k).1 hk with rfl | rfl | rfl | h | h
  · exact lt_of_heap hb
  · exact lt_of_heap hMN.heap
  · exact lt_of_heap hMS.heap
  · exact (hP.lt k h).2
  · exact (hT.lt k h).2
theorem DiskAt.self (h : DiskAt TD TE w F b d) : F b := by
  obtain ⟨⟨mN, mS, vP, vT, esN, esS, cN, cS, hb, hMN, hFN, hMS, hFS, hne, hP, hT, hPT, hF⟩, hty⟩ := h
  exact (hF b).2 (.inl rfl)
theorem DiskAt.kept (h : DiskAt TD TE w F b d) (hc : Chg S w w') (hs : ∀ k, F k → ¬ S k) : DiskAt TD TE w' F b d := by
  have hl := h.lt
  obtain ⟨⟨mN, mS, vP, vT, esN, esS, cN, cS, hb, hMN, hFN, hMS, hFS, hne, hP, hT, hPT, hF⟩, hty⟩ := h
  refine ⟨⟨mN, mS, vP, vT, esN, esS, cN, cS, (hc.block b (lt_of_heap hb) (hs b ((hF b).2 (.inl rfl)))).trans hb, hMN.kept hc (hs mN ((hF mN).2 (.inr (.inl rfl)))), hFN, hMS.kept hc (hs mS ((hF mS).2 (.inr (.inr (.inl rfl))))), hFS, hne, ownsRow_chg hP hc (fun k hk => hs k ((hF k).2 (.inr (.inr (.inr (.inl hk)))))), ownsRow_chg hT hc (fun k hk => hs k ((hF k).2 (.inr (.inr (.inr (.inr hk)))))), hPT, hF⟩, hty⟩
theorem DiskAt.keptB (h : DiskAt TD TE w F b d) (hc : Below w.heap.size w w') : DiskAt TD TE w' F b d := h.kept (S := fun _ => False) (Chg.of_below hc) (fun _ _ h => h)
/-- a store into one of the plain cells -/
theorem DiskAt.setFuse (h : DiskAt TD TE w F b d) (f : Int) : DiskAt TD TE (w.setCell ⟨b, 5, none⟩ (.int .i64 f)) F b { d with fuse := f } := by
  obtain ⟨⟨mN, mS, vP, vT, esN, esS, cN, cS, hb, hMN, hFN, hMS, hFS, hne, hP, hT, hPT, hF⟩, hty⟩ := h
  have h1 : mN ≠ b := by intro e; subst e; rw [hMN.heap] at hb; cases hb
  have h2 : mS ≠ b := by intro e; subst e; rw [hMS.heap] at hb; cases hb
  have h3 := own_ne hP hb hty
  have h4 := own_ne hT hb hty
  have hc := chg1 w b 5 (.int .i64 f)
  exact ⟨⟨mN, mS, vP, vT, esN, esS, cN, cS, heap_setCell_same _ _ _ _ _ _ hb, hMN.kept hc h1, hFN, hMS.kept hc h2, hFS, hne, ownsRow_chg hP hc (fun k hk e => h3 (by rw [hk, e])), ownsRow_chg hT hc (fun k hk e => h4 (by rw [hk, e])), hPT, hF⟩, hty⟩
theorem DiskAt.setQ (h : DiskAt TD TE w F b d) (f : Int) : DiskAt TD TE (w.setCell ⟨b, 4, none⟩ (.int .i64 f)) F b { d with quota := f } := by
  obtain ⟨⟨mN, mS, vP, vT, esN, esS, cN, cS, hb, hMN, hFN, hMS, hFS, hne, hP, hT, hPT, hF⟩, hty⟩ := h
  have h1 : mN ≠ b := by intro e; subst e; rw [hMN.heap] at hb; cases hb
  have h2 : mS ≠ b := by intro e; subst e; rw [hMS.heap] at hb; cases hb
  have h3 := own_ne hP hb hty
  have h4 := own_ne hT hb hty
  have hc := chg1 w b 4 (.int .i64 f)
  exact ⟨⟨mN, mS, vP, vT, esN, esS, cN, cS, heap_setCell_same _ _ _ _ _ _ hb, hMN.kept hc h1, hFN, hMS.kept hc h2, hFS, hne, ownsRow_chg hP hc (fun k hk e => h3 (by rw [hk, e])), ownsRow_chg hT hc (fun k hk e => h4 (by rw [hk, e])), hPT, hF⟩, hty⟩
theorem DiskAt.setDead (h : DiskAt TD TE w F b d) (f : Bool) : DiskAt TD TE (w.setCell ⟨b, 6, none⟩ (.bool f)) F b { d with dead := f } := by
  obtain ⟨⟨mN, mS, vP, vT, esN, esS, cN, cS, hb, hMN, hFN, hMS, hFS, hne, hP, hT, hPT, hF⟩, hty⟩ := h
  have h1 : mN ≠ b := by intro e; subst e; rw [hMN.heap] at hb; cases hb
  have h2 : mS ≠ b := by intro e; subst e; rw [hMS.heap] at hb; cases hb
  have h3 := own_ne hP hb hty
  have h4 := own_ne hT hb hty
  have hc := chg1 w b 6 (.bool f)
  exact ⟨⟨mN, mS, vP, vT, esN, esS, cN, cS, heap_setCell_same _ _ _ _ _ _ hb, hMN.kept hc h1, hFN, hMS.kept hc h2, hFS, hne, ownsRow_chg hP hc (fun k hk e => h3 (by rw [hk, e])), ownsRow_chg hT hc (fun k hk e => h4 (by rw [hk, e])), hPT, hF⟩, hty⟩
end
end Go.Proofs.YtahdldbfcjbklaaGreat
