/- Maps in memory: a block known whole, entry by entry. No function of the program. -/
import Derived.Test.YtahdldbfcjbklaaGreatBase
import Derived.MapKept
import Derived.ChangeMaps4
namespace Go.Proofs.YtahdldbfcjbklaaGreat
open Go.RowKit Go.MapKept
open Go.ChangeMaps (setBlock)

structure KeyT {α : Type} [DecidableEq α] (P : Program) (kt : TypeId) (kv : α → Value) : Prop where
  hk : ∃ d, P.underlying kt = some d ∧ ∀ a, IsKey d (kv a)
  inj : ∀ a b, kv a = kv b → a = b
  same : ∀ a, Instr.sameBits 10000 (kv a) (kv a) = true

structure Ent (α : Type) where
  key : α
  val : Value
  born : Nat
def Ent.entry {α : Type} (kv : α → Value) (e : Ent α) : MapEntry := { key := kv e.key, val := e.val, born := e.born }
structure MapB {α : Type} (kv : α → Value) (w : World) (m : Nat) (es : List (Ent α)) (c : Nat) : Prop where
  heap : w.heap[m]? = some (.map (es.map (Ent.entry kv)).toArray c)
  keys : (es.map (·.key)).Nodup
  born : (es.map (·.born)).Nodup
  lt : ∀ e ∈ es, e.born < c

section
variable {α : Type} [DecidableEq α] {P : Program} {kt : TypeId} {kv : α → Value}
def getE (es : List (Ent α)) (k : α) : Option Value := (es.find? (fun e => decide (e.key = k))).map (·.val)
def hasE (es : List (Ent α)) (k : α) : Bool := es.any (fun e => decide (e.key = k))
def putE (es : List (Ent α)) (k : α) (v : Value) (c : Nat) : List (Ent α) :=
  if hasE es k then es.map (fun e => if e.key = k then { e with val := v } else e) else es ++ [⟨k, v, c⟩]
def clkE (es : List (Ent α)) (k : α) (c : Nat) : Nat := if hasE es k then c else c + 1
def delE (es : List (Ent α)) (k : α) : List (Ent α) := es.filter (fun e => decide (e.key ≠ k))

theorem map_unique {α β : Type} {f : α → β} {es : List α} (hn : (es.map f).Nodup) {i j : Nat} {e e2 : α} (hi : es[i]? = some e) (hj : es[j]? = some e2) (h : f e = f e2) : i = j := by
  have hp := List.pairwise_map.1 hn
  rw [List.pairwise_iff_getElem] at hp
  obtain ⟨hil, e1i⟩ := List.getElem?_eq_some_iff.1 hi
  obtain ⟨hjl, e2i⟩ := List.getElem?_eq_some_iff.1 hj
  rcases Nat.lt_trichotomy i j with h1 | h1 | h1
  · exact absurd (by rw [e1i, e2i]; exact h) (hp i j hil hjl h1)
  · exact h1
  · exact absurd (by rw [e1i, e2i]; exact h.symm) (hp j i hjl hil h1)
theorem getE_none {es : List (Ent α)} {k : α} : getE es k = none ↔ ∀ e ∈ es, e.key ≠ k := by simp [getE]
theorem hasE_get (es : List (Ent α)) (k : α) : hasE es k = (getE es k).isSome := by
  rw [Bool.eq_iff_iff]
  simp [hasE, getE]
theorem findNow_ents (K : KeyT P kt kv) {d : TypeDesc} (hk : ∀ a, IsKey d (kv a)) (es : List (Ent α)) (k : α) (hn : (es.map (·.key)).Nodup) :
    (getE es k = none ∧ Instr.findNow d (kv k) (es.map (Ent.entry kv)) 0 = some none) ∨
    ∃ j e, es[j]? = some e ∧ e.key = k ∧ getE es k = some e.val ∧ Instr.findNow d (kv k) (es.map (Ent.entry kv)) 0 = some (some (j, e.val)) := by
  rcases findNow_spec (hk k) (es.map (Ent.entry kv)) 0 (by intro x hx; obtain ⟨e, _, rfl⟩ := List.mem_map.1 hx; exact hk e.key) with ⟨h1, h2⟩ | ⟨j, e', h1, h2, h3⟩
  · refine .inl ⟨getE_none.2 fun e he hek => h2 _ (List.mem_map.2 ⟨e, he, rfl⟩) (by simp [Ent.entry, hek]), h1⟩
  · rw [List.getElem?_map] at h2
    obtain ⟨e, he, rfl⟩ := Option.map_eq_some_iff.1 h2
    have hek : e.key = k := K.inj _ _ h3
    refine .inr ⟨j, e, he, hek, ?_, by simpa [Ent.entry] using h1⟩
    unfold getE
    have hmem : e ∈ es := List.mem_of_getElem? he
    cases hf : es.find? (fun e => decide (e.key = k)) with
    | none =>
      rw [List.find?_eq_none] at hf
      exact absurd hek (by simpa using hf e hmem)
    | some e2 =>
      have hm2 := List.mem_of_find?_eq_some hf
      have hk2 : e2.key = k := by simpa using List.find?_some hf
      have : e2 = e := by
        obtain ⟨i2, hi2⟩ := List.mem_iff_getElem?.1 hm2
        obtain rfl := map_unique hn hi2 he (hk2.trans hek.symm)
        exact Option.some.inj (hi2.symm.trans he)
      subst this; rfl

theorem run_lookup_map (K : KeyT P kt kv) {t et : TypeId} (ht : P.underlying t = some (.map kt et)) {w : World} {z : Value} (hz : (zeroValue et).run P w = .ok z w) {m : Nat} {es : List (Ent α)} {c : Nat} (h : MapB kv w m es c) (k : α) :
    (Instr.lookup t (.map (some m)) (kv k) true).run P w = .ok (.tuple #[(getE es k).getD z, .bool (getE es k).isSome]) w ∧
    (Instr.lookup t (.map (some m)) (kv k) false).run P w = .ok ((getE es k).getD z) w := by
  obtain ⟨d, hd, hk⟩ := K.hk
  have hg := MapKept.run_getObj_map (P := P) h.heap
  have hc := fun b => run_checkKey (P := P) (w := w) hd (hk k) b 9999
  rcases findNow_ents K hk es k h.keys with ⟨h1, h2⟩ | ⟨j, e, h0, h3, h1, h2⟩
  all_goals
    have hf := run_findKey (P := P) (w := w) hd h2
    constructor
    all_goals simp [Instr.lookup, run_underlying ht, hg, hc, hf, hz, h1, Result.andThen]

theorem modify_ents (es : List (Ent α)) (k : α) (v : Value) (hn : (es.map (·.key)).Nodup) (j : Nat) (e : Ent α) (he : es[j]? = some e) (hek : e.key = k) :
    ((es.map (Ent.entry kv)).toArray.modify j fun e => { e with key := kv k, val := v }) = ((es.map (fun e => if e.key = k then { e with val := v } else e)).map (Ent.entry kv)).toArray := by
  apply Array.ext_getElem?
  intro i
  rw [Array.getElem?_modify]
  simp only [List.getElem?_toArray, List.getElem?_map]
  by_cases hij : j = i
  · subst hij
    simp [he, hek, Ent.entry]
  · rw [if_neg hij]
    cases hi : es[i]? with
    | none => rfl
    | some e2 =>
      have hne : e2.key ≠ k := by
        intro h2
        exact hij (map_unique hn he hi (hek.trans h2.symm))
      simp [hne]

theorem putE_keys (es : List (Ent α)) (k : α) (v : Value) (c : Nat) (hn : (es.map (·.key)).Nodup) : ((putE es k v c).map (·.key)).Nodup := by
  unfold putE
  split
  · rw [List.map_map]
    rw [show ((·.key) ∘ fun e : Ent α => if e.key = k then { e with val := v } else e) = (·.key) from by funext e; simp only [Function.comp]; split <;> rfl]
    exact hn
  · rename_i hh
    rw [List.map_append, List.nodup_append]
    refine ⟨hn, by simp, ?_⟩
    intro a ha b hb
    simp only [List.map_cons, List.map_nil, List.mem_singleton] at hb
    obtain ⟨e, he, rfl⟩ := List.mem_map.1 ha
    subst hb
    intro h2
    exact hh (List.any_eq_true.2 ⟨e, he, by simp [h2]⟩)
theorem putE_born (es : List (Ent α)) (k : α) (v : Value) (c : Nat) (hn : (es.map (·.born)).Nodup) (hl : ∀ e ∈ es, e.born < c) :
    ((putE es k v c).map (·.born)).Nodup ∧ ∀ e ∈ putE es k v c, e.born < clkE es k c := by
  unfold putE clkE
  split
  · rw [List.map_map]
    rw [show ((·.born) ∘ fun e : Ent α => if e.key = k then { e with val := v } else e) = (·.born) from by funext e; simp only [Function.comp]; split <;> rfl]
    refine ⟨hn, ?_⟩
    intro e he
    obtain ⟨e', he', rfl⟩ := List.mem_map.1 he
    have := hl e' he'
    split <;> exact this
  · refine ⟨?_, ?_⟩
    · rw [List.map_append, List.nodup_append]
      refine ⟨hn, by simp, ?_⟩
      intro a ha b hb
      simp only [List.map_cons, List.map_nil, List.mem_singleton] at hb
      obtain ⟨e, he, rfl⟩ := List.mem_map.1 ha
      have := hl e he
      omega
    · intro e he
      rcases List.mem_append.1 he with h | h
      · have := hl e h; omega
      · simp only [List.mem_singleton] at h; subst h; exact Nat.lt_succ_self _

/-- a map's block behind a store -/
theorem run_mapUpdate_map (K : KeyT P kt kv) {t et : TypeId} (ht : P.underlying t = some (.map kt et)) {w : World} {m : Nat} {es : List (Ent α)} {c : Nat} (h : MapB kv w m es c) (k : α) (v : Value) :
    (Instr.mapUpdate t (.map (some m)) (kv k) v).run P w = .ok () (setBlock w m (.map ((putE es k v c).map (Ent.entry kv)).toArray (clkE es k c))) := by
  obtain ⟨d, hd, hk⟩ := K.hk
  have hg := MapKept.run_getObj_map (P := P) h.heap
  have hc := fun b => run_checkKey (P := P) (w := w) hd (hk k) b 9999
  have hs := fun o => run_setObj_map (P := P) (w := w) o h.heap
  rcases findNow_ents K hk es k h.keys with ⟨h1, h2⟩ | ⟨j, e, h0, h3, h1, h2⟩
  · have hf := run_findKey (P := P) (w := w) hd h2
    have hh : hasE es k = false := by rw [hasE_get, h1]; rfl
    simp [Instr.mapUpdate, run_underlying ht, hg, hc, hf, hs, Result.andThen, putE, clkE, hh, setBlock, Ent.entry]
  · have hf := run_findKey (P := P) (w := w) hd h2
    have hh : hasE es k = true := by rw [hasE_get, h1]; rfl
    have hkey : ((es.map (Ent.entry kv))[j]?.map (·.key)).getD (kv k) = kv k := by simp [h0, Ent.entry, h3]
    have hst : (Instr.keyThatStays (kv k) (kv k)).run P w = .ok (kv k) w := by simp [Instr.keyThatStays, K.same]
    have hm := modify_ents (kv := kv) es k v h.keys j e h0 h3
    simp only [Instr.mapUpdate, Sem.run_bind, run_underlying ht, Result.andThen, hg, hc, hf, List.getElem?_toArray, hkey, hst, hs, putE, clkE, hh, if_true, setBlock, hm]

theorem block_setBlock {w : World} {m : Nat} {o o' : Obj} (h : w.heap[m]? = some o) : (setBlock w m o').heap[m]? = some o' := (heap_set h).1
theorem chg_setBlock (w : World) (m : Nat) (o : Obj) : Chg (· = m) w (setBlock w m o) := ⟨rfl, rfl, rfl, by simp [setBlock], fun k _ hk => by simp [setBlock, Ne.symm hk]⟩
theorem MapB.put {w : World} {m : Nat} {es : List (Ent α)} {c : Nat} (h : MapB kv w m es c) (k : α) (v : Value) : MapB kv (setBlock w m (.map ((putE es k v c).map (Ent.entry kv)).toArray (clkE es k c))) m (putE es k v c) (clkE es k c) :=
  ⟨block_setBlock h.heap, putE_keys es k v c h.keys, (putE_born es k v c h.born h.lt).1, (putE_born es k v c h.born h.lt).2⟩
omit [DecidableEq α] in
theorem MapB.kept {w w' : World} {S : Nat → Prop} {m : Nat} {es : List (Ent α)} {c : Nat} (h : MapB kv w m es c) (hc : Chg S w w') (hs : ¬ S m) : MapB kv w' m es c :=
  ⟨(hc.block m (lt_of_heap h.heap) hs).trans h.heap, h.keys, h.born, h.lt⟩
omit [DecidableEq α] in
theorem MapB.drewN {w : World} {m : Nat} {es : List (Ent α)} {c : Nat} (h : MapB kv w m es c) (n : Nat) : MapB kv (w.drewN n) m es c := ⟨h.heap, h.keys, h.born, h.lt⟩
omit [DecidableEq α] in
theorem MapB.drew {w : World} {m : Nat} {es : List (Ent α)} {c : Nat} (h : MapB kv w m es c) : MapB kv w.drew m es c := ⟨h.heap, h.keys, h.born, h.lt⟩

omit [DecidableEq α] in
theorem eraseIdx_map' {β : Type} (f : α → β) (l : List α) (j : Nat) : (l.map f).eraseIdx j = (l.eraseIdx j).map f := by
  induction l generalizing j with
  | nil => rfl
  | cons x l ih =>
    cases j with
    | zero => rfl
    | succ j => simp [ih]
theorem erase_ents (es : List (Ent α)) (k : α) (hn : (es.map (·.key)).Nodup) (j : Nat) (e : Ent α) (he : es[j]? = some e) (hek : e.key = k) : es.eraseIdx j = delE es k := by
  induction es generalizing j with
  | nil => simp at he
  | cons x es ih =>
    simp only [List.map_cons, List.nodup_cons] at hn
    cases j with
    | zero =>
      simp only [List.getElem?_cons_zero, Option.some.injEq] at he
      subst he
      have : es.filter (fun e => decide (e.key ≠ k)) = es := by
        rw [List.filter_eq_self]
        intro e2 he2
        simp only [decide_eq_true_eq]
        intro h2
        exact hn.1 (List.mem_map.2 ⟨e2, he2, h2.trans hek.symm⟩)
      rw [delE, List.filter_cons_of_neg (by simpa using hek)]; exact this.symm
    | succ j =>
      simp only [List.getElem?_cons_succ] at he
      have hx : x.key ≠ k := by
        intro h2
        exact hn.1 (List.mem_map.2 ⟨e, List.mem_of_getElem? he, hek.trans h2.symm⟩)
      have := ih hn.2 j he
      simp only [delE, List.eraseIdx_cons_succ, List.filter_cons, hx, ne_eq, not_false_eq_true, decide_true, if_true]
      rw [this]; simp [delE]

theorem MapB.del {w : World} {m : Nat} {es : List (Ent α)} {c : Nat} (h : MapB kv w m es c) (k : α) : MapB kv (setBlock w m (.map ((delE es k).map (Ent.entry kv)).toArray c)) m (delE es k) c :=
  ⟨block_setBlock h.heap, (List.filter_sublist.map _).nodup h.keys, (List.filter_sublist.map _).nodup h.born, fun e he => h.lt e (List.mem_filter.1 he).1⟩
theorem run_delete_map (K : KeyT P kt kv) {t et : TypeId} (ht : P.underlying t = some (.map kt et)) {w : World} {m : Nat} {es : List (Ent α)} {c : Nat} (h : MapB kv w m es c) (k : α) (tk ty : TypeId) :
    (Builtin.delete_ #[t, tk] ty #[.map (some m), kv k]).run P w = .ok (.tuple #[]) (setBlock w m (.map ((delE es k).map (Ent.entry kv)).toArray c)) := by
  obtain ⟨d, hd, hk⟩ := K.hk
  have hg := MapKept.run_getObj_map (P := P) h.heap
  have hc := fun b => run_checkKey (P := P) (w := w) hd (hk k) b 9999
  have hs := fun o => run_setObj_map (P := P) (w := w) o h.heap
  rcases findNow_ents K hk es k h.keys with ⟨h1, h2⟩ | ⟨j, e, h0, h3, h1, h2⟩
  · have hf := run_findKey (P := P) (w := w) hd h2
    have hd : delE es k = es := by
      unfold delE
      rw [List.filter_eq_self]
      intro e he
      simpa using getE_none.1 h1 e he
    simp [Builtin.delete_, run_underlying ht, hg, hc, hf, hs, Result.andThen, setBlock, hd]
  · have hf := run_findKey (P := P) (w := w) hd h2
    have hjl : j < es.length := (List.getElem?_eq_some_iff.1 h0).1
    have hd : (es.map (Ent.entry kv)).toArray.eraseIdxIfInBounds j = ((delE es k).map (Ent.entry kv)).toArray := by
      rw [← erase_ents es k h.keys j e h0 h3]
      simp [Array.eraseIdxIfInBounds, hjl, eraseIdx_map']
    simp only [Builtin.delete_, Sem.run_bind, run_underlying ht, Result.andThen, hg, hc, hf, hs, setBlock, hd, List.getElem?_toArray, List.getElem?_cons_zero, List.getElem?_cons_succ, Sem.run_pure]

omit [DecidableEq α] in
theorem run_len_map {t et : TypeId} (ht : P.underlying t = some (.map kt et)) {w : World} {m : Nat} {es : List (Ent α)} {c : Nat} (h : MapB kv w m es c) (ty : TypeId) :
    (Builtin.len_ #[t] ty #[.map (some m)]).run P w = .ok (.int .i64 es.length) w := by
  have hg := MapKept.run_getObj_map (P := P) h.heap
  simp [Builtin.len_, run_underlying ht, hg, Result.andThen, goInt]

/-! ### a range over a map -/
/-- what has come so far -/
structure Seen (es done : List (Ent α)) : Prop where
  sub : done ⊆ es
  nodup : (done.map (·.born)).Nodup
omit [DecidableEq α] in
theorem Seen.start (es : List (Ent α)) : Seen es [] := ⟨List.nil_subset _, List.nodup_nil⟩
omit [DecidableEq α] in
theorem Seen.step {es done : List (Ent α)} (h : Seen es done) {e : Ent α} (he : e ∈ es) (hn : e.born ∉ done.map (·.born)) : Seen es (done ++ [e]) := by
  refine ⟨fun x hx => ?_, ?_⟩
  · rcases List.mem_append.1 hx with h1 | h1
    · exact h.sub h1
    · simp only [List.mem_singleton] at h1; subst h1; exact he
  · rw [List.map_append, List.nodup_append]
    refine ⟨h.nodup, by simp, ?_⟩
    intro a ha b hb
    simp only [List.map_cons, List.map_nil, List.mem_singleton] at hb
    subst hb
    intro h2
    exact hn (h2 ▸ ha)
omit [DecidableEq α] in
theorem nodup_of_map {β : Type} {f : α → β} {l : List α} (h : (l.map f).Nodup) : l.Nodup := by
  induction l with
  | nil => exact List.nodup_nil
  | cons x l ih =>
    simp only [List.map_cons, List.nodup_cons] at h ⊢
    exact ⟨fun hx => h.1 (List.mem_map.2 ⟨x, hx, rfl⟩), ih h.2⟩
omit [DecidableEq α] in
theorem Seen.le {es done : List (Ent α)} (h : Seen es done) : done.length ≤ es.length := (nodup_of_map h.nodup).length_le_of_subset h.sub
omit [DecidableEq α] in
theorem Seen.all {es done : List (Ent α)} (h : Seen es done) (hb : (es.map (·.born)).Nodup) (ha : ∀ e ∈ es, e.born ∈ done.map (·.born)) : done.Perm es := by
  rw [List.perm_ext_iff_of_nodup (nodup_of_map h.nodup) (nodup_of_map hb)]
  intro e
  refine ⟨fun he => h.sub he, fun he => ?_⟩
  obtain ⟨e2, he2, h2⟩ := List.mem_map.1 (ha e he)
  obtain ⟨i, hi⟩ := List.mem_iff_getElem?.1 he
  obtain ⟨j, hj⟩ := List.mem_iff_getElem?.1 (h.sub he2)
  obtain rfl := map_unique hb hi hj h2.symm
  rw [hi] at hj
  cases hj
  exact he2

omit [DecidableEq α] in
theorem run_range_map {t et : TypeId} (ht : P.underlying t = some (.map kt et)) {w : World} {m : Nat} {es : List (Ent α)} {c : Nat} (h : MapB kv w m es c) :
    (Instr.range t (.map (some m))).run P w = .ok (.pointer (some ⟨w.heap.size, 0, none⟩)) (w.alloc (.mapIter (some m) c #[] c)) := by
  have hg := MapKept.run_getObj_map (P := P) h.heap
  simp [Instr.range, run_underlying ht, hg, Result.andThen]

omit [DecidableEq α] in
theorem run_entry_map {w : World} {m r : Nat} {es done : List (Ent α)} {c : Nat} (h : MapB kv w m es c) {e : Ent α} (he : e ∈ es) (hi : w.heap[r]? = some (.mapIter (some m) c ((done ++ [e]).map (·.born)).toArray c)) :
    (Instr.entry (.pointer (some ⟨r, 0, none⟩))).run P w = .ok (.tuple #[kv e.key, e.val]) w := by
  have hg := MapKept.run_getObj_map (P := P) h.heap
  have hgi : (getObj r).run P w = .ok (.mapIter (some m) c ((done ++ [e]).map (·.born)).toArray c) w := by simp [getObj, Sem.run, hi]
  have hf : (es.map (Ent.entry kv)).toArray.find? (fun x => x.born == e.born) = some (e.entry kv) := by
    rw [List.find?_toArray, List.find?_map]
    have : es.find? ((fun x : MapEntry => x.born == e.born) ∘ Ent.entry kv) = some e := by
      cases hf : es.find? ((fun x : MapEntry => x.born == e.born) ∘ Ent.entry kv) with
      | none =>
        rw [List.find?_eq_none] at hf
        exact absurd (by simp [Ent.entry]) (hf e he)
      | some e2 =>
        have h1 := List.mem_of_find?_eq_some hf
        have h2 : e2.born = e.born := by simpa [Ent.entry] using List.find?_some hf
        obtain ⟨i, hi⟩ := List.mem_iff_getElem?.1 h1
        obtain ⟨j, hj⟩ := List.mem_iff_getElem?.1 he
        obtain rfl := map_unique h.born hi hj h2
        rw [hi] at hj
        exact hj
    rw [this]; rfl
  have hback : ((done ++ [e]).map (·.born)).toArray.back? = some e.born := by simp
  simp only [Instr.entry, Sem.run_bind, hgi, Result.andThen, hback, hg, hf, bne_self_eq_false, Bool.false_eq_true, if_false, Sem.run_pure, Ent.entry]

omit [DecidableEq α] in
theorem wpList_next_map {w : World} {ops : Array Oper} {rest : List Oper} {o : Oper} {a : Act} {Q : Exit → Act → World → Prop} (hg : o.guard = none) (it : Operand) (ho : o.op = .next it false)
    {m r c : Nat} {es done : List (Ent α)} (hi : a.eval it = .pointer (some ⟨r, 0, none⟩)) (hI : w.heap[r]? = some (.mapIter (some m) c (done.map (·.born)).toArray c)) (hM : MapB kv w m es c) (hS : Seen es done)
    (h0 : done.Perm es → wpList P ops Q rest (a.put o.dst (.tuple #[.bool false])) w)
    (h1 : ∀ e w', e ∈ es → done.length < es.length → Seen es (done ++ [e]) → w'.heap[r]? = some (.mapIter (some m) c ((done ++ [e]).map (·.born)).toArray c) → Chg (· = r) w w' → MapB kv w' m es c →
      (Instr.entry (.pointer (some ⟨r, 0, none⟩))).run P w' = .ok (.tuple #[kv e.key, e.val]) w' → wpList P ops Q rest (a.put o.dst (.tuple #[.bool true, kv e.key, e.val])) w') : wpList P ops Q (o :: rest) a w := by
  refine wpList_plain hg fun K hK => ?_
  have hg := MapKept.run_getObj_map (P := P) hM.heap
  have hgi : (getObj r).run P w = .ok (.mapIter (some m) c (done.map (·.born)).toArray c) w := by simp [getObj, Sem.run, hI]
  have hrm : r ≠ m := by
    intro h; subst h
    rw [hM.heap] at hI
    cases hI
  -- what is left
  have hleft : ∀ (x : Ent α), ((done.map (·.born)).toArray.contains (x.entry kv).born) = decide (x.born ∈ done.map (·.born)) := by
    intro x; rw [Bool.eq_iff_iff]; simp [Ent.entry]
  let left := es.filter (fun e => decide (e.born ∉ done.map (·.born)))
  have hL : ((es.map (Ent.entry kv)).toArray.filter fun e => !(done.map (·.born)).toArray.contains e.born) = (left.map (Ent.entry kv)).toArray := by
    rw [List.filter_toArray', List.filter_map]
    · congr 2
      refine List.filter_congr fun x _ => ?_
      simp only [Function.comp, hleft, decide_not]
    · rfl
  have hOld : ((left.map (Ent.entry kv)).toArray.filter fun e => decide (e.born < c)) = (left.map (Ent.entry kv)).toArray := by
    rw [Array.filter_eq_self]
    intro x hx
    simp only [List.mem_toArray, List.mem_map] at hx
    obtain ⟨e, he, rfl⟩ := hx
    exact decide_eq_true (hM.lt e (List.mem_filter.1 he).1)
  have hNew : ((left.map (Ent.entry kv)).toArray.filter fun e => decide (e.born ≥ c)) = #[] := by
    rw [Array.filter_eq_empty_iff]
    intro x hx
    simp only [List.mem_toArray, List.mem_map] at hx
    obtain ⟨e, he, rfl⟩ := hx
    have := hM.lt e (List.mem_filter.1 he).1
    simp only [Ent.entry, ge_iff_le, decide_eq_true_eq]; omega
  have hBad : (!(done.map (·.born)).toArray.isEmpty && !(es.map (Ent.entry kv)).toArray.isEmpty && (es.map (Ent.entry kv)).toArray.all (fun e => decide (e.born ≥ c))) = false := by
    cases es with
    | nil => simp
    | cons x es =>
      have := hM.lt x (.head _)
      simp only [List.map_cons, Bool.and_eq_false_iff]
      right
      simp [Ent.entry]
      intro h; omega
  unfold Oper.wp
  cases hle : left with
  | nil =>
    have hrun : (Instr.next (.pointer (some ⟨r, 0, none⟩)) false o.type).run P w = .ok (.tuple #[.bool false]) w := by
      simp only [Instr.next, Sem.run_bind, hgi, Result.andThen, hg, hBad, Bool.false_eq_true, if_false, hL, hOld, hNew, hle]
      simp [Question.forced]
    simp only [execOp, ho, hi, Sem.run_bind, hrun, Result.andThen, Sem.run_pure, Oper.upon]
    refine hK _ _ (h0 (hS.all hM.born fun e he => ?_))
    have : e ∉ left := by rw [hle]; simp
    simpa [left, he] using this
  | cons x xs =>
    have hsome : ∀ (j : Nat), ((left.map (Ent.entry kv)).toArray.map some)[j]? = (left[j]?).map fun e => some (e.entry kv) := by intro j; simp; rfl
    -- the draw
    obtain ⟨j, w0, hw0, hj, hch⟩ : ∃ j w0, (w0 = w ∨ w0 = w.drew) ∧ j < left.length ∧ (choose (.mapNext left.length)).run P w = .ok j w0 := by
      by_cases hf : left.length ≤ 1
      · refine ⟨0, w, .inl rfl, by rw [hle]; simp, ?_⟩
        simp [Question.forced, hf]
      · refine ⟨(Question.mapNext left.length).cut (w.tape w.drawn (.mapNext left.length)), w.drew, .inr rfl, ?_, ?_⟩
        · exact Nat.mod_lt _ (by omega)
        · simp [Question.forced, hf]
    have he : left[j]? = some left[j] := List.getElem?_eq_getElem hj
    generalize left[j] = e at he
    have hmem := List.mem_filter.1 (List.mem_of_getElem? he)
    have hnot : e.born ∉ done.map (·.born) := by simpa using hmem.2
    have hI0 : w0.heap[r]? = some (.mapIter (some m) c (done.map (·.born)).toArray c) := by rcases hw0 with rfl | rfl <;> exact hI
    have hso : (setObj r (.mapIter (some m) c ((done.map (·.born)).toArray.push e.born) c)).run P w0 = .ok () (setBlock w0 r (.mapIter (some m) c ((done.map (·.born)).toArray.push e.born) c)) := by
      simp [setObj, Sem.run, hI0, setBlock]
    have hsz : ((left.map (Ent.entry kv)).toArray.map some).size = left.length := by simp
    have hempty : (left.map (Ent.entry kv)).toArray.isEmpty = false := by rw [hle]; simp
    have hrun : (Instr.next (.pointer (some ⟨r, 0, none⟩)) false o.type).run P w = .ok (.tuple #[.bool true, kv e.key, e.val]) (setBlock w0 r (.mapIter (some m) c ((done.map (·.born)).toArray.push e.born) c)) := by
      simp only [Instr.next, Sem.run_bind, hgi, Result.andThen, hg, hBad, Bool.false_eq_true, if_false, hL, hOld, hNew, hempty, Array.append_empty, Array.empty_append, hsz, hch, hsome, he, Option.map_some, hso, Sem.run_pure, Ent.entry]
    simp only [execOp, ho, hi, Sem.run_bind, hrun, Result.andThen, Sem.run_pure, Oper.upon]
    have hchg : Chg (· = r) w (setBlock w0 r (.mapIter (some m) c ((done.map (·.born)).toArray.push e.born) c)) := by
      rcases hw0 with rfl | rfl
      · exact chg_setBlock _ _ _
      · exact (chg_setBlock _ _ _).undrew
    have hS' := hS.step hmem.1 hnot
    have hlen : done.length < es.length := by have := hS'.le; simp at this; omega
    have hM' := hM.kept hchg (fun h => hrm h.symm)
    have hr' : (setBlock w0 r (.mapIter (some m) c ((done.map (·.born)).toArray.push e.born) c)).heap[r]? = some (.mapIter (some m) c ((done ++ [e]).map (·.born)).toArray c) := by
      rw [block_setBlock hI0]; simp
    exact hK _ _ (h1 e _ hmem.1 hlen hS' hr' hchg hM' (run_entry_map hM' hmem.1 hr'))
theorem cell_setBlock_other (w : World) (m : Nat) (o : Obj) (b i : Nat) (h : b ≠ m) : (setBlock w m o).cell? ⟨b, i, none⟩ = w.cell? ⟨b, i, none⟩ :=
  World.cell?_of_block (by simp [setBlock, Ne.symm h])
end
end Go.Proofs.YtahdldbfcjbklaaGreat
