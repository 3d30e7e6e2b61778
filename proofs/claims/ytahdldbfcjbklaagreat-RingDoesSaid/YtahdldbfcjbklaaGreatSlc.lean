/- Slices of records, as lists. No function of the program. -/
import Derived.Test.YtahdldbfcjbklaaGreatDiskSpec
import Derived.Deep.RegionHeld3
import Derived.Deep.DrawnRows
namespace Go.Proofs.YtahdldbfcjbklaaGreat
open Go.RowKit
/-- one text comes before another -/
def ltB (a b : List UInt8) : Bool := decide (a < b)
@[go_sem] theorem bytesLess_vs (a b : List UInt8) : Op.bytesLess (ByteArray.mk a.toArray).toList (ByteArray.mk b.toArray).toList = ltB a b := by
  rw [Go.Proofs.bytesLess_eq, Lib.toList_data, Lib.toList_data]; rfl
@[go_sem] theorem bytesLess_l (a b : List UInt8) : Op.bytesLess a b = ltB a b := by rw [Go.Proofs.bytesLess_eq]; rfl
theorem heap_al2_new (w : World) (o o2 : Obj) : ((w.alloc o).alloc o2).heap[w.heap.size + 1]? = some o2 := by
  have := heap_alloc_new (w.alloc o) o2; simpa using this
theorem heap_al2_old (w : World) (o o2 : Obj) : ((w.alloc o).alloc o2).heap[w.heap.size]? = some o :=
  (heap_alloc_old (w.alloc o) o2 (by simp)).trans (heap_alloc_new w o)
theorem flat_length {α : Type} (f : α → List Value) (k : Nat) (hf : ∀ x, (f x).length = k) (l : List α) : (l.flatMap f).length = l.length * k := by
  induction l with
  | nil => simp
  | cons x l ih => rw [List.flatMap_cons, List.length_append, ih, hf, List.length_cons, Nat.succ_mul, Nat.add_comm]
theorem flat_get {α : Type} (f : α → List Value) (k : Nat) (hf : ∀ x, (f x).length = k) (l : List α) (i : Nat) (x : α) (hi : l[i]? = some x) (j : Nat) (hj : j < k) : (l.flatMap f)[i * k + j]? = (f x)[j]? := by
  induction l generalizing i with
  | nil => simp at hi
  | cons y l ih =>
    rw [List.flatMap_cons]
    cases i with
    | zero =>
      simp only [List.getElem?_cons_zero, Option.some.injEq] at hi
      subst hi
      rw [List.getElem?_append_left (by rw [hf]; omega)]
      simp
    | succ i =>
      simp only [List.getElem?_cons_succ] at hi
      rw [List.getElem?_append_right (by rw [hf, Nat.succ_mul]; omega), hf, ← ih i hi]
      congr 1
      rw [Nat.succ_mul]; omega
theorem ownsRow_val {w : World} {base : Nat} {e : TypeId} {size n : Nat} {v : Value} {xs : List Value} (h : w.ownsRow base e size v n xs) : ∃ av cv, v = .slice av n cv := by
  rcases h.2 with ⟨rfl, rfl⟩ | ⟨g, cap, cur, rfl, _⟩
  · exact ⟨_, _, rfl⟩
  · exact ⟨_, _, rfl⟩
theorem ownsRow_some {w : World} {base : Nat} {e : TypeId} {size n : Nat} {av : Option Addr} {cv : Nat} {xs : List Value} (h : w.ownsRow base e size (.slice av n cv) n xs) (hn : 0 < n) :
    ∃ g, av = some ⟨g, 0, none⟩ ∧ (∀ j u, xs[j]? = some u → w.cell? ⟨g, j, none⟩ = some u) ∧ g < w.heap.size ∧ base ≤ g ∧ n ≤ cv ∧ cv ≤ maxLen := by
  rcases h.2 with ⟨h1, h0⟩ | ⟨g, cap, cur, h1, hb, hg, h2, h3, h4, h5⟩
  · omega
  · cases h1
    refine ⟨g, rfl, fun j u hu => ?_, lt_of_heap hg, hb, h2, h3⟩
    have := h.cells (g := g) rfl j u hu
    have hadd : (⟨g, 0, none⟩ : Addr).add j = ⟨g, j, none⟩ := by unfold Addr.add; split <;> simp_all
    rwa [hadd] at this
/-- the cells of the record at a place -/
theorem rec_cells {α : Type} {f : α → List Value} {k : Nat} (hf : ∀ x, (f x).length = k) {l : List α} {w : World} {g : Nat} (h : ∀ j u, (l.flatMap f)[j]? = some u → w.cell? ⟨g, j, none⟩ = some u) {i : Nat} {x : α} (hi : l[i]? = some x) (j : Nat) (hj : j < k) : w.cell? ⟨g, i * k + j, none⟩ = (f x)[j]? := by
  have h1 := flat_get f k hf l i x hi j hj
  cases h2 : (f x)[j]? with
  | none => rw [List.getElem?_eq_none_iff, hf] at h2; omega
  | some u => exact h _ u (h1.trans h2)
theorem flat_snoc {α : Type} (f : α → List Value) (l : List α) (x : α) : (l ++ [x]).flatMap f = l.flatMap f ++ f x := by simp

/-- an append onto a slice that is empty, of a row (empty or not): something new, that holds the row -/
theorem run_app0 {P : Program} {t e : TypeId} {z : Value} {size bytes : Nat} (T : ElemT P t e z size bytes) (ty : TypeId) {w : World} (B g0 : Nat) (hB : B ≤ g0) (hg0 : w.heap[g0]? = some (.cells #[] e (0, 0))) (hBw : B ≤ w.heap.size)
    (vx : Value) (n : Nat) (xs : List Value) (hrow : w.ownsRow 0 e size vx n xs) (h1 : ∀ u ∈ xs, u.oneCell' = true) (h63 : n ≤ 1000000000000) (hbytes : n * bytes ≤ 140737488355328) :
    ∃ v' w', (Builtin.append_ #[t, t] ty #[.slice (some ⟨g0, 0, none⟩) 0 0, vx]).run P w = .ok v' w' ∧ w'.ownsRow B e size v' n xs ∧ Chg (· = g0) w w' := by
  obtain ⟨i, hi, hz, hsz, hby⟩ := info_parts T.hi
  have how : w.ownsRow B e size (.slice (some ⟨g0, 0, none⟩) 0 0) 0 [] := ⟨by simp, .inr ⟨g0, 0, #[], rfl, hB, hg0, Nat.le_refl _, Nat.zero_le _, by simp, by simp⟩⟩
  rcases hrow.2 with ⟨rfl, rfl⟩ | ⟨g, cap, cur, rfl, hb, hg, h3, h4, h5, h6⟩
  · have hxs : xs = [] := List.length_eq_zero_iff.1 (by have := hrow.1; simpa using this)
    subst hxs
    refine ⟨.slice (some ⟨g0, 0, none⟩) 0 0, w, ?_, how, Chg.refl _ _⟩
    simp [Builtin.append_, run_underlying T.ht, sizeOf, typeInfo, hi, Builtin.lenOf, Builtin.firstCells, storeCells]
  · obtain ⟨v', w', hr, h2, h3, _, h5⟩ := run_append_own_at (P := P) w B t ty e i z size bytes T.ht hi hz hsz hby T.hz T.hs (.slice (some ⟨g0, 0, none⟩) 0 0) 0 [] how ⟨g, 0, none⟩ n cap xs hrow.1 (fun j u hu => by
      have := hrow.cells (g := g) rfl j u hu
      exact this) h1 (by unfold maxLen; omega) (by simpa using hbytes) hBw
    simp only [Nat.zero_add, List.nil_append] at hr h2
    exact ⟨_, w', hr, h2, (chg_grown h3).mono (fun k _ hk => by simp only [Value.ownBlock, Option.some.injEq] at hk; exact hk.symm)⟩

/-- at a step of a region that draws -/
theorem step_app0 {P : Program} {t e : TypeId} {z : Value} {size bytes : Nat} (T : ElemT P t e z size bytes) {w : World} {ops : Array Oper} {o : Oper} {a : Act} {K : Act → World → Prop} {Q : Exit → Act → World → Prop} {E : Prop}
    (hgd : o.guard = none) (s x : Operand) (ho : o.op = .call { callee := .builtin .append, args := #[s, x], argTypes := #[t, t] })
    (B g0 : Nat) (hs : a.eval s = .slice (some ⟨g0, 0, none⟩) 0 0) (hB : B ≤ g0) (hg0 : w.heap[g0]? = some (.cells #[] e (0, 0))) (hBw : B ≤ w.heap.size)
    (vx : Value) (n : Nat) (xs : List Value) (hx : a.eval x = vx) (hrow : w.ownsRow 0 e size vx n xs) (h1 : ∀ u ∈ xs, u.oneCell' = true) (h63 : n ≤ 1000000000000) (hbytes : n * bytes ≤ 140737488355328)
    (h : ∀ v' w', w'.ownsRow B e size v' n xs → Chg (· = g0) w w' → K (a.put o.dst v') w') :
    if Region.wanted o (yielded ops a.tmps) = true then Oper.wp P o a w K Q else E := by
  rw [if_pos (by simp [Region.wanted, hgd])]
  obtain ⟨v', w', hr, h2, h3⟩ := run_app0 T o.type B g0 hB hg0 hBw vx n xs hrow h1 h63 hbytes
  unfold Oper.wp execOp
  simp only [ho, resolve, invoke, builtin, Sem.run_bind, Sem.run_pure, Result.andThen_ok, List.map_toArray, List.map_cons, List.map_nil, hs, hx, hr]
  exact h v' w' h2 h3
end Go.Proofs.YtahdldbfcjbklaaGreat
