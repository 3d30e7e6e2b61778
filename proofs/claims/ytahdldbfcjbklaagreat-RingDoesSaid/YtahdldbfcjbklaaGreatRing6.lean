/- ring: Domains. -/
import Derived.Test.YtahdldbfcjbklaaGreatRing5
import Derived.Test.YtahdldbfcjbklaaGreatShelf
import Derived.Maps.OwnSet
import Derived.Sort.KeysCollected
namespace Go.Proofs.YtahdldbfcjbklaaGreat
open Go.RowKit Go.MapKept Go.Sort
def insD (x : Bs) : List Bs → List Bs
  | [] => [x]
  | y :: l => if y < x then y :: insD x l else if y = x then y :: l else x :: y :: l
def domR (L : List Rw) : List Bs := L.foldl (fun out r => insD r.dom out) []
abbrev SortedD (l : List Bs) : Prop := l.Pairwise (· < ·)
theorem mem_insD (x y : Bs) (l : List Bs) : y ∈ insD x l ↔ y = x ∨ y ∈ l := by
  induction l with
  | nil => simp [insD]
  | cons z l ih =>
    unfold insD
    split
    · simp only [List.mem_cons, ih]
      constructor
      · rintro (h | h | h)
        · exact .inr (.inl h)
        · exact .inl h
        · exact .inr (.inr h)
      · rintro (h | h | h)
        · exact .inr (.inl h)
        · exact .inl h
        · exact .inr (.inr h)
    · split
      · rename_i h
        subst h
        simp only [List.mem_cons]
        constructor
        · exact .inr
        · rintro (h | h)
          · exact .inl h
          · exact h
      · simp only [List.mem_cons]
theorem sorted_insD (x : Bs) (l : List Bs) (h : SortedD l) : SortedD (insD x l) := by
  induction l with
  | nil => exact List.pairwise_singleton _ _
  | cons z l ih =>
    have hp := List.pairwise_cons.1 h
    unfold insD
    split
    · rename_i hz
      refine List.pairwise_cons.2 ⟨fun y hy => ?_, ih hp.2⟩
      rcases (mem_insD x y l).1 hy with rfl | h1
      · exact hz
      · exact hp.1 y h1
    · split
      · exact h
      · rename_i h1 h2
        have hx := lt_tri _ _ h1 h2
        refine List.pairwise_cons.2 ⟨fun y hy => ?_, h⟩
        rcases List.mem_cons.1 hy with rfl | h3
        · exact hx
        · exact List.lt_trans hx (hp.1 y h3)
theorem domR_snoc (L : List Rw) (r : Rw) : domR (L ++ [r]) = insD r.dom (domR L) := by simp [domR, List.foldl_append]
theorem domR_spec (L : List Rw) : SortedD (domR L) ∧ ∀ y, y ∈ domR L ↔ ∃ r ∈ L, r.dom = y := by
  have h1 : ∀ (L : List Rw) (out : List Bs), SortedD out → SortedD (L.foldl (fun out r => insD r.dom out) out) ∧ ∀ y, y ∈ L.foldl (fun out r => insD r.dom out) out ↔ y ∈ out ∨ ∃ r ∈ L, r.dom = y := by
    intro L
    induction L with
    | nil => intro out h; exact ⟨h, fun y => by simp⟩
    | cons r L ih =>
      intro out h
      obtain ⟨a, b⟩ := ih (insD r.dom out) (sorted_insD _ _ h)
      refine ⟨a, fun y => ?_⟩
      rw [List.foldl_cons, b, mem_insD]
      simp only [List.mem_cons, exists_eq_or_imp]
      constructor
      · rintro ((h | h) | h)
        · exact .inr (.inl h.symm)
        · exact .inl h
        · exact .inr (.inr h)
      · rintro (h | h | h)
        · exact .inl (.inr h)
        · exact .inl (.inl h.symm)
        · exact .inr h
  obtain ⟨a, b⟩ := h1 L [] List.Pairwise.nil
  exact ⟨a, fun y => by have := b y; simpa [domR] using this⟩
theorem lastR_some (L : List Rw) (k : Bs) : (lastR L k).isSome = true ↔ ∃ r ∈ L, r.dom = k := by
  unfold lastR
  rw [List.find?_isSome]
  simp
theorem sortedD_nodup {l : List Bs} (h : SortedD l) : l.Nodup := h.imp (fun {a b} hab e => by subst e; exact lt_irr _ hab)
theorem keys_perm {es : List (Ent Bs)} {L : List Rw} (hn : (es.map (·.key)).Nodup) (h : StatesR es L) : (es.map (·.key)).Perm (domR L) := by
  obtain ⟨a, b⟩ := domR_spec L
  rw [List.perm_ext_iff_of_nodup hn (sortedD_nodup a)]
  intro y
  rw [b, ← lastR_some]
  have h1 : (getE es y).isSome = (lastR L y).isSome := by rw [h y]; simp
  rw [← h1, ← hasE_get]
  simp [hasE]
theorem sorted_domR {l : List Bs} (h : SortedD l) : l.mergeSort leB = l := by
  refine List.mergeSort_of_pairwise ?_
  refine h.imp (fun {a b} hab => ?_)
  simp only [leB, decide_eq_true_eq]
  exact List.le_of_lt hab

theorem ownsMap_ents {P : Program} (hk : P.underlying 9 = some .string) {w : World} {m c : Nat} {es : List (Ent Bs)} (h : MapB vs w m es c) (hl : ∀ e ∈ es, e.key.length ≤ maxLen) (hn : es.length ≤ maxLen) :
    ∃ D : DataW Unit, w.ownsMap P 9 (fun _ => some (.nil, [])) m es.length D ∧ (Maps.size D = es.length) ∧ (strKeys D).Perm (es.map (·.key)) := by
  have hkey : ∀ e ∈ es, WideElems.rd P 9 (fun _ => some (.nil, [])) (Ent.entry vs e) = some ((.string e.key, .nil) : Lit × DataW Unit) := by
    intro e he
    have : keyOf P 9 (vs e.key) = some (Lit.string e.key) := WideMaps.keyOf_string_mk (s := ⟨e.key.toArray⟩) hk (hl e he)
    simp [WideElems.rd, Ent.entry, this]
  have hnd : (es.map (fun e => vs e.key)).Nodup := by
    have := h.keys
    rw [List.Nodup, List.pairwise_map] at this ⊢
    exact this.imp (fun {a b} hab e => hab (vs_inj.1 e))
  have F : WideElems.Fit P 9 (fun _ => some ((.nil : DataW Unit), ([] : List MemPlace))) (es.map (Ent.entry vs)).toArray c := by
    refine ⟨by simpa using hn, ⟨?_, ?_, ?_⟩, ?_⟩
    · intro x hx
      simp only [List.mem_map] at hx
      obtain ⟨e, he, rfl⟩ := hx
      exact h.lt e he
    · simpa [Ent.entry, Function.comp_def] using h.born
    · simpa [Ent.entry, Function.comp_def] using hnd
    · intro x hx
      simp only [List.mem_map] at hx
      obtain ⟨e, he, rfl⟩ := hx
      exact ⟨_, hkey e he⟩
  refine ⟨_, ⟨_, c, h.heap, F, by simp, rfl⟩, ?_, ?_⟩
  · rw [Maps.size_eq, length_sorted]; simp
  · have hm : (es.map (Ent.entry vs)).map (WideElems.rg P 9 (fun _ => some ((.nil : DataW Unit), ([] : List MemPlace)))) = es.map (fun e => ((.string e.key, .nil) : Lit × DataW Unit)) := by
      rw [List.map_map]
      refine List.map_congr_left fun e he => ?_
      simp [WideElems.rg, hkey e he]
    simp only [hm]
    refine ((Go.WideShapes.sorted_perm _).map _).trans ?_
    rw [List.map_map]
    exact List.Perm.of_eq (List.map_congr_left fun e _ => rfl)

set_option maxRecDepth 100000 in
set_option maxHeartbeats 1000000 in
theorem domains_any (F : Nat → Prop) (r b : Nat) (L : List Rw) (w : World) (h : RingAt w F r b L) (hL : ∀ x ∈ L, x.dom.length ≤ 1000) (hn : L.length ≤ 1000000000) :
    Calls Tryz.prog 29 #[.pointer (some ⟨r, 0, none⟩)] w fun e w' => ∃ v, e = .returned v ∧ w'.ownsRow w.heap.size 9 1 v (domR L).length ((domR L).map vs) ∧ Below w.heap.size w w' := by
  obtain ⟨m, es, c, hb, hM, hS, hF⟩ := h.ex
  have hp := keys_perm hM.keys hS
  have hlen : es.length = (domR L).length := by have := hp.length_eq; simpa using this
  have hdl : (domR L).length ≤ L.length := by
    have h1 : ∀ L : List Rw, (domR L).length ≤ L.length := by
      intro L
      have h2 : ∀ x l, (insD x l).length ≤ l.length + 1 := by
        intro x l
        induction l with
        | nil => simp [insD]
        | cons y l ih => unfold insD; split; (simp; omega); split <;> simp
      have h3 : ∀ (L : List Rw) (out : List Bs), (L.foldl (fun out r => insD r.dom out) out).length ≤ out.length + L.length := by
        intro L
        induction L with
        | nil => intro out; simp
        | cons r L ih => intro out; have := ih (insD r.dom out); have := h2 r.dom out; simp only [List.foldl_cons, List.length_cons]; omega
      have := h3 L []
      simpa [domR] using this
    exact h1 L
  obtain ⟨D, hown, hsz, hpk⟩ := ownsMap_ents Tryz.underlying9 hM (fun e he => by
    obtain ⟨x, hx, he2⟩ := ((domR_spec L).2 e.key).1 (hp.mem_iff.1 (List.mem_map.2 ⟨e, he, rfl⟩))
    have := hL x hx
    rw [he2] at this; unfold maxLen; omega) (by unfold maxLen; omega)
  have c1 := cell_of_row w r 1 _ _ _ hb
  simp only [List.getElem?_toArray, List.getElem?_cons_zero, List.getElem?_cons_succ] at c1
  have HSO := Lib.hid (Tryz.slices_Sorted_keys_55_56 m es.length D _ w hown (by rw [hsz]; unfold maxLen; omega) (by rw [hsz]; omega))
  have HP := Lib.hid (hpk.trans hp)
  clear hb hM hS hF hown hsz hpk hp h
  refine (callsIn_wide (n := 6)).1 ?_
  have hfK : Fence.wide.fn 56 := trivial
  have hfS : Fence.wide.fn 55 := trivial
  refine callsIn_of_wp Tryz.func29 rfl trivial ?_ rfl
  simp only [Tryz.ntmps29, List.size_toArray, List.length_cons, List.length_nil, Nat.reduceAdd, Nat.reduceSub, Array.replicate_succ, Array.replicate_zero, List.push_toArray, List.append_toArray, List.nil_append, List.cons_append]
  gi_wp2_with (first
    | (gi_at_call 56; refine (Tryz.maps_Keys_56 _ _).mono ?_; rintro e w' ⟨rfl, rfl⟩)
    | (gi_at_call 55; refine HSO.out.mono ?_; rintro e w' ⟨v, ss, rfl, hS, hrow, hnil, hb⟩))
  go_ret
  have hss : ss.mergeSort (fun x y => decide (x ≤ y)) = domR L := by
    have h1 := mergeSort_of_perm (hS.trans HP.out)
    rw [sorted_domR (domR_spec L).1] at h1
    exact h1
  have hl2 : ss.length = (domR L).length := (hS.trans HP.out).length_eq
  rw [hss, hl2] at hrow
  exact ⟨v, rfl, ownsRow_base hrow (by simp), ((Below.refl _ w).alloc (Nat.le_refl _) _).trans (hb.mono (by simp))⟩
end Go.Proofs.YtahdldbfcjbklaaGreat
