/- RingDoes, plain: what the disk of a ring keeps small. No function of the program. -/
import Derived.Test.YtahdldbfcjbklaaGreatRef14g
namespace Go.Proofs.YtahdldbfcjbklaaGreat
open Go.RowKit
def toF : Option Bs → Files | none => [] | some x => [(ringN, x)]
def doO (f : Option Bs) (e : Ev) : Option Bs := if e.op = 1 then some e.data else some (f.getD [] ++ e.data)
def EvOk (V : Nat) (e : Ev) : Prop := (e.op = 1 ∨ e.op = 2) ∧ e.name = ringN ∧ e.data.length ≤ V
theorem sizeF_toF (f : Option Bs) : sizeF (toF f) = (f.getD []).length := by cases f <;> simp [toF, sizeF]
theorem getF_toF (f : Option Bs) : getF (toF f) ringN = f := by cases f <;> simp [toF, getF]
theorem dataF_toF (f : Option Bs) : dataF (toF f) ringN = f.getD [] := by rw [dataF, getF_toF]
theorem putF_toF (f : Option Bs) (b : Bs) : putF (toF f) ringN b = toF (some b) := by cases f <;> simp [toF, putF]
theorem len_toF (f : Option Bs) : (toF f).length ≤ 1 := by cases f <;> simp [toF]
theorem doF_toF (f : Option Bs) (e : Ev) (V : Nat) (h : EvOk V e) : doF (toF f) e = toF (doO f e) := by
  obtain ⟨h1, h2, _⟩ := h
  rcases h1 with h1 | h1
  · simp [doF, doO, h1, h2, putF_toF]
  · simp [doF, doO, h1, h2, putF_toF, dataF_toF]
theorem foldF_toF (l : List Ev) (f : Option Bs) (V : Nat) (h : ∀ e ∈ l, EvOk V e) : l.foldl doF (toF f) = toF (l.foldl doO f) := by
  induction l generalizing f with
  | nil => rfl
  | cons e l ih =>
    rw [List.foldl_cons, List.foldl_cons, doF_toF f e V (h e List.mem_cons_self)]
    exact ih _ (fun e he => h e (List.mem_cons_of_mem _ he))
def lenO (f : Option Bs) : Nat := (f.getD []).length
theorem lenO_doO (f : Option Bs) (e : Ev) : lenO (doO f e) = (if e.op = 1 then 0 else lenO f) + e.data.length := by
  unfold doO lenO
  split <;> simp
theorem fold_other (l : List Ev) (f g : Option Bs) : l.foldl doO g = l.foldl doO f ∨ lenO (l.foldl doO g) + lenO f = lenO (l.foldl doO f) + lenO g := by
  induction l generalizing f g with
  | nil => right; simp; omega
  | cons e l ih =>
    rw [List.foldl_cons, List.foldl_cons]
    by_cases h : e.op = 1
    · left
      have : doO g e = doO f e := by simp [doO, h]
      rw [this]
    · rcases ih (doO f e) (doO g e) with h1 | h1
      · exact .inl h1
      · right
        rw [lenO_doO, lenO_doO, if_neg h, if_neg h] at h1
        omega

/-- a disk on which there is the ring's file alone, its sizes bounded -/
structure RD (V K : Nat) (d : DS) : Prop where
  now : ∃ f, d.now = toF f ∧ lenO f ≤ V
  sure : ∃ f, d.sure = toF f ∧ ∀ i, lenO ((d.pend.take i).foldl doO f) ≤ V
  pend : ∀ e ∈ d.pend, EvOk V e
  pl : d.pend.length ≤ K
  tl : d.trace.length ≤ K
  fuse : -9223372036854775808 ≤ d.fuse ∧ d.fuse ≤ 9223372036854775807
  quota : 0 ≤ d.quota ∧ d.quota ≤ 9223372036854775807
theorem RD.mono {V V' K K' : Nat} {d : DS} (h : RD V K d) (hV : V ≤ V') (hK : K ≤ K') : RD V' K' d := by
  obtain ⟨f, h1, h2⟩ := h.now
  obtain ⟨g, h3, h4⟩ := h.sure
  exact ⟨⟨f, h1, by omega⟩, ⟨g, h3, fun i => by have := h4 i; omega⟩, fun e he => ⟨(h.pend e he).1, (h.pend e he).2.1, by have := (h.pend e he).2.2; omega⟩, by have := h.pl; omega, by have := h.tl; omega, h.fuse, h.quota⟩
theorem RD.ok {V K : Nat} {d : DS} (h : RD V K d) (hV : V ≤ 500000000) (hK : K ≤ 1000000000) : DiskOk d := by
  obtain ⟨f, h1, h2⟩ := h.now
  refine ⟨h.fuse, h.quota, by have := h.tl; omega, by have := h.pl; omega, ?_⟩
  rw [h1, sizeF_toF]; unfold lenO at h2; omega
theorem RD.nl {V K : Nat} {d : DS} (h : RD V K d) : d.now.length ≤ 1 := by
  obtain ⟨f, h1, h2⟩ := h.now
  rw [h1]; exact len_toF f
theorem RD.sl {V K : Nat} {d : DS} (h : RD V K d) : d.sure.length ≤ 1 := by
  obtain ⟨f, h1, h2⟩ := h.sure
  rw [h1]; exact len_toF f
theorem RD.new : RD 0 0 DS.new := ⟨⟨none, rfl, by decide⟩, ⟨none, rfl, fun i => by simp [DS.new, lenO]⟩, by simp [DS.new], by simp [DS.new], by simp [DS.new], by simp [DS.new], by simp [DS.new]⟩
theorem RD.read {V K : Nat} {d : DS} (h : RD V K d) : (d.read ringN).1.length ≤ V := by
  obtain ⟨f, h1, h2⟩ := h.now
  unfold DS.read
  rw [h1, getF_toF]
  cases f with
  | none => simp
  | some x => exact h2
theorem RD.dead {V K : Nat} {d : DS} (h : RD V K d) (b : Bool) : RD V K { d with dead := b } := ⟨h.now, h.sure, h.pend, h.pl, h.tl, h.fuse, h.quota⟩
theorem RD.burnt {V K : Nat} {d : DS} (h : RD V K d) : RD V K d.burnt := by
  refine ⟨h.now, h.sure, h.pend, h.pl, h.tl, ?_, h.quota⟩
  have := h.fuse
  unfold DS.burnt
  simp only
  split <;> omega
theorem RD.done {V K : Nat} {d : DS} (h : RD V K d) (e : Ev) (V' : Nat) (hV : V ≤ V') (he : e.op = 5 ∨ (EvOk V' e ∧ (e.op = 2 → V + e.data.length ≤ V'))) : RD V' (K + 1) (d.done e).1 := by
  unfold DS.done
  split
  · exact (h.dead true).mono hV (by omega)
  · have hb := h.burnt
    split
    · obtain ⟨f, h1, h2⟩ := hb.now
      refine ⟨⟨f, h1, by omega⟩, ⟨f, h1, fun i => by simp; omega⟩, by simp, by simp, ?_, hb.fuse, hb.quota⟩
      have := h.tl
      simp; exact this
    · rename_i h5
      obtain ⟨he1, he2⟩ := he.resolve_left h5
      obtain ⟨f, h1, h2⟩ := hb.now
      obtain ⟨g, h3, h4⟩ := hb.sure
      have hlast : ∀ f : Option Bs, lenO f ≤ V → lenO (doO f e) ≤ V' := by
        intro f hf
        rw [lenO_doO]
        rcases he1.1 with h6 | h6
        · rw [if_pos h6]; have := he1.2.2; omega
        · rw [if_neg (by omega)]; have := he2 h6; omega
      refine ⟨⟨doO f e, by rw [show d.now = toF f from h1]; exact doF_toF f e V' he1, hlast f h2⟩, ⟨g, h3, fun i => ?_⟩, ?_, ?_, ?_, hb.fuse, hb.quota⟩
      · simp only
        rw [List.take_append]
        by_cases hi : i ≤ d.pend.length
        · rw [show i - d.pend.length = 0 from by omega]
          have := h4 i
          simp only [DS.burnt] at this
          simp; omega
        · have h7 := h4 d.pend.length
          simp only [DS.burnt, List.take_length] at h7
          rw [List.take_of_length_le (by omega), show i - d.pend.length = (i - d.pend.length - 1) + 1 from by omega]
          simp only [List.take_succ_cons, List.take_nil, List.foldl_append, List.foldl_cons, List.foldl_nil]
          exact hlast _ h7
      · intro x hx
        simp only [List.mem_append, List.mem_singleton] at hx
        rcases hx with hx | rfl
        · obtain ⟨q1, q2, q3⟩ := h.pend x hx
          exact ⟨q1, q2, by omega⟩
        · exact he1
      · have := h.pl; simp; exact this
      · have := h.tl; simp; exact this
theorem RD.sync {V K : Nat} {d : DS} (h : RD V K d) : RD V (K + 1) d.sync.1 := h.done _ V (Nat.le_refl _) (.inl rfl)
theorem RD.append {V K : Nat} {d : DS} (h : RD V K d) (b : Bs) : RD (V + b.length) (K + 1) (d.append ringN b).1 := by
  unfold DS.append
  split
  · exact h.mono (by omega) (by omega)
  · split
    · exact h.mono (by omega) (by omega)
    · exact h.done _ _ (by omega) (.inr ⟨⟨.inr rfl, rfl, by simp⟩, fun _ => by simp⟩)
theorem RD.write {V K : Nat} {d : DS} (h : RD V K d) (b : Bs) (hb : b.length ≤ V) : RD V (K + 1) (d.write ringN b).1 := by
  unfold DS.write
  split
  · exact h.mono (by omega) (by omega)
  · split
    · exact h.mono (by omega) (by omega)
    · split
      · exact h.mono (by omega) (by omega)
      · exact h.done _ _ (Nat.le_refl _) (.inr ⟨⟨.inl rfl, rfl, hb⟩, fun h => by simp at h⟩)
theorem RD.setFuse {V K : Nat} {d : DS} (h : RD V K d) (n : Int) (hn : -9223372036854775808 ≤ n ∧ n ≤ 9223372036854775807) : RD V K (d.setFuse n) := by
  unfold DS.setFuse
  split
  · exact h
  · exact ⟨h.now, h.sure, h.pend, h.pl, h.tl, by simp only; split <;> omega, h.quota⟩
theorem RD.setQuota {V K : Nat} {d : DS} (h : RD V K d) (n : Int) (hn : -9223372036854775808 ≤ n ∧ n ≤ 9223372036854775807) : RD V K (d.setQuota n) :=
  ⟨h.now, h.sure, h.pend, h.pl, h.tl, h.fuse, by simp only [DS.setQuota]; split <;> omega⟩
theorem RD.crash {V K : Nat} {d : DS} (h : RD V K d) (n : Int) : RD V K (d.crash n) := by
  obtain ⟨g, h3, h4⟩ := h.sure
  have h1 := foldF_toF (d.pend.take n.toNat) g V (fun e he => h.pend e (List.mem_of_mem_take he))
  have h2 := h4 n.toNat
  unfold DS.crash
  refine ⟨⟨_, by simp only; rw [h3]; exact h1, h2⟩, ⟨_, by simp only; rw [h3]; exact h1, fun i => by simpa using h2⟩, by simp, by simp, h.tl, by simp, h.quota⟩
theorem RD.edit {V K : Nat} {d : DS} (h : RD V K d) (b : Bs) : RD (V + b.length) K (d.edit ringN b).1 := by
  unfold DS.edit
  split
  · exact h.mono (by omega) (by omega)
  · obtain ⟨f, h1, h2⟩ := h.now
    obtain ⟨g, h3, h4⟩ := h.sure
    have hp : ∀ e ∈ d.pend, EvOk (V + b.length) e := fun e he => ⟨(h.pend e he).1, (h.pend e he).2.1, by have := (h.pend e he).2.2; omega⟩
    refine ⟨⟨some b, by simp only; rw [h1, putF_toF], by simp [lenO]⟩, ?_, hp, h.pl, h.tl, h.fuse, h.quota⟩
    simp only
    rw [h3, getF_toF]
    cases g with
    | none => exact ⟨none, by simp, fun i => by have := h4 i; omega⟩
    | some y =>
      refine ⟨some b, by simp [putF_toF], fun i => ?_⟩
      have h5 := h4 i
      rcases fold_other (d.pend.take i) (some y) (some b) with h6 | h6
      · rw [h6]; omega
      · have : lenO (some b) = b.length := rfl
        omega
theorem RD.foldsz {V K : Nat} {d : DS} (h : RD V K d) (i : Nat) (e : Ev) (he : d.pend[i]? = some e) : (dataF ((d.pend.take i).foldl doF d.sure) e.name).length + e.data.length ≤ 2 * V := by
  obtain ⟨g, h3, h4⟩ := h.sure
  have h1 := foldF_toF (d.pend.take i) g V (fun e he => h.pend e (List.mem_of_mem_take he))
  have h5 := h.pend e (List.mem_of_getElem? he)
  rw [h3, h1, h5.2.1, dataF_toF]
  have := h4 i
  have := h5.2.2
  unfold lenO at *
  omega
theorem RD.foldn {V K : Nat} {d : DS} (h : RD V K d) (i : Nat) : ((d.pend.take i).foldl doF d.sure).length ≤ 1 := by
  obtain ⟨g, h3, h4⟩ := h.sure
  rw [h3, foldF_toF (d.pend.take i) g V (fun e he => h.pend e (List.mem_of_mem_take he))]
  exact len_toF _
theorem RD.ops {V K : Nat} {d : DS} (h : RD V K d) : ∀ e ∈ d.pend, e.op = 1 ∨ e.op = 2 ∨ e.op = 3 ∨ e.op = 4 := fun e he => (h.pend e he).1.elim .inl (fun h => .inr (.inl h))

/-! ### the rows -/
structure LOk (N : Nat) (L : List Rw) : Prop where
  rows : ∀ x ∈ L, x.now ≤ 1000000 ∧ x.old ≤ 1000000 ∧ x.dom.length ≤ 255
  len : L.length ≤ N
theorem LOk.mono {N N' : Nat} {L : List Rw} (h : LOk N L) (hN : N ≤ N') : LOk N' L := ⟨h.rows, by have := h.len; omega⟩
theorem rdText_len (m : Nat) (r : Rd) : (rdText m r).1.length ≤ m := by
  have h1 : ∀ n r, (rdTake n r).1.length ≤ n := by
    intro n r
    cases r with
    | none => simp [rdTake]
    | some x => by_cases h : n ≤ x.length <;> simp [rdTake, h]
  exact Nat.le_trans (h1 _ _) (rdNum_le m r)
theorem rowStep_ok2 (s : Bs) (r : Rw) (t : Bs) (h : rowStep s = some (r, t)) : r.now ≤ 1000000 ∧ r.old ≤ 1000000 ∧ r.dom.length ≤ 255 := by
  unfold rowStep at h
  split at h
  · obtain ⟨u, _, h2⟩ := Option.map_eq_some_iff.1 h
    cases h2
    exact ⟨rdNum_le _ _, rdNum_le _ _, rdText_len _ _⟩
  · cases h
theorem rowsF_ok (n : Nat) (s : Bs) : ∀ x ∈ (rowsF n s).1, x.now ≤ 1000000 ∧ x.old ≤ 1000000 ∧ x.dom.length ≤ 255 := by
  induction n generalizing s with
  | zero => simp [rowsF]
  | succ n ih =>
    unfold rowsF
    cases h : rowStep s with
    | none => simp
    | some p =>
      obtain ⟨r, t⟩ := p
      intro x hx
      rcases List.mem_cons.1 hx with rfl | hx
      · exact rowStep_ok2 s _ t h
      · exact ih t x hx
theorem rowsOf_ok (s : Bs) : LOk s.length (rowsOf s).1 := ⟨rowsF_ok _ s, by have := rowsOf_len s; omega⟩
theorem LOk.st {N : Nat} {L : List Rw} (h : LOk N L) (k : Bs) : (stR L k).1 ≤ 1000000 ∧ (stR L k).2 ≤ 1000000 := by
  unfold stR
  cases hl : lastR L k with
  | none => simp
  | some x =>
    have := List.mem_of_find?_eq_some hl
    have h2 := h.rows x (by simpa using this)
    exact ⟨h2.1, h2.2.1⟩
theorem LOk.snoc {N : Nat} {L : List Rw} (h : LOk N L) (x : Rw) (hx : x.now ≤ 1000000 ∧ x.old ≤ 1000000 ∧ x.dom.length ≤ 255) : LOk (N + 1) (L ++ [x]) :=
  ⟨fun y hy => by
    rcases List.mem_append.1 hy with h1 | h1
    · exact h.rows y h1
    · simp only [List.mem_singleton] at h1; subst h1; exact hx, by have := h.len; simp; omega⟩
theorem setR_ok {V K N : Nat} {d : DS} {L : List Rw} (hd : RD V K d) (hL : LOk N L) (x : Rw) (hx : x.now ≤ 1000000 ∧ x.old ≤ 1000000 ∧ x.dom.length ≤ 255) : RD (V + 1100) (K + 2) (setR d L x).1 ∧ LOk (N + 1) (setR d L x).2.1 := by
  have hl := rowB_length x.dom x.now x.old (by omega) (by omega) (by omega)
  have h1 := (hd.append (rowB x.dom x.now x.old)).mono (V' := V + 1100) (K' := K + 1) (by omega) (Nat.le_refl _)
  unfold setR
  split
  · exact ⟨h1.mono (Nat.le_refl _) (by omega), hL.mono (by omega)⟩
  · split
    · exact ⟨h1.sync, hL.mono (by omega)⟩
    · exact ⟨h1.sync, hL.snoc x hx⟩
theorem beginR_ok {V K N : Nat} {d : DS} {L : List Rw} (hd : RD V K d) (hL : LOk N L) (k : Bs) : RD (V + 1100) (K + 2) (beginR d L k).1 ∧ LOk (N + 1) (beginR d L k).2.1 := by
  have hs := hL.st k
  unfold beginR
  split
  · exact ⟨hd.mono (by omega) (by omega), hL.mono (by omega)⟩
  · split
    · exact ⟨hd.mono (by omega) (by omega), hL.mono (by omega)⟩
    · split
      · exact ⟨hd.mono (by omega) (by omega), hL.mono (by omega)⟩
      · have h1 := setR_ok hd hL ⟨k, (stR L k).1 + 1, (stR L k).1⟩ ⟨by simp only; omega, by simp only; omega, by simp only; omega⟩
        split
        · exact h1
        · exact h1
theorem endR_ok {V K N : Nat} {d : DS} {L : List Rw} (hd : RD V K d) (hL : LOk N L) (k : Bs) : RD (V + 1100) (K + 2) (endR d L k).1 ∧ LOk (N + 1) (endR d L k).2.1 := by
  have hs := hL.st k
  unfold endR
  split
  · exact ⟨hd.mono (by omega) (by omega), hL.mono (by omega)⟩
  · split
    · exact ⟨hd.mono (by omega) (by omega), hL.mono (by omega)⟩
    · exact setR_ok hd hL ⟨k, (stR L k).1, 0⟩ ⟨by simp only; omega, by simp only; omega, by simp only; omega⟩
theorem open_write_ok {V K : Nat} {d : DS} (hd : RD V K d) : RD V (K + 1) (d.write ringN ((d.read ringN).1.take ((d.read ringN).1.length - (rowsOf (d.read ringN).1).2.length))).1 :=
  hd.write _ (by have := hd.read; simp; omega)
theorem openR_ok {V K : Nat} {d : DS} (hd : RD V K d) : RD V (K + 2) (openR d).1 ∧ (∀ L, (openR d).2.1 = some L → LOk V L) := by
  have h1 := open_write_ok hd
  have h2 : LOk V (rowsOf (d.read ringN).1).1 := (rowsOf_ok _).mono hd.read
  unfold openR openW
  split
  · exact ⟨hd.mono (Nat.le_refl _) (by omega), fun L h => by cases h; exact h2⟩
  · unfold openC
    split
    · exact ⟨h1.mono (Nat.le_refl _) (by omega), fun L h => by cases h⟩
    · split
      · exact ⟨h1.sync, fun L h => by cases h⟩
      · exact ⟨h1.sync, fun L h => by cases h; exact h2⟩
end Go.Proofs.YtahdldbfcjbklaaGreat
