/- posthornref11: find, data, put, without. -/
import Derived.Test.YtahdldbfcjbklaaGreatRow
import Derived.Test.YtahdldbfcjbklaaGreatSlc
namespace Go.Proofs.YtahdldbfcjbklaaGreat
open Go.RowKit
def fileV (p : Bs × Bs) : List Value := [vs p.1, vs p.2]
abbrev fileCells (l : Files) : List Value := l.flatMap fileV
theorem fileV_length (p : Bs × Bs) : (fileV p).length = 2 := rfl
/-- a slice that holds these files -/
abbrev FilesAt (w : World) (B : Nat) (v : Value) (l : Files) : Prop := w.ownsRow B 119 2 v l.length (fileCells l)
def findF (l : Files) (n : Bs) : Int := match l.findIdx? (fun p => decide (p.1 = n)) with | some i => (i : Int) | none => -1
theorem findF_hit (l : Files) (n : Bs) (k : Nat) (p : Bs × Bs) (hk : l[k]? = some p) (hp : p.1 = n) (hb : ∀ q ∈ l.take k, q.1 ≠ n) : findF l n = k := by
  obtain ⟨hlt, hp2⟩ := List.getElem?_eq_some_iff.1 hk
  have : l.findIdx? (fun p => decide (p.1 = n)) = some k := by
    rw [List.findIdx?_eq_some_iff_getElem]
    refine ⟨hlt, by rw [hp2]; simpa using hp, ?_⟩
    intro j hj
    have := hb l[j] (List.mem_take_iff_getElem.2 ⟨j, by omega, rfl⟩)
    simpa using this
  simp [findF, this]
theorem findF_none (l : Files) (n : Bs) (hb : ∀ q ∈ l, q.1 ≠ n) : findF l n = -1 := by
  have : l.findIdx? (fun p => decide (p.1 = n)) = none := by
    rw [List.findIdx?_eq_none_iff]
    intro x hx; simpa using hb x hx
  simp [findF, this]
theorem findF_neg (l : Files) (n : Bs) : (getF l n = none ↔ findF l n = -1) ∧ (∀ x, getF l n = some x → ∃ k : Nat, findF l n = k ∧ k < l.length ∧ ∃ p, l[k]? = some p ∧ p.2 = x) := by
  by_cases h : ∃ k : Nat, ∃ p, l[k]? = some p ∧ p.1 = n ∧ ∀ q ∈ l.take k, q.1 ≠ n
  · obtain ⟨k, p, hk, hp, hb⟩ := h
    obtain ⟨hlt, hp2⟩ := List.getElem?_eq_some_iff.1 hk
    have h1 := findF_hit l n k p hk hp hb
    have h2 : getF l n = some p.2 := by
      unfold getF
      have : l.find? (fun p => decide (p.1 = n)) = some p := by
        rw [List.find?_eq_some_iff_getElem]
        refine ⟨by simpa using hp, k, hlt, hp2, ?_⟩
        intro j hj
        have := hb l[j] (List.mem_take_iff_getElem.2 ⟨j, by omega, rfl⟩)
        simpa using this
      rw [this]; rfl
    refine ⟨⟨fun h3 => (by rw [h2] at h3; cases h3), fun h3 => (by rw [h1] at h3; omega)⟩, fun x hx => ⟨k, h1, hlt, p, hk, ?_⟩⟩
    rw [h2] at hx; exact Option.some.inj hx
  · have hb : ∀ q ∈ l, q.1 ≠ n := by
      intro q hq e
      have hx : ∃ i, l.findIdx? (fun p => decide (p.1 = n)) = some i := by
        cases hf : l.findIdx? (fun p => decide (p.1 = n)) with
        | some i => exact ⟨i, rfl⟩
        | none => rw [List.findIdx?_eq_none_iff] at hf; exact absurd e (by simpa using hf q hq)
      obtain ⟨i, hi⟩ := hx
      rw [List.findIdx?_eq_some_iff_getElem] at hi
      obtain ⟨hlt, h1, h2⟩ := hi
      refine h ⟨i, l[i], List.getElem?_eq_getElem hlt, by simpa using h1, ?_⟩
      intro q hq
      obtain ⟨j, hj, rfl⟩ := List.mem_take_iff_getElem.1 hq
      simpa using h2 j (by omega)
    have h2 : getF l n = none := by
      unfold getF
      rw [List.find?_eq_none.2]; rfl
      intro x hx; simpa using hb x hx
    exact ⟨⟨fun _ => findF_none l n hb, fun _ => h2⟩, fun x hx => by rw [h2] at hx; cases hx⟩

set_option maxRecDepth 100000 in
set_option maxHeartbeats 1000000 in
theorem r11_find (l : Files) (v : Value) (n : Bs) (w : World) (h : FilesAt w 0 v l) (hl : l.length ≤ 1099511627776) :
    Calls Tryz.prog 47 #[v, vs n] w fun r w' => r = .returned (.int .i64 (findF l n)) ∧ w = w' := by
  have H := Lib.hid h
  obtain ⟨av, cv, rfl⟩ := ownsRow_val h
  clear h
  go_enter Tryz.func47, Tryz.ntmps47
  go_wp2
  go_loop [5] (fun i => ∃ k : Nat, k ≤ l.length ∧ i = .int .i64 k ∧ Hid (∀ q ∈ l.take k, q.1 ≠ n)) (fun i => l.length - (intOf i).toNat)
  case atStart => exact ⟨0, Nat.zero_le _, rfl, Lib.hid (by simp)⟩
  case round =>
    obtain ⟨k, hk, rfl, HB⟩ := hrel
    by_cases hlt : k < l.length
    · obtain ⟨g, rfl, hc, _, _, hcv, hcm⟩ := ownsRow_some H.out (by omega)
      obtain ⟨p, hp⟩ : ∃ p, l[k]? = some p := ⟨_, List.getElem?_eq_getElem hlt⟩
      have c0 := rec_cells fileV_length hc hp 0 (by omega)
      simp only [fileV, List.getElem?_cons_zero, Nat.add_zero] at c0
      have HT := Lib.hid (show l.take (k + 1) = l.take k ++ [p] from by rw [List.take_add_one, hp]; rfl)
      have HP := Lib.hid hp
      clear hc hp
      unfold maxLen at hcm
      by_cases he : p.1 = n
      · have hq : (p.1 == n) = true := by simpa using he
        have HF := Lib.hid (findF_hit l n k p HP.out he HB.out)
        clear he
        go_wp2
        go_ret
        rw [HF.out]; exact ⟨rfl, rfl⟩
      · have hq : (p.1 == n) = false := by simpa using he
        have HB2 := Lib.hid (show ∀ q ∈ l.take (k + 1), q.1 ≠ n from by
          rw [HT.out]; intro q hq; rcases List.mem_append.1 hq with h1 | h1
          · exact HB.out q h1
          · simp only [List.mem_singleton] at h1; subst h1; exact he)
        clear he
        go_wp2
        go_round
        case rel => exact ⟨k + 1, by omega, by go_num, HB2⟩
        case measure => simp [intOf]; omega
    · obtain rfl : k = l.length := by omega
      have HF := Lib.hid (findF_none l n (by have := HB.out; rwa [List.take_length] at this))
      go_wp2
      go_ret
      rw [HF.out]; exact ⟨rfl, rfl⟩

set_option maxRecDepth 100000 in
set_option maxHeartbeats 1000000 in
theorem r11_data (l : Files) (v : Value) (n : Bs) (w : World) (h : FilesAt w 0 v l) (hl : l.length ≤ 1099511627776) :
    Calls Tryz.prog 49 #[v, vs n] w fun r w' => r = .returned (vs (dataF l n)) ∧ w = w' := by
  have H := Lib.hid h
  have HC := Lib.hid (r11_find l v n w h hl)
  obtain ⟨h1, h2⟩ := findF_neg l n
  obtain ⟨av, cv, rfl⟩ := ownsRow_val h
  clear h
  cases hg : getF l n with
  | none =>
    have HR := Lib.hid (show dataF l n = [] from by simp [dataF, hg])
    have hf := Lib.hid (h1.1 hg)
    clear h1 h2 hg
    go_enter Tryz.func49, Tryz.ntmps49
    go_wp2_with fail
    refine HC.out.mono ?_
    rintro e w' ⟨rfl, rfl⟩
    rw [hf.out]
    go_wp2_with fail
    go_ret
    rw [HR.out]
    exact ⟨rfl, rfl⟩
  | some x =>
    obtain ⟨k, hk, hlt, p, hp, rfl⟩ := h2 x hg
    have HR := Lib.hid (show dataF l n = p.2 from by simp [dataF, hg])
    have hf := Lib.hid hk
    obtain ⟨g, rfl, hc, _, _, hcv, hcm⟩ := ownsRow_some H.out (by omega)
    have c0 := rec_cells fileV_length hc hp 1 (by omega)
    simp only [fileV, List.getElem?_cons_zero, List.getElem?_cons_succ] at c0
    unfold maxLen at hcm
    clear h1 h2 hg hk hc hp
    go_enter Tryz.func49, Tryz.ntmps49
    go_wp2_with fail
    refine HC.out.mono ?_
    rintro e w' ⟨rfl, rfl⟩
    rw [hf.out]
    go_wp2_with fail
    go_ret
    rw [HR.out]
    exact ⟨rfl, rfl⟩

/-! ### put and without -/
theorem Tryz.infoFile : (Tryz.prog.info? 119).map (fun i => (i.zero, i.size, i.bytes)) = some (some (.agg #[vs [], vs []]), 2, 32) := by kernel_rfl
theorem Tryz.fileT : ElemT Tryz.prog 63 119 (.agg #[vs [], vs []]) 2 32 := ⟨Tryz.underlying63, Tryz.infoFile, rfl, by decide⟩
theorem fileV_one (p : Bs × Bs) : ∀ u ∈ fileV p, u.oneCell' = true := by
  intro u hu; simp only [fileV, List.mem_cons, List.not_mem_nil, or_false] at hu; rcases hu with rfl | rfl <;> rfl
theorem fileCells_length (l : Files) : (fileCells l).length = l.length * 2 := flat_length fileV 2 fileV_length l
theorem fileCells_one (l : Files) : ∀ u ∈ fileCells l, u.oneCell' = true := by
  intro u hu; obtain ⟨p, _, hp⟩ := List.mem_flatMap.1 hu; exact fileV_one p u hp

set_option maxRecDepth 100000 in
set_option maxHeartbeats 1000000 in
theorem r11_without (l : Files) (v : Value) (n : Bs) (w : World) (h : FilesAt w 0 v l) (hl : l.length ≤ 1000000000) :
    Calls Tryz.prog 74 #[v, vs n] w fun r w' => ∃ v', r = .returned v' ∧ FilesAt w' w.heap.size v' (delF l n) ∧ Below w.heap.size w w' := by
  have H := Lib.hid h
  obtain ⟨av, cv, rfl⟩ := ownsRow_val h
  clear h
  go_enter Tryz.func74, Tryz.ntmps74
  go_wp2
  go_loopw [5, 6] (fun o i wr => ∃ k : Nat, k ≤ l.length ∧ i = .int .i64 k ∧ FilesAt wr w.heap.size o (delF (l.take k) n) ∧ Below w.heap.size w wr) (fun _ i _ => l.length - (intOf i).toNat)
  case atStart =>
    refine ⟨0, Nat.zero_le _, rfl, ?_, (Below.refl _ _).alloc (Nat.le_refl _) _⟩
    exact ⟨by simp [delF], .inr ⟨w.heap.size, 0, #[], rfl, Nat.le_refl _, heap_alloc_new w _, Nat.le_refl _, Nat.zero_le _, by simp, by simp [delF]⟩⟩
  case round =>
    obtain ⟨k, hk, rfl, HO0, HB0⟩ := hrel
    have HO := Lib.hid HO0
    have HB := Lib.hid HB0
    clear HO0 HB0
    have hs0 := HB.out.size
    by_cases hlt : k < l.length
    · have HR := Lib.hid (ownsRow_chg H.out (S := fun _ => False) (Chg.of_below HB.out) (fun _ _ h => h))
      obtain ⟨g, rfl, hc, _, _, hcv, hcm⟩ := ownsRow_some HR.out (by omega)
      obtain ⟨p, hp⟩ : ∃ p, l[k]? = some p := ⟨_, List.getElem?_eq_getElem hlt⟩
      have c0 := rec_cells fileV_length hc hp 0 (by omega)
      have c1 := rec_cells fileV_length hc hp 1 (by omega)
      simp only [fileV, List.getElem?_cons_zero, List.getElem?_cons_succ, Nat.add_zero] at c0 c1
      have HT := Lib.hid (show l.take (k + 1) = l.take k ++ [p] from by rw [List.take_add_one, hp]; rfl)
      have hlen : (delF (l.take k) n).length ≤ k := Nat.le_trans (length_delF _ _) (List.length_take_le _ _)
      clear hc hp
      unfold maxLen at hcm
      by_cases he : p.1 = n
      · have hq : (p.1 == n) = true := by simpa using he
        have HE := Lib.hid he
        clear he
        go_wp2
        go_roundw
        case rel =>
          refine ⟨k + 1, by omega, by go_num, ?_, HB.out⟩
          have : delF (l.take (k + 1)) n = delF (l.take k) n := by rw [HT.out]; simp [delF, HE.out]
          rw [this]; exact HO.out
        case measure => simp [intOf]; omega
      · have hq : (p.1 == n) = false := by simpa using he
        have HE := Lib.hid he
        have HON := Lib.hid (fileV_one p)
        clear he
        go_wp2_with (at_builtin; refine wpList_appL Tryz.fileT rfl (.tmp 21) (.tmp 26) rfl w.heap.size _ (delF (l.take k) n).length (fileCells (delF (l.take k) n)) rfl (ownsRow_chg HO.out (S := fun _ => False) ((Chg.refl _ _).alloc _) (fun _ _ h => h)) _ 1 1 (fileV p) (0, 0) rfl (heap_alloc_new _ _) rfl HON.out Nat.zero_lt_one (by omega) (by omega) (by simp; omega) ?_; intro g' cv' w2 hown2 hgrow2 hg2)
        go_roundw
        case rel =>
          refine ⟨k + 1, by omega, by go_num, ?_, ?_⟩
          · have : delF (l.take (k + 1)) n = delF (l.take k) n ++ [p] := by rw [HT.out]; simp [delF, HE.out]
            rw [this]
            simpa [FilesAt] using hown2
          · exact below_app (HB.out.alloc (by omega) _) (ownsRow_chg HO.out (S := fun _ => False) ((Chg.refl _ _).alloc _) (fun _ _ h => h)) hgrow2 (by simp; omega)
        case measure => simp [intOf]; omega
    · obtain rfl : k = l.length := by omega
      have HO2 := Lib.hid (show FilesAt _ w.heap.size _ (delF l n) from by have := HO.out; rwa [List.take_length] at this)
      go_wp2
      go_ret
      exact ⟨_, rfl, HO2.out, HB.out⟩

/-- a round of put -/
def pst (s d : Bs) (st : Files × Bool) (p : Bs × Bs) : Files × Bool :=
  let st1 := if st.2 = false ∧ ¬ p.1 < s then (st.1 ++ [(s, d)], true) else st
  if p.1 = s then st1 else (st1.1 ++ [p], st1.2)
def putK (l : Files) (s d : Bs) (k : Nat) : Files × Bool := (l.take k).foldl (pst s d) ([], false)
theorem putK_succ (l : Files) (s d : Bs) (k : Nat) (p : Bs × Bs) (hp : l[k]? = some p) : putK l s d (k + 1) = pst s d (putK l s d k) p := by
  unfold putK
  rw [List.take_add_one, hp]; simp [List.foldl_append]
theorem fold_true (s d : Bs) (l : Files) (h : ∀ p ∈ l, p.1 ≠ s) (acc : Files) : l.foldl (pst s d) (acc, true) = (acc ++ l, true) := by
  induction l generalizing acc with
  | nil => simp
  | cons p l ih =>
    have h1 : pst s d (acc, true) p = (acc ++ [p], true) := by simp [pst, h p List.mem_cons_self]
    rw [List.foldl_cons, h1, ih (fun q hq => h q (List.mem_cons_of_mem _ hq))]; simp
theorem fold_put (s d : Bs) (l : Files) (h : SortedF l) (acc : Files) : (if (l.foldl (pst s d) (acc, false)).2 = false then (l.foldl (pst s d) (acc, false)).1 ++ [(s, d)] else (l.foldl (pst s d) (acc, false)).1) = acc ++ putF l s d := by
  induction l generalizing acc with
  | nil => simp [putF]
  | cons p l ih =>
    have hp := List.pairwise_cons.1 h
    by_cases h1 : p.1 = s
    · have e1 : pst s d (acc, false) p = (acc ++ [(s, d)], true) := by simp [pst, h1, lt_irr]
      rw [List.foldl_cons, e1, fold_true s d l (fun q hq e => by have := hp.1 q hq; rw [h1, e] at this; exact lt_irr _ this)]
      simp [putF, h1]
    · by_cases h2 : p.1 < s
      · have e1 : pst s d (acc, false) p = (acc ++ [p], false) := by simp [pst, h1, h2]
        rw [List.foldl_cons, e1, ih hp.2]
        simp [putF, h1, h2]
      · have e1 : pst s d (acc, false) p = (acc ++ [(s, d)] ++ [p], true) := by simp [pst, h1, h2]
        rw [List.foldl_cons, e1, fold_true s d l (fun q hq e => by have := hp.1 q hq; rw [e] at this; exact h2 this)]
        simp [putF, h1, h2]
theorem putK_len (l : Files) (s d : Bs) (k : Nat) : (putK l s d k).1.length ≤ 2 * k := by
  unfold putK
  have h1 : ∀ (l : Files) (st : Files × Bool), (l.foldl (pst s d) st).1.length ≤ st.1.length + 2 * l.length := by
    intro l
    induction l with
    | nil => intro st; simp
    | cons p l ih =>
      intro st
      have h2 : (pst s d st p).1.length ≤ st.1.length + 2 := by unfold pst; split <;> split <;> simp
      have := ih (pst s d st p)
      simp only [List.foldl_cons, List.length_cons]; omega
  have := h1 (l.take k) ([], false)
  have h3 := List.length_take_le k l
  simp only [List.length_nil] at this; omega
theorem put_end (l : Files) (h : SortedF l) (s d : Bs) : (if (putK l s d l.length).2 = false then (putK l s d l.length).1 ++ [(s, d)] else (putK l s d l.length).1) = putF l s d := by
  have := fold_put s d l h []
  simpa [putK, List.take_length] using this

theorem pst_skip (s d : Bs) (st : Files × Bool) (p : Bs × Bs) (h2 : st.2 = true) (he : p.1 = s) : pst s d st p = st := by simp [pst, h2, he]
theorem pst_keep (s d : Bs) (st : Files × Bool) (p : Bs × Bs) (h2 : st.2 = true ∨ p.1 < s) (he : ¬ p.1 = s) : pst s d st p = (st.1 ++ [p], st.2) := by
  rcases h2 with h2 | h2 <;> simp [pst, h2, he]
theorem pst_lay (s d : Bs) (st : Files × Bool) (p : Bs × Bs) (h2 : st.2 = false) (he : p.1 = s) : pst s d st p = (st.1 ++ [(s, d)], true) := by simp [pst, h2, he, lt_irr]
theorem pst_both (s d : Bs) (st : Files × Bool) (p : Bs × Bs) (h2 : st.2 = false) (h3 : ¬ p.1 < s) (he : ¬ p.1 = s) : pst s d st p = (st.1 ++ [(s, d)] ++ [p], true) := by simp [pst, h2, he, h3]

set_option maxRecDepth 100000 in
set_option maxHeartbeats 2000000 in
theorem r11_put (l : Files) (hsl : SortedF l) (v : Value) (n d : Bs) (w : World) (h : FilesAt w 0 v l) (hl : l.length ≤ 1000000000) :
    Calls Tryz.prog 48 #[v, vs n, vs d] w fun r w' => ∃ v', r = .returned v' ∧ FilesAt w' w.heap.size v' (putF l n d) ∧ Below w.heap.size w w' := by
  have H := Lib.hid h
  have HSL := Lib.hid hsl
  obtain ⟨av, cv, rfl⟩ := ownsRow_val h
  clear h hsl
  go_enter Tryz.func48, Tryz.ntmps48
  go_wp2
  go_loopw [7, 8, 9] (fun o b i wr => ∃ k : Nat, k ≤ l.length ∧ i = .int .i64 k ∧ b = .bool (putK l n d k).2 ∧ FilesAt wr w.heap.size o (putK l n d k).1 ∧ Below w.heap.size w wr) (fun _ _ i _ => l.length - (intOf i).toNat)
  case atStart =>
    refine ⟨0, Nat.zero_le _, rfl, rfl, ?_, (Below.refl _ _).alloc (Nat.le_refl _) _⟩
    exact ⟨by simp [putK], .inr ⟨w.heap.size, 0, #[], rfl, Nat.le_refl _, heap_alloc_new w _, Nat.le_refl _, Nat.zero_le _, by simp, by simp [putK]⟩⟩
  case round =>
    obtain ⟨k, hk, rfl, rfl, HO0, HB0⟩ := hrel
    have HO := Lib.hid HO0
    have HB := Lib.hid HB0
    clear HO0 HB0
    have hs0 := HB.out.size
    have hlen := putK_len l n d k
    have hoal : ∀ {wr : World} {o : Value} {out : Files} (x : Obj), FilesAt wr w.heap.size o out → FilesAt (wr.alloc x) w.heap.size o out := fun x h => ownsRow_chg h (S := fun _ => False) ((Chg.refl _ _).alloc x) (fun _ _ h => h)
    have HOAL := @hoal
    clear hoal
    by_cases hlt : k < l.length
    · obtain ⟨g, rfl, hc, hgl, _, hcv, hcm⟩ := ownsRow_some H.out (by omega)
      obtain ⟨p, hp⟩ : ∃ p, l[k]? = some p := ⟨_, List.getElem?_eq_getElem hlt⟩
      have c0w := rec_cells fileV_length hc hp 0 (by omega)
      have c1w := rec_cells fileV_length hc hp 1 (by omega)
      simp only [fileV, List.getElem?_cons_zero, List.getElem?_cons_succ, Nat.add_zero] at c0w c1w
      have c0 := cell_below HB.out c0w
      have c1 := cell_below HB.out c1w
      have C0 := Lib.hid c0w
      have C1 := Lib.hid c1w
      have HT := Lib.hid (putK_succ l n d k p hp)
      have HON := Lib.hid (fileV_one p)
      have HON2 := Lib.hid (fileV_one (n, d))
      clear hc hp c0w c1w
      unfold maxLen at hcm
      generalize putK l n d k = st at *
      obtain ⟨out, laid⟩ := st
      simp only at hlen HO HT ⊢
      by_cases he : p.1 = n
      · have hq : (p.1 == n) = true := by simpa using he
        have hlb : ltB p.1 n = false := by rw [he]; simp [ltB, lt_irr]
        cases laid with
        | true =>
          have HT2 := Lib.hid (HT.out.trans (pst_skip n d _ p rfl he))
          clear he
          go_wp2
          go_roundw
          case rel => exact ⟨k + 1, by omega, by go_num, by rw [HT2.out], by rw [HT2.out]; exact HO.out, HB.out⟩
          case measure => simp [intOf]; omega
        | false =>
          have HT2 := Lib.hid (HT.out.trans (pst_lay n d _ p rfl he))
          clear he
          go_wp2_with (at_builtin; refine wpList_appL Tryz.fileT rfl (.tmp 28) (.tmp 32) rfl w.heap.size _ out.length (fileCells out) rfl (HOAL _ HO.out) _ 1 1 (fileV (n, d)) (0, 0) rfl (heap_alloc_new _ _) rfl HON2.out Nat.zero_lt_one (by omega) (by omega) (by simp; omega) ?_; intro g' cv' w2 hown2 hgrow2 hg2; have HB2 := Lib.hid (below_app (HB.out.alloc (by omega) _) (HOAL _ HO.out) hgrow2 (by simp; omega)); have c0' := cell_below HB2.out C0.out)
          go_roundw
          case rel => exact ⟨k + 1, by omega, by go_num, by rw [HT2.out], by rw [HT2.out]; simpa [FilesAt] using hown2, HB2.out⟩
          case measure => simp [intOf]; omega
      · have hq : (p.1 == n) = false := by simpa using he
        by_cases hkeep : laid = true ∨ p.1 < n
        · have HT2 := Lib.hid (HT.out.trans (pst_keep n d _ p hkeep he))
          have hg : (!laid && !ltB p.1 n) = false := by
            rcases hkeep with h | h
            · simp [h]
            · simp [ltB, h]
          clear he
          cases laid with
          | true =>
            clear hkeep
            go_wp2_with (at_builtin; refine wpList_appL Tryz.fileT rfl (.tmp 41) (.tmp 46) rfl w.heap.size _ out.length (fileCells out) rfl (HOAL _ HO.out) _ 1 1 (fileV p) (0, 0) rfl (heap_alloc_new _ _) rfl HON.out Nat.zero_lt_one (by omega) (by omega) (by simp; omega) ?_; intro g' cv' w2 hown2 hgrow2 hg2; have HB2 := Lib.hid (below_app (HB.out.alloc (by omega) _) (HOAL _ HO.out) hgrow2 (by simp; omega)))
            go_roundw
            case rel => exact ⟨k + 1, by omega, by go_num, by rw [HT2.out], by rw [HT2.out]; simpa [FilesAt] using hown2, HB2.out⟩
            case measure => simp [intOf]; omega
          | false =>
            have hlb : ltB p.1 n = true := by simpa using hg
            clear hkeep hg
            go_wp2_with (at_builtin; refine wpList_appL Tryz.fileT rfl (.tmp 41) (.tmp 46) rfl w.heap.size _ out.length (fileCells out) rfl (HOAL _ HO.out) _ 1 1 (fileV p) (0, 0) rfl (heap_alloc_new _ _) rfl HON.out Nat.zero_lt_one (by omega) (by omega) (by simp; omega) ?_; intro g' cv' w2 hown2 hgrow2 hg2; have HB2 := Lib.hid (below_app (HB.out.alloc (by omega) _) (HOAL _ HO.out) hgrow2 (by simp; omega)))
            go_roundw
            case rel => exact ⟨k + 1, by omega, by go_num, by rw [HT2.out], by rw [HT2.out]; simpa [FilesAt] using hown2, HB2.out⟩
            case measure => simp [intOf]; omega
        · have hlaid : laid = false := by cases laid <;> simp_all
          have hnlt : ¬ p.1 < n := fun h => hkeep (.inr h)
          subst hlaid
          have HT2 := Lib.hid (HT.out.trans (pst_both n d _ p rfl hnlt he))
          have hlb : ltB p.1 n = false := by simp [ltB, hnlt]
          clear he hkeep hnlt
          go_wp2_with (first
            | (at_builtin; refine wpList_appL Tryz.fileT rfl (.tmp 28) (.tmp 32) rfl w.heap.size _ out.length (fileCells out) rfl (HOAL _ HO.out) _ 1 1 (fileV (n, d)) (0, 0) rfl (heap_alloc_new _ _) rfl HON2.out Nat.zero_lt_one (by omega) (by omega) (by simp; omega) ?_; intro g' cv' w2 hown2 hgrow2 hg2; have HB2 := Lib.hid (below_app (HB.out.alloc (by omega) _) (HOAL _ HO.out) hgrow2 (by simp; omega)); have HO2 := Lib.hid hown2; have c0' := cell_below HB2.out C0.out; have c1' := cell_below HB2.out C1.out; have hs2 := HB2.out.size; clear hown2 hgrow2 hg2)
            | (at_builtin; refine wpList_appL Tryz.fileT rfl (.tmp 41) (.tmp 46) rfl w.heap.size _ (out.length + 1) (fileCells out ++ fileV (n, d)) rfl (ownsRow_chg HO2.out (S := fun _ => False) ((Chg.refl _ _).alloc _) (fun _ _ h => h)) _ 1 1 (fileV p) (0, 0) rfl (heap_alloc_new _ _) rfl HON.out Nat.zero_lt_one (by omega) (by omega) (by simp; omega) ?_; intro g3 cv3 w3 hown3 hgrow3 hg3; have HB3 := Lib.hid (below_app (HB2.out.alloc (by omega) _) (ownsRow_chg HO2.out (S := fun _ => False) ((Chg.refl _ _).alloc _) (fun _ _ h => h)) hgrow3 (by simp; omega))))
          go_roundw
          case rel => exact ⟨k + 1, by omega, by go_num, by rw [HT2.out], by rw [HT2.out]; simpa [FilesAt] using hown3, HB3.out⟩
          case measure => simp [intOf]; omega
    · obtain rfl : k = l.length := by omega
      have HE := Lib.hid (put_end l HSL.out n d)
      have HON2 := Lib.hid (fileV_one (n, d))
      generalize putK l n d l.length = st at *
      obtain ⟨out, laid⟩ := st
      simp only at hlen HO HE ⊢
      cases laid with
      | true =>
        have HE2 := Lib.hid (show out = putF l n d from by simpa using HE.out)
        go_wp2
        go_ret
        exact ⟨_, rfl, by rw [← HE2.out]; exact HO.out, HB.out⟩
      | false =>
        have HE2 := Lib.hid (show out ++ [(n, d)] = putF l n d from by simpa using HE.out)
        go_wp2_with (at_builtin; refine wpList_appL Tryz.fileT rfl (.tmp 50) (.tmp 54) rfl w.heap.size _ out.length (fileCells out) rfl (HOAL _ HO.out) _ 1 1 (fileV (n, d)) (0, 0) rfl (heap_alloc_new _ _) rfl HON2.out Nat.zero_lt_one (by omega) (by omega) (by simp; omega) ?_; intro g' cv' w2 hown2 hgrow2 hg2; have HB2 := Lib.hid (below_app (HB.out.alloc (by omega) _) (HOAL _ HO.out) hgrow2 (by simp; omega)))
        go_ret
        exact ⟨_, rfl, by rw [← HE2.out]; simpa [FilesAt] using hown2, HB2.out⟩
end Go.Proofs.YtahdldbfcjbklaaGreat
