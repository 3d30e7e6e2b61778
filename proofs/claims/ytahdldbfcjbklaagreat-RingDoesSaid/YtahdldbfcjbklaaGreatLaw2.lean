/- RingDoes: awake. -/
import Derived.Test.YtahdldbfcjbklaaGreatLaw1
namespace Go.Proofs.YtahdldbfcjbklaaGreat
open Go.RowKit
/-! ### rows come back -/
theorem highB_succ (n k : Nat) : highB n (k + 1) = UInt8.ofNat (n / 256 ^ k) :: highB n k := by
  unfold highB; rw [lowB_succ]; simp
theorem num_cons (b : UInt8) (l : List UInt8) : num (b :: l) = b.toNat * 256 ^ l.length + num l := by
  have h : ∀ (l : List UInt8) (x : Nat), l.foldl (fun x b => x * 256 + b.toNat) x = x * 256 ^ l.length + num l := by
    intro l
    induction l with
    | nil => intro x; simp [num]
    | cons c l ih =>
      intro x
      have e : num (c :: l) = c.toNat * 256 ^ l.length + num l := by
        have := ih (0 * 256 + c.toNat)
        simpa [num] using this
      rw [List.foldl_cons, ih, e, List.length_cons, Nat.pow_succ, Nat.add_mul, Nat.add_assoc, Nat.mul_assoc, Nat.mul_comm 256]
  have := h l b.toNat
  simpa [num] using this
theorem num_highB' (n k : Nat) : num (highB n k) = n % 256 ^ k := by
  induction k with
  | zero => simp [highB, lowB, num, Nat.mod_one]
  | succ k ih =>
    rw [highB_succ, num_cons, highB_length, ih, Nat.pow_succ, Nat.mod_mul]
    have : (UInt8.ofNat (n / 256 ^ k)).toNat = n / 256 ^ k % 256 := by simp
    rw [this, Nat.mul_comm]; omega
theorem numB_eq' (n : Nat) : numB n = UInt8.ofNat (need n) :: highB n (need n) := by simp [numB]
theorem rdNum_numB (m n : Nat) (hn : n ≤ m) (h64 : n < 18446744073709551616) (t : Bs) : rdNum m (some (numB n ++ t)) = (n, some t) := by
  have h8 := need8 n h64
  have hb : (UInt8.ofNat (need n)).toNat = need n := by simp; omega
  have hnum : num (highB n (need n)) = n := by rw [num_highB']; exact Nat.mod_eq_of_lt (lt_need n)
  rw [numB_eq', List.cons_append]
  simp only [rdNum, hb]
  rw [if_neg (by rw [List.length_append, highB_length]; omega)]
  have ht : (highB n (need n) ++ t).take (need n) = highB n (need n) := by
    rw [List.take_append_of_le_length (by rw [highB_length]; omega), List.take_of_length_le (by rw [highB_length]; omega)]
  have hd : (highB n (need n) ++ t).drop (need n) = t := by
    rw [List.drop_append_of_le_length (by rw [highB_length]; omega), List.drop_of_length_le (by rw [highB_length]; omega)]; simp
  rw [ht, hnum, if_neg (by omega), hd]
theorem rdText_textB (m : Nat) (s : Bs) (hs : s.length ≤ m) (h64 : s.length < 18446744073709551616) (t : Bs) : rdText m (some (textB s ++ t)) = (s, some t) := by
  unfold rdText textB
  rw [List.append_assoc, rdNum_numB m s.length hs h64]
  simp [rdTake]
theorem rowStep_rowB (k : Bs) (hk : k.length ≤ 255) (n o : Nat) (hn : n ≤ 1000000) (ho : o ≤ 1000000) (t : Bs) (hl : (textB k ++ (numB n ++ numB o)).length ≤ 300) : rowStep (rowB k n o ++ t) = some (⟨k, n, o⟩, t) := by
  unfold rowStep rowB
  rw [rdText_textB 300 _ hl (by omega)]
  have hJ : rowJ (textB k ++ (numB n ++ numB o)) = (⟨k, n, o⟩, true) := by
    unfold rowJ
    rw [rdText_textB 255 k hk (by omega)]
    simp only
    rw [rdNum_numB 1000000 n hn (by omega)]
    simp only
    have := rdNum_numB 1000000 o ho (by omega) []
    rw [List.append_nil] at this
    rw [this]
    simp [rdDone]
  rw [hJ]; rfl
theorem rowStep_nil : rowStep [] = none := by
  unfold rowStep
  simp [rdText, rdNum, rdTake, rowJ, rdDone]

/-! ### a disk that is alive and has room -/
structure Live (d : DS) (x : Bs) : Prop where
  now : d.now = [(ringN, x)]
  dead : d.dead = false
  fuse : d.fuse = -1
  quota : d.quota = 1048576
theorem Live.done {d : DS} {x : Bs} (h : Live d x) (e : Ev) : (d.done e).2 = 0 ∧ (d.done e).1.dead = false ∧ (d.done e).1.fuse = -1 ∧ (d.done e).1.quota = 1048576 ∧ (d.done e).1.now = if e.op = 5 then d.now else doF d.now e := by
  have h1 := h.dead; have h2 := h.fuse; have h3 := h.quota
  unfold DS.done
  rw [if_neg (by simp [h1, h2])]
  split <;> simp [DS.burnt, h1, h2, h3]
theorem Live.append {d : DS} {x : Bs} (h : Live d x) (b : Bs) (hb : x.length + b.length ≤ 1048576) : (d.append ringN b).2 = 0 ∧ Live (d.append ringN b).1 (x ++ b) := by
  have hd := h.done ⟨2, ringN, [], b⟩
  have hn := h.now
  unfold DS.append
  rw [if_neg (by simp [hn, getF]), if_neg (by rw [h.quota, hn]; simp [sizeF]; omega)]
  obtain ⟨a1, a2, a3, a4, a5⟩ := hd
  refine ⟨a1, ⟨?_, a2, a3, a4⟩⟩
  rw [a5, hn]; simp [doF, putF, dataF, getF]
theorem Live.sync {d : DS} {x : Bs} (h : Live d x) : d.sync.2 = 0 ∧ Live d.sync.1 x := by
  obtain ⟨a1, a2, a3, a4, a5⟩ := h.done ⟨5, [], [], []⟩
  exact ⟨a1, ⟨by rw [DS.sync, a5]; simpa using h.now, a2, a3, a4⟩⟩
theorem Live.set {d : DS} {x : Bs} (h : Live d x) (L : List Rw) (r : Rw) (hb : x.length + (rowB r.dom r.now r.old).length ≤ 1048576) : ∃ d', setR d L r = (d', L ++ [r], 0) ∧ Live d' (x ++ rowB r.dom r.now r.old) := by
  obtain ⟨h1, h2⟩ := h.append (rowB r.dom r.now r.old) hb
  obtain ⟨h3, h4⟩ := h2.sync
  refine ⟨_, ?_, h4⟩
  unfold setR
  rw [if_neg (by simp [h1]), if_neg (by simp [h3])]
theorem Live.new : ∃ d, openR DS.new = (d, some [], 0) ∧ Live d [] := by
  have hw : DS.new.write ringN [] = DS.new.done ⟨1, ringN, [], []⟩ := by
    unfold DS.write
    rw [if_neg (by decide), if_neg (by simp [DS.new]), if_neg (by simp [DS.new, sizeF, dataF, getF])]
  have hr : rowsOf [] = ([], []) := by simp [rowsOf, rowsF, rowStep_nil]
  have h1 : (DS.new.done ⟨1, ringN, [], []⟩).2 = 0 := by simp [DS.done, DS.new]
  have h2 : Live (DS.new.done ⟨1, ringN, [], []⟩).1 [] := by
    refine ⟨?_, ?_, ?_, ?_⟩ <;> simp [DS.done, DS.new, DS.burnt, doF, putF]
  obtain ⟨h3, h4⟩ := h2.sync
  refine ⟨_, ?_, h4⟩
  have hrd : DS.new.read ringN = ([], 10) := by simp [DS.read, DS.new, getF]
  unfold openR openW
  rw [hrd, hr]
  simp only [List.length_nil, Nat.sub_self, List.take_nil]
  rw [if_neg (by simp)]
  unfold openC
  rw [hw, if_neg (by simp [h1]), if_neg (by simp [h3])]
abbrev nA : Bs := [97]
abbrev nB : Bs := [98]
/-- what awake sees -/
theorem awake_plain : ∃ d1 d2 d3 : DS, openR DS.new = (d1, some [], 0) ∧ beginR d1 [] nA = (d2, [⟨nA, 2, 1⟩], 2, 0) ∧ beginR d2 [⟨nA, 2, 1⟩] nA = (d2, [⟨nA, 2, 1⟩], 0, 11) ∧
    endR d2 [⟨nA, 2, 1⟩] nA = (d3, [⟨nA, 2, 1⟩, ⟨nA, 2, 0⟩], 0) ∧ endR d3 [⟨nA, 2, 1⟩, ⟨nA, 2, 0⟩] nA = (d3, [⟨nA, 2, 1⟩, ⟨nA, 2, 0⟩], 10) ∧ openR d3 = (d3, some [⟨nA, 2, 1⟩, ⟨nA, 2, 0⟩], 0) := by
  obtain ⟨d1, h1, l1⟩ := Live.new
  have hl1 : (rowB nA 2 1).length ≤ 1100 := rowB_length _ _ _ (by simp) (by omega) (by omega)
  have hl2 : (rowB nA 2 0).length ≤ 1100 := rowB_length _ _ _ (by simp) (by omega) (by omega)
  obtain ⟨d2, h2, l2⟩ := l1.set [] ⟨nA, 2, 1⟩ (by simp only [List.length_nil]; omega)
  obtain ⟨d3, h3, l3⟩ := l2.set [⟨nA, 2, 1⟩] ⟨nA, 2, 0⟩ (by simp only [List.nil_append]; omega)
  simp only [List.nil_append] at h2 l2 l3
  refine ⟨d1, d2, d3, h1, ?_, ?_, ?_, ?_, ?_⟩
  · simp [beginR, stR, lastR, h2]
  · simp [beginR, stR, lastR]
  · simp [endR, stR, lastR, h3]
  · simp [endR, stR, lastR]
  · have hrd : d3.read ringN = (rowB nA 2 1 ++ rowB nA 2 0, 0) := by simp [DS.read, l3.now, getF]
    have hs : ∀ n o t, n ≤ 1000000 → o ≤ 1000000 → rowStep (rowB nA n o ++ t) = some (⟨nA, n, o⟩, t) := fun n o t hn ho => rowStep_rowB nA (by simp) n o hn ho t (by
      have n2 := need8 n (by omega)
      have n3 := need8 o (by omega)
      have n1 := need8 nA.length (by simp)
      rw [List.length_append, List.length_append, textB_length, numB_length, numB_length]; simp at n1 ⊢; omega)
    have hr : rowsOf (rowB nA 2 1 ++ rowB nA 2 0) = ([⟨nA, 2, 1⟩, ⟨nA, 2, 0⟩], []) := by
      have a0 := RowsAt.start (rowB nA 2 1 ++ rowB nA 2 0)
      have a1 := a0.step (hs 2 1 (rowB nA 2 0) (by omega) (by omega))
      have a2 := a1.step (by have := hs 2 0 [] (by omega) (by omega); rwa [List.append_nil] at this)
      exact a2.done rowStep_nil
    unfold openR openW
    rw [hrd, hr]
    simp
end Go.Proofs.YtahdldbfcjbklaaGreat
