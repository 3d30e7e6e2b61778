/- disk: May. -/
import Derived.Test.YtahdldbfcjbklaaGreatDiskSpec
import Derived.Test.YtahdldbfcjbklaaGreatShelf
namespace Go.Proofs.YtahdldbfcjbklaaGreat
open Go.RowKit

/-- the four signs that a name may bear -/
abbrev signs : List UInt8 := [46, 95, 45, 47]
theorem mayC_eq (c : UInt8) : mayC c = (decide (97 ≤ (c.toNat : Int)) && decide ((c.toNat : Int) ≤ 122) || decide (48 ≤ (c.toNat : Int)) && decide ((c.toNat : Int) ≤ 57) || decide (0 ≤ Lib.indexByte signs c)) := by
  have h : (decide (0 ≤ Lib.indexByte signs c)) = (c == 46 || c == 95 || c == 45 || c == 47) := by
    simp only [Lib.indexByte, signs]
    by_cases h1 : c = 46
    · subst h1; decide
    · by_cases h2 : c = 95
      · subst h2; decide
      · by_cases h3 : c = 45
        · subst h3; decide
        · by_cases h4 : c = 47
          · subst h4; decide
          · have e1 : ((46 : UInt8) == c) = false := by simpa using fun h => h1 h.symm
            have e2 : ((95 : UInt8) == c) = false := by simpa using fun h => h2 h.symm
            have e3 : ((45 : UInt8) == c) = false := by simpa using fun h => h3 h.symm
            have e4 : ((47 : UInt8) == c) = false := by simpa using fun h => h4 h.symm
            simp [e1, e2, e3, e4, h1, h2, h3, h4]
  rw [h]
  have i1 : (c == 46) = (c.toNat == 46) := by rw [Bool.eq_iff_iff]; simp [← UInt8.toNat_inj]
  have i2 : (c == 95) = (c.toNat == 95) := by rw [Bool.eq_iff_iff]; simp [← UInt8.toNat_inj]
  have i3 : (c == 45) = (c.toNat == 45) := by rw [Bool.eq_iff_iff]; simp [← UInt8.toNat_inj]
  have i4 : (c == 47) = (c.toNat == 47) := by rw [Bool.eq_iff_iff]; simp [← UInt8.toNat_inj]
  rw [i1, i2, i3, i4, mayC]
  simp only [Bool.or_assoc]
  congr 1
  · congr 1 <;> (apply decide_eq_decide.2; omega)
  · congr 1
    congr 1 <;> (apply decide_eq_decide.2; omega)

theorem index_signs (c : UInt8) (w : World) :
    Calls Tryz.prog 84 #[.string ⟨#[46, 95, 45, 47]⟩, .int .u8 (c.toNat : Int)] w fun e w' => e = .returned (.int .i64 (Lib.indexByte signs c)) ∧ w = w' := by
  refine (Tryz.strings_IndexByte ⟨#[46, 95, 45, 47]⟩ (c.toNat : Int) w).mono ?_
  rintro e w' ⟨rfl, rfl⟩
  refine ⟨?_, rfl⟩
  simp

set_option maxRecDepth 100000 in
set_option maxHeartbeats 2000000 in
theorem may_any (s : Bs) (hs : s.length ≤ 1000000000000) (w : World) :
    Calls Tryz.prog 60 #[vs s] w fun e w' => e = .returned (.bool (mayN s)) ∧ w = w' := by
  unfold vs
  go_enter Tryz.func60, Tryz.ntmps60
  go_wp2
  go_loop [7] (fun i => ∃ j : Nat, j ≤ s.length ∧ i = .int .i64 j ∧ Hid ((s.take j).all mayC = true)) (fun i => s.length - (intOf i).toNat)
  case atStart => exact ⟨0, Nat.zero_le _, rfl, Lib.hid (by simp)⟩
  case round =>
    obtain ⟨j, hj, rfl, HA⟩ := hrel
    by_cases hlt : j < s.length
    · have HM := Lib.hid (mayC_eq s[j])
      have HI := fun w => Lib.hid (index_signs s[j] w)
      have HT := Lib.hid (show (s.take (j + 1)).all mayC = ((s.take j).all mayC && mayC s[j]) from by rw [List.take_add_one, List.getElem?_eq_getElem hlt, List.all_append]; simp)
      have HN := Lib.hid (show mayC s[j] = false → mayN s = false from fun h => by
        have : s.all mayC = false := by
          rw [List.all_eq_false]; exact ⟨s[j], List.getElem_mem hlt, by simp [h]⟩
        simp [mayN, this])
      generalize hc : s[j] = c at *
      generalize hz : Lib.indexByte signs c = z at *
      by_cases a1 : (97 : Int) ≤ c.toNat <;> by_cases a2 : (c.toNat : Int) ≤ 122 <;> by_cases b1 : (48 : Int) ≤ c.toNat <;> by_cases b2 : (c.toNat : Int) ≤ 57 <;> first | (exfalso; omega) | skip
      all_goals by_cases hz0 : 0 ≤ z
      all_goals
        go_wp2_with fail
        (try (refine (HI _).out.mono ?_; rintro e w' ⟨rfl, rfl⟩; go_wp2_with fail))
        all_goals first
          | (exfalso; rename_i hbb; simp at hbb; omega)
          | (go_round
             case rel => exact ⟨j + 1, by omega, by go_num, Lib.hid (by rw [HT.out, HA.out, HM.out]; simp [*])⟩
             case measure => simp [intOf]; omega)
          | (go_ret
             rw [HN.out (by rw [HM.out]; simp [*])]
             exact ⟨rfl, rfl⟩)
    · obtain rfl : j = s.length := by omega
      have HA2 := Lib.hid (show s.all mayC = true from by have := HA.out; rwa [List.take_length] at this)
      by_cases h0 : s = []
      · subst h0
        go_wp2
        go_ret
        simp [mayN]
      · have h1 : 1 ≤ s.length := by cases s with | nil => exact absurd rfl h0 | cons x l => simp
        by_cases h80 : s.length ≤ 80
        · have HN := Lib.hid (show mayN s = true from by simp [mayN, HA2.out, h1, h80])
          go_wp2
          go_ret
          rw [HN.out]
          exact ⟨by simp [h0]; omega, rfl⟩
        · have HN := Lib.hid (show mayN s = false from by simp [mayN, h80])
          go_wp2
          go_ret
          rw [HN.out]
          exact ⟨by simp [h0]; omega, rfl⟩
end Go.Proofs.YtahdldbfcjbklaaGreat
