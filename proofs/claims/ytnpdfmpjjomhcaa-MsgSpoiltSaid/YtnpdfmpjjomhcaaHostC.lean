/- Package host and its reference, third part: the reference's label; addresses in brackets. Conditions: texts of at most 2^30 bytes. -/
import Derived.Test.YtnpdfmpjjomhcaaHostB
set_option linter.unusedSimpArgs false
set_option linter.unusedVariables false
set_option linter.unnecessarySimpa false
namespace Go.Proofs.Ytnpdfmpjjomhcaa
open Go.RowKit

theorem head_bl (s : ByteArray) (h : 0 < s.size) : (bl s).head? = some s[0] := by rw [List.head?_eq_getElem?, List.getElem?_eq_getElem (by rw [bl_length]; exact h)]; rfl
theorem last_bl (s : ByteArray) (h : 0 < s.size) : (bl s).getLast? = some (s[s.size - 1]'(by omega)) := by
  rw [List.getLast?_eq_getElem?, List.getElem?_eq_getElem (by rw [bl_length]; omega)]; rfl

/-- the middle of an address in brackets -/
theorem bracket_mid (s : ByteArray) (h4 : 4 ≤ s.size) : ((bl s).drop 1).take ((bl s).length - 2) = bl (s.extract 1 (s.size - 1)) := by
  rw [bl_extract, bl_length, List.drop_take]; congr 1

set_option maxRecDepth 100000 in
set_option maxHeartbeats 1000000 in
theorem bracket_any (s : ByteArray) (w : World) (hs : s.size ≤ 1073741824) :
    Calls Try.prog 90 #[.string s] w fun e w' => e = .returned (.bool (bracket (bl s))) ∧ Below w.heap.size w w' := by
  by_cases h4 : 4 ≤ s.size
  · by_cases h47 : s.size ≤ 47
    · have h0 : 0 < s.size := by omega
      have hh := head_bl s h0
      have hg := last_bl s h0
      by_cases ha : s[0].toNat = 91
      · have e1 : ((s[0].toNat : Int) != 91) = false := by rw [bne_eq_false_iff_eq]; omega
        by_cases hb : s[s.size - 1].toNat = 93
        · have e2 : ((s[s.size - 1].toNat : Int) != 93) = false := by rw [bne_eq_false_iff_eq]; omega
          have HM : Hid (bracket (bl s) = (bl (s.extract 1 (s.size - 1))).all isHexB) := by
            unfold Hid bracket
            rw [bracket_mid s h4, hh, hg, bl_length]
            simp [ha, hb, h4, h47]
          obtain ⟨cap, w1, hconv, hb1, hz1, hcap, hby, hfr⟩ := conv_str (P := Try.prog) 9 28 5 Try.underlying9 Try.underlying28 Try.underlying5 w (s.extract 1 (s.size - 1))
          have hts : Hid ((s.extract 1 (s.size - 1)).size = s.size - 1 - 1) := by unfold Hid; simp <;> omega
          have hsx : (1 : Int) ≤ (s.size : Int) - 1 := by omega
          have hsy : (s.size : Int) - 1 ≤ (s.size : Int) := by omega
          have hsz : (0 : Int) ≤ (s.size : Int) - 1 := by omega
          have hsw : ((s.size : Int) - 1).toNat = s.size - 1 := by omega
          clear hh hg ha hb hfr hz1
          go_enter Try.func90, Try.ntmps90
          go_wp2
          clear hconv
          generalize s.extract 1 (s.size - 1) = t at *
          go_loop [4, 33] (fun _ i => ∃ k : Nat, k ≤ s.size - 1 - 1 ∧ i = .int .i64 k ∧ bracket (bl s) = ((bl t).drop k).all isHexB) (fun _ i => s.size - (intOf i).toNat)
          case atStart => exact ⟨0, Nat.zero_le _, rfl, HM.out⟩
          case round =>
            obtain ⟨k, hk, rfl, hpre⟩ := hrel
            have HP := Lib.hid hpre
            clear hpre
            by_cases hlt' : k < s.size - 1 - 1
            · have hlt : k < t.size := by rw [hts.out]; exact hlt'
              have HD := Lib.hid (drop_cons t k hlt)
              have hck := hby k hlt
              rw [bl_get t k hlt, Nat.zero_add] at hck
              have HY : Hid (isHexB t[k] = true → bracket (bl s) = ((bl t).drop (k + 1)).all isHexB) := fun h => by rw [HP.out, HD.out]; simp [h]
              have HN : Hid (isHexB t[k] = false → bracket (bl s) = false) := fun h => by rw [HP.out, HD.out]; simp [h]
              clear HP HD
              generalize t[k] = c at *
              clear hby
              go_wp2
              all_goals first
                | (go_ret; exact ⟨ret_bool (HN.out (by unfold isHexB; rw [Bool.eq_iff_iff]; simp; (first | omega | (simp only [beq_iff_eq, beq_eq_false_iff_ne, ne_eq, bne_iff_ne, bne_eq_false_iff_eq, decide_eq_true_eq, decide_eq_false_iff_not, Bool.not_eq_eq_eq_not, Bool.not_true, Bool.not_false] at *; omega)))).symm, hb1⟩)
                | (go_round
                   case rel => exact ⟨k + 1, by omega, by go_num, HY.out (by unfold isHexB; simp; (first | omega | (simp only [beq_iff_eq, beq_eq_false_iff_ne, ne_eq, bne_iff_ne, bne_eq_false_iff_eq, decide_eq_true_eq, decide_eq_false_iff_not, Bool.not_eq_eq_eq_not, Bool.not_true, Bool.not_false] at *; omega)))⟩
                   case measure => simp [intOf] <;> omega)
            · have HD := Lib.hid (drop_all t k (by rw [hts.out]; exact hlt'))
              go_wp2
              go_ret
              exact ⟨ret_bool (by rw [HP.out, HD.out]; rfl), hb1⟩
        · have e2 : ((s[s.size - 1].toNat : Int) != 93) = true := by rw [bne_iff_ne]; omega
          have HE : Hid (bracket (bl s) = false) := by unfold Hid bracket; rw [hg]; simp [hb]
          clear hh hg hb ha
          go_enter Try.func90, Try.ntmps90
          go_wp2
          go_ret
          exact ⟨ret_bool HE.out.symm, Below.refl _ _⟩
      · have e1 : ((s[0].toNat : Int) != 91) = true := by rw [bne_iff_ne]; omega
        have HE : Hid (bracket (bl s) = false) := by unfold Hid bracket; rw [hh]; simp [ha]
        clear hh hg ha
        go_enter Try.func90, Try.ntmps90
        go_wp2
        go_ret
        exact ⟨ret_bool HE.out.symm, Below.refl _ _⟩
    · have HE : Hid (bracket (bl s) = false) := by unfold Hid bracket; rw [bl_length]; simp [show ¬ s.size ≤ 47 from h47]
      go_enter Try.func90, Try.ntmps90
      go_wp2
      go_ret
      exact ⟨ret_bool HE.out.symm, Below.refl _ _⟩
  · have HE : Hid (bracket (bl s) = false) := by unfold Hid bracket; rw [bl_length]; simp [show ¬ 4 ≤ s.size from h4]
    go_enter Try.func90, Try.ntmps90
    go_wp2
    go_ret
    exact ⟨ret_bool HE.out.symm, Below.refl _ _⟩

end Go.Proofs.Ytnpdfmpjjomhcaa
