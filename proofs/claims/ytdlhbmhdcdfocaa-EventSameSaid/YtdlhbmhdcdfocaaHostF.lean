/- Package host's reference, sixth part: four numbers, walked. Conditions: texts of at most 2^30 bytes. -/
import Derived.Test.YtdlhbmhdcdfocaaHostE
set_option linter.unusedSimpArgs false
set_option linter.unusedVariables false
set_option linter.unnecessarySimpa false
namespace Go.Proofs.Ytdlhbmhdcdfocaa
open Go.RowKit

theorem quiet_of_same' {P : Program} {f : FuncId} {args : Array Value} {w : World} {n : Nat} {v : Value}
    (h : Calls P f args (w.drewN n) fun e w' => e = .returned v ∧ w.drewN n = w') : Calls P f args (w.drewN n) fun e w'' => e = .returned v ∧ ∃ m, w'' = w.drewN m :=
  h.mono fun _ _ ⟨he, hm⟩ => ⟨he, n, hm.symm⟩

set_option maxRecDepth 100000 in
set_option maxHeartbeats 2000000 in
theorem rfour_any (s : ByteArray) (w : World) (hs : s.size ≤ 1073741824) :
    Calls Try.prog 69 #[.string s] w fun e w' => e = .returned (.bool (four (bl s))) ∧ Below w.heap.size w w' := by
  obtain ⟨L, hL⟩ : ∃ L, L = splitB 46 (bl s) := ⟨_, rfl⟩
  have hsp := fun (W : World) => rSplit_any s 46 W hs
  have hne : L ≠ [] := by rw [hL]; exact splitB_ne _ _
  have hmem : Hid (∀ p ∈ L, p.length ≤ 1073741824) := fun p hp => by
    have := splitB_mem_len 46 (bl s) p (by rw [← hL]; exact hp); rw [bl_length] at this; omega
  have hfour : Hid (four (bl s) = (decide (L.length = 4) && L.all octet)) := by unfold Hid four; rw [hL]
  rw [← hL] at hsp
  have hlen : L.length ≤ 1073741825 := by rw [hL]; exact split_len 46 s hs
  have HS := Lib.hid hsp
  clear hsp hL
  by_cases h4 : L.length = 4
  · have e4 : ((L.length : Int) != 4) = false := by rw [bne_eq_false_iff_eq]; omega
    have H4 := Lib.hid h4
    have hlt4 : L.length ≤ 4 := by omega
    have hge4 : 4 ≤ L.length := by omega
    clear h4
    go_enter Try.func69, Try.ntmps69
    go_wp2_with (go_at_call 70; refine (HS.out _).mono ?_; rintro e w1 ⟨v, rfl, hown, hbel⟩; obtain ⟨g, cap, rfl, hcells⟩ := strs_open hown hne; have HC := Lib.hid hcells; clear hcells hown)
    go_loopw [4, 5, 6] (fun i _ _ wr => ∃ k : Nat, k ≤ L.length ∧ i = .int .i64 k ∧ four (bl s) = (L.drop k).all octet ∧ Below w1.heap.size w1 wr) (fun i _ _ _ => L.length - (intOf i).toNat)
    case atStart => exact ⟨0, Nat.zero_le _, rfl, by rw [hfour.out, H4.out]; simp, Below.refl _ _⟩
    case round =>
      obtain ⟨k, hk, rfl, hpre, hbr⟩ := hrel
      have HP := Lib.hid hpre
      clear hpre
      have hbt := below2 hbel hbr
      by_cases hlt : k < L.length
      · have hcell := kept hbr (HC.out k hlt)
        have hk4 : k < 4 := by omega
        have hD : L.drop k = L[k] :: L.drop (k + 1) := List.drop_eq_getElem_cons hlt
        have hml := hmem.out L[k] (List.getElem_mem hlt)
        have hT : Hid (four (bl s) = (octetR L[k] && (L.drop (k + 1)).all octet)) := by rw [Hid, HP.out, hD, List.all_cons, octet_eqR]
        obtain ⟨t, ht⟩ : ∃ t, t = mkS L[k] := ⟨_, rfl⟩
        rw [← ht] at hcell
        have hbt2 : L[k] = bl t := by rw [ht, bl_mkS]
        rw [hbt2] at hT
        have hts : t.size ≤ 1073741824 := by rw [ht, mkS_size]; exact hml
        clear HP ht hbt2 hml hD
        have hnum0 := fun (W : World) => rNumber_any t W hts
        have hdig0 := fun (W : World) => rDigits_any t W (by unfold maxLen; omega)
        by_cases h0 : 0 < t.size
        · have d1 : decide ((t.size : Int) < 1) = false := by simp; omega
          by_cases h3 : t.size ≤ 3
          · have d3 : decide (3 < (t.size : Int)) = false := by simp; omega
            by_cases hall : (bl t).all isDigit = true
            · have hnl : ¬ digits (bl t) < t.size := fun h => (digits_lt_iff (bl t)).1 (by rw [bl_length]; exact h) hall
              have hdl := digits_le (bl t)
              rw [bl_length] at hdl
              have d4 : ((digits (bl t) : Int) != (t.size : Int)) = false := by rw [bne_eq_false_iff_eq]; omega
              have hne45 : ¬ (0 < t.size ∧ ∀ h : 0 < t.size, t[0].toNat = 45) := fun ⟨_, h⟩ => by
                have h9 := isDigit_at hall h0
                have := h h0
                simp [isDigit, this] at h9
              have hnv := number_pos t hne45
              rw [if_pos ⟨h0, hall⟩] at hnv
              have hnb := numL_bd (bl t) hall
              obtain ⟨m, hm⟩ : ∃ m : Nat, numL (bl t) = (m : Int) := ⟨(numL (bl t)).toNat, by omega⟩
              rw [hnv, hm] at hnum0
              simp only at hnum0
              have hm2 : m ≤ 1099511627776 := by omega
              have hO : octetR (bl t) = (decide (m ≤ 255) && decide (textN m = bl t)) := by
                unfold octetR
                rw [hall, hm, Int.toNat_natCast, bl_length]
                rw [show decide ((m : Int) ≤ 255) = decide (m ≤ 255) by rw [Bool.eq_iff_iff]; simp; omega]
                simp [h3, show 1 ≤ t.size from h0]
              rw [hO] at hT
              have htx := fun (W : World) => rText_any m W (by omega)
              have hnum := Lib.hid hnum0
              have hdig := Lib.hid hdig0
              have HTX := Lib.hid htx
              clear hnum0 hdig0 htx hnv hm hnb hO hnl hall
              by_cases h255 : m ≤ 255
              · have d5 : decide (255 < (m : Int)) = false := by simp; omega
                by_cases htm : textN m = bl t
                · have HE : Hid (four (bl s) = (L.drop (k + 1)).all octet) := by rw [Hid, hT]; simp [h255, htm]
                  have d6 : ((mkS (textN m)).toList == t.toList) = true := by rw [str_beq, bl_mkS]; simp [htm]
                  clear hT htm
                  go_wp2
                  go_quiet ((first | (with_reducible exact quiet_of_same' (hdig.out _))))
                  go_wp2_with (go_at_call 79; refine (hnum.out _).mono ?_; rintro e w2 ⟨rfl, rfl⟩)
                  refine wp_region_after (by kernel_rfl) (by kernel_rfl) (fun W hW => ?_)
                  have hcw : ∀ i : After W, i.w.cell? ⟨g, k, none⟩ = some (.string t) := fun i => i.cell (by rw [hW.out]; exact hcell)
                  quiet_step (fail)
                  quiet_step (fail)
                  quiet_step (fail)
                  quiet_step (fail)
                  quiet_step (exact Calls.after (HTX.out _))
                  quiet_step (fail)
                  quiet_step (fail)
                  quiet_step (fail)
                  quiet_step (fail)
                  quiet_step (fail)
                  quiet_step (fail)
                  refine wpQuiet_nil ?_
                  rintro _ ⟨i, rfl⟩
                  have hib := i.h
                  generalize i.w = wi at hib ⊢
                  rw [hW.out] at hib
                  clear hcw
                  go_wp2
                  go_roundw
                  case rel => exact ⟨k + 1, by omega, by go_num, HE.out, hbr.trans ((below_drewN' (B := w1.heap.size) nq).trans (hib.mono (by simp; exact hbr.size)))⟩
                  case measure => simp [intOf] <;> omega
                · have HE : Hid (four (bl s) = false) := by rw [Hid, hT]; simp [htm]
                  have d6 : ((mkS (textN m)).toList == t.toList) = false := by rw [str_beq, bl_mkS]; simpa using htm
                  clear hT htm
                  go_wp2
                  go_quiet ((first | (with_reducible exact quiet_of_same' (hdig.out _))))
                  go_wp2_with (go_at_call 79; refine (hnum.out _).mono ?_; rintro e w2 ⟨rfl, rfl⟩)
                  refine wp_region_after (by kernel_rfl) (by kernel_rfl) (fun W hW => ?_)
                  have hcw : ∀ i : After W, i.w.cell? ⟨g, k, none⟩ = some (.string t) := fun i => i.cell (by rw [hW.out]; exact hcell)
                  quiet_step (fail)
                  quiet_step (fail)
                  quiet_step (fail)
                  quiet_step (fail)
                  quiet_step (exact Calls.after (HTX.out _))
                  quiet_step (fail)
                  quiet_step (fail)
                  quiet_step (fail)
                  quiet_step (fail)
                  quiet_step (fail)
                  quiet_step (fail)
                  refine wpQuiet_nil ?_
                  rintro _ ⟨i, rfl⟩
                  have hib := i.h
                  generalize i.w = wi at hib ⊢
                  rw [hW.out] at hib
                  clear hcw
                  go_wp2
                  go_ret
                  exact ⟨ret_bool HE.out.symm, hbt.trans ((below_drewN' nq).trans (hib.mono (by simp; exact hbt.size)))⟩
              · have HE : Hid (four (bl s) = false) := by rw [Hid, hT]; simp [h255]
                have d5 : decide (255 < (m : Int)) = true := by simp; omega
                clear hT
                go_wp2
                go_quiet ((first | (with_reducible exact quiet_of_same' (hdig.out _))))
                go_wp2_with (go_at_call 79; refine (hnum.out _).mono ?_; rintro e w2 ⟨rfl, rfl⟩)
                go_quiet (fail)
                go_wp2
                go_ret
                exact ⟨ret_bool HE.out.symm, hbt.trans ((below_drewN' _).trans (below_drewN' _))⟩
            · have hnl : digits (bl t) < t.size := by have := (digits_lt_iff (bl t)).2 hall; rwa [bl_length] at this
              have d4 : ((digits (bl t) : Int) != (t.size : Int)) = true := by rw [bne_iff_ne]; omega
              have HE : Hid (four (bl s) = false) := by rw [Hid, hT]; unfold octetR; simp [hall]
              generalize number (bl t) = nv at hnum0
              have hnum := Lib.hid hnum0
              have hdig := Lib.hid hdig0
              clear hnum0 hdig0 hT
              go_wp2
              go_quiet ((first | (with_reducible exact quiet_of_same' (hdig.out _))))
              go_wp2
              go_ret
              exact ⟨ret_bool HE.out.symm, hbt.trans (below_drewN' _)⟩
          · have d3 : decide (3 < (t.size : Int)) = true := by simp; omega
            have HE : Hid (four (bl s) = false) := by rw [Hid, hT]; unfold octetR; rw [bl_length]; simp [h3]
            generalize number (bl t) = nv at hnum0
            have hnum := Lib.hid hnum0
            have hdig := Lib.hid hdig0
            clear hnum0 hdig0 hT
            go_wp2
            go_quiet ((first | (with_reducible exact quiet_of_same' (hdig.out _))))
            go_wp2
            go_ret
            exact ⟨ret_bool HE.out.symm, hbt.trans (below_drewN' _)⟩
        · have d1 : decide ((t.size : Int) < 1) = true := by simp; omega
          have HE : Hid (four (bl s) = false) := by rw [Hid, hT]; unfold octetR; rw [bl_length]; simp [show ¬ 1 ≤ t.size from h0]
          generalize number (bl t) = nv at hnum0
          have hnum := Lib.hid hnum0
          have hdig := Lib.hid hdig0
          clear hnum0 hdig0 hT
          go_wp2
          go_quiet ((first | (with_reducible exact quiet_of_same' (hdig.out _))))
          go_wp2
          go_ret
          exact ⟨ret_bool HE.out.symm, hbt.trans (below_drewN' _)⟩
      · have HE : Hid (four (bl s) = true) := by rw [Hid, HP.out, List.drop_eq_nil_of_le (by omega)]; rfl
        go_wp2
        go_ret
        exact ⟨ret_bool HE.out.symm, hbt⟩
  · have e4 : ((L.length : Int) != 4) = true := by rw [bne_iff_ne]; omega
    have HE : Hid (four (bl s) = false) := by rw [Hid, hfour.out]; simp [h4]
    clear h4
    go_enter Try.func69, Try.ntmps69
    go_wp2_with (go_at_call 70; refine (HS.out _).mono ?_; rintro e w1 ⟨v, rfl, hown, hbel⟩; obtain ⟨g, cap, rfl, hcells⟩ := strs_open hown hne; have HC := Lib.hid hcells; clear hcells hown)
    go_ret
    exact ⟨ret_bool HE.out.symm, hbel⟩
end Go.Proofs.Ytdlhbmhdcdfocaa
