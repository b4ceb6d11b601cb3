/- Package host and its reference, fourth part: four numbers, addresses, names. Conditions: texts of at most 2^30 bytes. -/
import Derived.Test.YtnpdfmpjjomhcaaHostC
set_option linter.unusedSimpArgs false
set_option linter.unusedVariables false
set_option linter.unnecessarySimpa false
namespace Go.Proofs.Ytnpdfmpjjomhcaa
open Go.RowKit

/-- a slice of strings that the callee made, read -/
theorem strs_open {w : World} {base : Nat} {E : TypeId} {v : Value} {L : List Bytes} (h : w.ownsRow base E 1 v L.length (strVals L)) (hne : L ≠ []) :
    ∃ g cap, v = .slice (some ⟨g, 0, none⟩) L.length cap ∧ ∀ j (hj : j < L.length), w.cell? ⟨g, j, none⟩ = some (.string (mkS L[j])) := by
  have hc := fun g (hg : v.ownBlock = some g) => h.cells hg
  rcases h.2 with ⟨rfl, hn⟩ | ⟨g, cap, cur, rfl, rest⟩
  · exact absurd (List.length_eq_zero_iff.1 hn) hne
  · refine ⟨g, cap, rfl, fun j hj => ?_⟩
    have := hc g rfl j (.string (mkS L[j])) (by simp [strVals, hj])
    unfold Addr.add at this
    split at this
    · rename_i h0; subst h0; exact this
    · simpa using this

theorem split_len (c : UInt8) (s : ByteArray) (hs : s.size ≤ 1073741824) : (splitB c (bl s)).length ≤ 1073741825 := by
  have := splitB_length c (bl s); rw [bl_length] at this; omega
theorem splitB_mem_len (c : UInt8) : ∀ (l : Bytes) (p : Bytes), p ∈ splitB c l → p.length ≤ l.length
  | [], p, h => by simp [splitB] at h; subst h; simp
  | x :: r, p, h => by
    unfold splitB at h
    split at h
    · rcases List.mem_cons.1 h with rfl | h
      · simp
      · have := splitB_mem_len c r p h; simp; omega
    · cases hs : splitB c r with
      | nil => exact absurd hs (splitB_ne c r)
      | cons a b =>
        rw [hs] at h
        rcases List.mem_cons.1 h with rfl | h
        · have := splitB_mem_len c r a (by rw [hs]; simp); simp; omega
        · have := splitB_mem_len c r p (by rw [hs]; simp [h]); simp; omega

/-- what decides on a number of an address -/
theorem octet_eq (t : ByteArray) : octet (bl t) = (decide (0 < t.size) && ((bl t).all isDigit && (decide (numL (bl t) ≤ 255) && (decide (t.size ≤ 1) || !((bl t).head?.any fun c => decide (c.toNat = 48)))))) := by
  unfold octet; rw [bl_length]; simp [Nat.succ_le_iff, Bool.and_assoc]

set_option maxRecDepth 100000 in
set_option maxHeartbeats 2000000 in
theorem four_any (s : ByteArray) (w : World) (hs : s.size ≤ 1073741824) :
    Calls Try.prog 89 #[.string s] w fun e w' => e = .returned (.bool (four (bl s))) ∧ Below w.heap.size w w' := by
  obtain ⟨L, hL⟩ : ∃ L, L = splitB 46 (bl s) := ⟨_, rfl⟩
  have hsp := fun (W : World) => Split_any s 46 W hs
  have hne : L ≠ [] := by rw [hL]; exact splitB_ne _ _
  have hmem : Hid (∀ p ∈ L, p.length ≤ 1073741824) := fun p hp => by
    have := splitB_mem_len 46 (bl s) p (by rw [← hL]; exact hp); rw [bl_length] at this; omega
  have hfour : Hid (four (bl s) = (decide (L.length = 4) && L.all octet)) := by unfold Hid four; rw [hL]
  rw [← hL] at hsp
  have hlen : L.length ≤ 1073741825 := by rw [hL]; exact split_len 46 s hs
  have HS := Lib.hid hsp
  clear hsp hL
  by_cases h4 : L.length = 4
  · have e4 : ((L.length : Int) != 4) = false := by rw [bne_eq_false_iff_eq]; omega
    have H4 := Lib.hid h4
    have hlt4 : L.length ≤ 4 := by omega
    clear h4
    go_enter Try.func89, Try.ntmps89
    go_wp2_with (go_at_call 87; refine (HS.out _).mono ?_; rintro e w1 ⟨v, rfl, hown, hbel⟩; obtain ⟨g, cap, rfl, hcells⟩ := strs_open hown hne; have HC := Lib.hid hcells; clear hcells hown)
    go_loop [5, 6, 7, 15, 19] (fun _ _ _ i _ => ∃ k : Nat, k ≤ L.length ∧ i = .int .i64 k ∧ four (bl s) = (L.drop k).all octet) (fun _ _ _ i _ => L.length - (intOf i).toNat)
    case atStart => exact ⟨0, Nat.zero_le _, rfl, by rw [hfour.out, H4.out]; simp⟩
    case round =>
      obtain ⟨k, hk, rfl, hpre⟩ := hrel
      have HP := Lib.hid hpre
      clear hpre
      by_cases hlt : k < L.length
      · have hcell := HC.out k hlt
        have hD : L.drop k = L[k] :: L.drop (k + 1) := List.drop_eq_getElem_cons hlt
        have hml := hmem.out L[k] (List.getElem_mem hlt)
        have hO := octet_eq (mkS L[k])
        rw [bl_mkS] at hO
        have hT : Hid (four (bl s) = (octet L[k] && (L.drop (k + 1)).all octet)) := by rw [Hid, HP.out, hD, List.all_cons]
        rw [hO] at hT
        obtain ⟨t, ht⟩ : ∃ t, t = mkS L[k] := ⟨_, rfl⟩
        rw [← ht] at hcell hT
        have hbt : L[k] = bl t := by rw [ht, bl_mkS]
        rw [hbt] at hT
        have hts : t.size ≤ 1073741824 := by rw [ht, mkS_size]; exact hml
        clear HP hO ht hbt hml hD
        have hnum0 := fun (W : World) => Number_any t W hts
        have hdig0 := fun (W : World) => Digits_any t W (by unfold maxLen; omega)
        have hdl := digits_le (bl t)
        rw [bl_length] at hdl
        by_cases h0 : 0 < t.size
        · have hse := str_ne h0
          have hse' := str_ne' h0
          have hhd := head_bl t h0
          by_cases hall : (bl t).all isDigit = true
          · have hnl : ¬ digits (bl t) < t.size := fun h => (digits_lt_iff (bl t)).1 (by rw [bl_length]; exact h) hall
            have hne45 : ¬ (0 < t.size ∧ ∀ h : 0 < t.size, t[0].toNat = 45) := fun ⟨_, h⟩ => by
              have h9 := isDigit_at hall h0
              have := h h0
              simp [isDigit, this] at h9
            have hnv := number_pos t hne45
            rw [if_pos ⟨h0, hall⟩] at hnv
            rw [hnv] at hnum0
            simp only at hnum0
            have hnb := numL_bd (bl t) hall
            by_cases h255 : numL (bl t) ≤ 255
            · by_cases h1 : t.size ≤ 1
              · have HE : Hid (four (bl s) = (L.drop (k + 1)).all octet) := by rw [Hid, hT]; simp [h0, hall, h255, h1]
                generalize number (bl t) = nv at hnum0
                have hnum := Lib.hid hnum0
                have hdig := Lib.hid hdig0
                clear hnum0 hdig0 hT
                go_wp2_with (first | (go_at_call 94; refine (hnum.out _).mono ?_; rintro e w2 ⟨rfl, rfl⟩) | (go_at_call 95; refine (hdig.out _).mono ?_; rintro e w2 ⟨rfl, rfl⟩))
                go_round
                case rel => exact ⟨k + 1, by omega, by go_num, HE.out⟩
                case measure => simp [intOf] <;> omega
              · by_cases h48 : t[0].toNat = 48
                · have HE : Hid (four (bl s) = false) := by rw [Hid, hT, hhd]; simp [h1, h48]
                  have e48 : ((t[0].toNat : Int) == 48) = true := beq_iff_eq.2 (by omega)
                  generalize number (bl t) = nv at hnum0
                  have hnum := Lib.hid hnum0
                  have hdig := Lib.hid hdig0
                  clear hnum0 hdig0 hT
                  go_wp2_with (first | (go_at_call 94; refine (hnum.out _).mono ?_; rintro e w2 ⟨rfl, rfl⟩) | (go_at_call 95; refine (hdig.out _).mono ?_; rintro e w2 ⟨rfl, rfl⟩))
                  go_ret
                  exact ⟨ret_bool HE.out.symm, hbel⟩
                · have HE : Hid (four (bl s) = (L.drop (k + 1)).all octet) := by rw [Hid, hT, hhd]; simp [h0, hall, h255, h48]
                  have e48 : ((t[0].toNat : Int) == 48) = false := beq_eq_false_iff_ne.2 (by omega)
                  generalize number (bl t) = nv at hnum0
                  have hnum := Lib.hid hnum0
                  have hdig := Lib.hid hdig0
                  clear hnum0 hdig0 hT
                  go_wp2_with (first | (go_at_call 94; refine (hnum.out _).mono ?_; rintro e w2 ⟨rfl, rfl⟩) | (go_at_call 95; refine (hdig.out _).mono ?_; rintro e w2 ⟨rfl, rfl⟩))
                  go_round
                  case rel => exact ⟨k + 1, by omega, by go_num, HE.out⟩
                  case measure => simp [intOf] <;> omega
            · have HE : Hid (four (bl s) = false) := by rw [Hid, hT]; simp [h255]
              generalize number (bl t) = nv at hnum0
              have hnum := Lib.hid hnum0
              have hdig := Lib.hid hdig0
              clear hnum0 hdig0 hT
              go_wp2_with (first | (go_at_call 94; refine (hnum.out _).mono ?_; rintro e w2 ⟨rfl, rfl⟩) | (go_at_call 95; refine (hdig.out _).mono ?_; rintro e w2 ⟨rfl, rfl⟩))
              go_ret
              exact ⟨ret_bool HE.out.symm, hbel⟩
          · have hnl : digits (bl t) < t.size := by have := (digits_lt_iff (bl t)).2 hall; rwa [bl_length] at this
            have HE : Hid (four (bl s) = false) := by rw [Hid, hT]; simp [hall]
            generalize number (bl t) = nv at hnum0
            have hnum := Lib.hid hnum0
            have hdig := Lib.hid hdig0
            clear hnum0 hdig0 hT
            go_wp2_with (first | (go_at_call 94; refine (hnum.out _).mono ?_; rintro e w2 ⟨rfl, rfl⟩) | (go_at_call 95; refine (hdig.out _).mono ?_; rintro e w2 ⟨rfl, rfl⟩))
            go_ret
            exact ⟨ret_bool HE.out.symm, hbel⟩
        · have hse := str_nil h0
          have hse' := str_nil' h0
          have HE : Hid (four (bl s) = false) := by rw [Hid, hT]; simp [h0]
          generalize number (bl t) = nv at hnum0
          have hnum := Lib.hid hnum0
          have hdig := Lib.hid hdig0
          clear hnum0 hdig0 hT
          go_wp2_with (first | (go_at_call 94; refine (hnum.out _).mono ?_; rintro e w2 ⟨rfl, rfl⟩) | (go_at_call 95; refine (hdig.out _).mono ?_; rintro e w2 ⟨rfl, rfl⟩))
          go_ret
          exact ⟨ret_bool HE.out.symm, hbel⟩
      · have HE : Hid (four (bl s) = true) := by rw [Hid, HP.out, List.drop_eq_nil_of_le (by omega)]; rfl
        go_wp2
        go_ret
        exact ⟨ret_bool HE.out.symm, hbel⟩
  · have e4 : ((L.length : Int) != 4) = true := by rw [bne_iff_ne]; omega
    have HE : Hid (four (bl s) = false) := by rw [Hid, hfour.out]; simp [h4]
    clear h4
    go_enter Try.func89, Try.ntmps89
    go_wp2_with (go_at_call 87; refine (HS.out _).mono ?_; rintro e w1 ⟨v, rfl, hown, hbel⟩; obtain ⟨g, cap, rfl, hcells⟩ := strs_open hown hne; have HC := Lib.hid hcells; clear hcells hown)
    go_ret
    exact ⟨ret_bool HE.out.symm, hbel⟩
end Go.Proofs.Ytnpdfmpjjomhcaa

/- Package host's reference, fifth part: four numbers. Conditions: texts of at most 2^30 bytes. -/
namespace Go.Proofs.Ytnpdfmpjjomhcaa
open Go.RowKit

/-- what the reference asks of a number of an address -/
def octetR (p : Bytes) : Bool := decide (1 ≤ p.length) && decide (p.length ≤ 3) && p.all isDigit && decide (numL p ≤ 255) && decide (textN (numL p).toNat = p)

theorem foldl_ge : ∀ (l : Bytes) (n : Int), 0 ≤ n → n ≤ 1099511627776 → l.all isDigit = true → n ≤ l.foldl numStep n
  | [], _, _, _, _ => Int.le_refl _
  | c :: r, n, h0, h1, hl => by
    simp only [List.all_cons, Bool.and_eq_true] at hl
    have h2 := numStep_bd h0 hl.1
    have h3 := foldl_ge r (numStep n c) h2.1 h2.2 hl.2
    have hd := hl.1
    unfold isDigit at hd; simp at hd
    have h4 : n ≤ numStep n c := by unfold numStep; omega
    exact Int.le_trans h4 h3
theorem dig_bd {c : UInt8} (h : isDigit c = true) : 48 ≤ c.toNat ∧ c.toNat ≤ 57 := by simpa [isDigit] using h
theorem ofNat_eq (n : Nat) (c : UInt8) (h : n = c.toNat) : UInt8.ofNat n = c := by
  apply UInt8.toNat_inj.1; rw [h]; simp
theorem octet_eqR (p : Bytes) : octet p = octetR p := by
  match p with
  | [] => rfl
  | [a] =>
    unfold octet octetR
    by_cases ha : isDigit a = true
    · have h := dig_bd ha
      have hn : numL [a] = ((a.toNat - 48 : Nat) : Int) := by simp [numL, numStep]; omega
      have ht : textN (a.toNat - 48) = [a] := by rw [textN_small _ (by omega), ofNat_eq _ a (by omega)]
      rw [hn]; simp [ha, ht]; 
    · simp [ha]
  | [a, b] =>
    unfold octet octetR
    by_cases ha : isDigit a = true
    · by_cases hb : isDigit b = true
      · have h1 := dig_bd ha
        have h2 := dig_bd hb
        have hn : numL [a, b] = (((a.toNat - 48) * 10 + (b.toNat - 48) : Nat) : Int) := by simp [numL, numStep]; omega
        rw [hn]
        by_cases h0 : a.toNat = 48
        · have ht : textN ((a.toNat - 48) * 10 + (b.toNat - 48)) = [b] := by rw [h0]; simp; rw [textN_small _ (by omega), ofNat_eq _ b (by omega)]
          simp [ha, hb, h0]
          rw [h0] at ht
          simp at ht
          rw [ht]; simp
        · have ht : textN ((a.toNat - 48) * 10 + (b.toNat - 48)) = [a, b] := by
            rw [textN_big _ (by omega), textN_small _ (by omega), ofNat_eq _ a (by omega), ofNat_eq _ b (by omega)]; rfl
          rw [Int.toNat_natCast, ht]; simp [ha, hb, h0]
      · simp [ha, hb]
    · simp [ha]
  | [a, b, c] =>
    unfold octet octetR
    by_cases ha : isDigit a = true
    · by_cases hb : isDigit b = true
      · by_cases hc : isDigit c = true
        · have h1 := dig_bd ha
          have h2 := dig_bd hb
          have h3 := dig_bd hc
          have hn : numL [a, b, c] = (((a.toNat - 48) * 100 + (b.toNat - 48) * 10 + (c.toNat - 48) : Nat) : Int) := by simp [numL, numStep]; omega
          rw [hn]
          by_cases h0 : a.toNat = 48
          · have ht : textN ((a.toNat - 48) * 100 + (b.toNat - 48) * 10 + (c.toNat - 48)) ≠ [a, b, c] := by
              intro h
              have hl := congrArg List.length h
              by_cases hs : (a.toNat - 48) * 100 + (b.toNat - 48) * 10 + (c.toNat - 48) < 10
              · rw [textN_small _ hs] at hl; simp at hl
              · rw [textN_big _ hs, textN_small _ (by omega)] at hl; simp at hl
            simp [ha, hb, hc, h0] at ht ⊢
            intro _; exact ht
          · have ht : textN ((a.toNat - 48) * 100 + (b.toNat - 48) * 10 + (c.toNat - 48)) = [a, b, c] := by
              rw [textN_big _ (by omega), textN_big _ (by omega), textN_small _ (by omega), ofNat_eq _ a (by omega), ofNat_eq _ b (by omega), ofNat_eq _ c (by omega)]; rfl
            rw [Int.toNat_natCast, ht]; simp [ha, hb, hc, h0]
        · simp [ha, hb, hc]
      · simp [ha, hb]
    · simp [ha]
  | a :: b :: c :: d :: r =>
    have e2 : octetR (a :: b :: c :: d :: r) = false := by unfold octetR; simp
    rw [e2]
    by_cases hall : (a :: b :: c :: d :: r).all isDigit = true
    · by_cases h0 : a.toNat = 48
      · unfold octet; simp [h0]
      · have hx := hall
        simp only [List.all_cons, Bool.and_eq_true] at hx
        obtain ⟨ha, hb, hc, hd, hr⟩ := hx
        have h1 := dig_bd ha
        have h2 := dig_bd hb
        have h3 := dig_bd hc
        have h4 := dig_bd hd
        have hs : [a, b, c, d].foldl numStep 0 = (((a.toNat - 48) * 1000 + (b.toNat - 48) * 100 + (c.toNat - 48) * 10 + (d.toNat - 48) : Nat) : Int) := by simp [numStep]; omega
        have hg := foldl_ge r ([a, b, c, d].foldl numStep 0) (by rw [hs]; omega) (by rw [hs]; omega) hr
        have hn : ¬ numL (a :: b :: c :: d :: r) ≤ 255 := by
          have : numL (a :: b :: c :: d :: r) = r.foldl numStep ([a, b, c, d].foldl numStep 0) := rfl
          rw [this, hs]; rw [hs] at hg; omega
        unfold octet; simp [hn]
    · unfold octet; simp only [hall]; simp
end Go.Proofs.Ytnpdfmpjjomhcaa
