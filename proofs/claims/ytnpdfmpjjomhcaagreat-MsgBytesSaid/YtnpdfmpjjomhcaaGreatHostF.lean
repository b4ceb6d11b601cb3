/- Package host's reference, sixth part: four numbers, walked. Conditions: texts of at most 2^30 bytes. -/
import Derived.Test.YtnpdfmpjjomhcaaGreatHostD
set_option linter.unusedSimpArgs false
set_option linter.unusedVariables false
set_option linter.unnecessarySimpa false
namespace Go.Proofs.YtnpdfmpjjomhcaaGreat
open Go.RowKit

theorem quiet_of_same' {P : Program} {f : FuncId} {args : Array Value} {w : World} {n : Nat} {v : Value}
    (h : Calls P f args (w.drewN n) fun e w' => e = .returned v ∧ w.drewN n = w') : Calls P f args (w.drewN n) fun e w'' => e = .returned v ∧ ∃ m, w'' = w.drewN m :=
  h.mono fun _ _ ⟨he, hm⟩ => ⟨he, n, hm.symm⟩

set_option maxRecDepth 100000 in
set_option maxHeartbeats 2000000 in
theorem rfour_any (s : ByteArray) (w : World) (hs : s.size ≤ 1073741824) :
    Calls Tryz.prog 164 #[.string s] w fun e w' => e = .returned (.bool (four (bl s))) ∧ Below w.heap.size w w' := by
  obtain ⟨L, hL⟩ : ∃ L, L = splitB 46 (bl s) := ⟨_, rfl⟩
  have hsp := fun (W : World) => rSplit_any s 46 W hs
  have hne : L ≠ [] := by rw [hL]; exact splitB_ne _ _
  have hmem : Hid (∀ p ∈ L, p.length ≤ 1073741824) := fun p hp => by
    have := splitB_mem_len 46 (bl s) p (by rw [← hL]; exact hp); rw [bl_length] at this; omega
  have hfour : Hid (four (bl s) = (decide (L.length = 4) && L.all octet)) := by unfold Hid four; rw [hL]
  rw [← hL] at hsp
  have hlen : L.length ≤ 1073741825 := by rw [hL]; exact split_len 46 s hs
  have HS := Lib.hid hsp
  clear hsp hL
  by_cases h4 : L.length = 4
  · have e4 : ((L.length : Int) != 4) = false := by rw [bne_eq_false_iff_eq]; omega
    have H4 := Lib.hid h4
    have hlt4 : L.length ≤ 4 := by omega
    have hge4 : 4 ≤ L.length := by omega
    clear h4
    go_enter Tryz.func164, Tryz.ntmps164
    go_wp2_with (go_at_call 165; refine (HS.out _).mono ?_; rintro e w1 ⟨v, rfl, hown, hbel⟩; obtain ⟨g, cap, rfl, hcells⟩ := strs_open hown hne; have HC := Lib.hid hcells; clear hcells hown)
    go_loopw [4, 5, 6] (fun i _ _ wr => ∃ k : Nat, k ≤ L.length ∧ i = .int .i64 k ∧ four (bl s) = (L.drop k).all octet ∧ Below w1.heap.size w1 wr) (fun i _ _ _ => L.length - (intOf i).toNat)
    case atStart => exact ⟨0, Nat.zero_le _, rfl, by rw [hfour.out, H4.out]; simp, Below.refl _ _⟩
    case round =>
      obtain ⟨k, hk, rfl, hpre, hbr⟩ := hrel
      have HP := Lib.hid hpre
      clear hpre
      have hbt := below2 hbel hbr
      by_cases hlt : k < L.length
      · have hcell := kept hbr (HC.out k hlt)
        have hk4 : k < 4 := by omega
        have hD : L.drop k = L[k] :: L.drop (k + 1) := List.drop_eq_getElem_cons hlt
        have hml := hmem.out L[k] (List.getElem_mem hlt)
        have hT : Hid (four (bl s) = (octetR L[k] && (L.drop (k + 1)).all octet)) := by rw [Hid, HP.out, hD, List.all_cons, octet_eqR]
        obtain ⟨t, ht⟩ : ∃ t, t = mkS L[k] := ⟨_, rfl⟩
        rw [← ht] at hcell
        have hbt2 : L[k] = bl t := by rw [ht, bl_mkS]
        rw [hbt2] at hT
        have hts : t.size ≤ 1073741824 := by rw [ht, mkS_size]; exact hml
        clear HP ht hbt2 hml hD
        have hnum0 := fun (W : World) => rNumber_any t W hts
        have hdig0 := fun (W : World) => rDigits_any t W (by unfold maxLen; omega)
        by_cases h0 : 0 < t.size
        · have d1 : decide ((t.size : Int) < 1) = false := by simp; omega
          by_cases h3 : t.size ≤ 3
          · have d3 : decide (3 < (t.size : Int)) = false := by simp; omega
            by_cases hall : (bl t).all isDigit = true
            · have hnl : ¬ digits (bl t) < t.size := fun h => (digits_lt_iff (bl t)).1 (by rw [bl_length]; exact h) hall
              have hdl := digits_le (bl t)
              rw [bl_length] at hdl
              have d4 : ((digits (bl t) : Int) != (t.size : Int)) = false := by rw [bne_eq_false_iff_eq]; omega
              have hne45 : ¬ (0 < t.size ∧ ∀ h : 0 < t.size, t[0].toNat = 45) := fun ⟨_, h⟩ => by
                have h9 := isDigit_at hall h0
                have := h h0
                simp [isDigit, this] at h9
              have hnv := number_pos t hne45
              rw [if_pos ⟨h0, hall⟩] at hnv
              have hnb := numL_bd (bl t) hall
              obtain ⟨m, hm⟩ : ∃ m : Nat, numL (bl t) = (m : Int) := ⟨(numL (bl t)).toNat, by omega⟩
              rw [hnv, hm] at hnum0
              simp only at hnum0
              have hm2 : m ≤ 1099511627776 := by omega
              have hO : octetR (bl t) = (decide (m ≤ 255) && decide (textN m = bl t)) := by
                unfold octetR
                rw [hall, hm, Int.toNat_natCast, bl_length]
                rw [show decide ((m : Int) ≤ 255) = decide (m ≤ 255) by rw [Bool.eq_iff_iff]; simp; omega]
                simp [h3, show 1 ≤ t.size from h0]
              rw [hO] at hT
              have htx := fun (W : World) => rText_any m W (by omega)
              have hnum := Lib.hid hnum0
              have hdig := Lib.hid hdig0
              have HTX := Lib.hid htx
              clear hnum0 hdig0 htx hnv hm hnb hO hnl hall
              by_cases h255 : m ≤ 255
              · have d5 : decide (255 < (m : Int)) = false := by simp; omega
                by_cases htm : textN m = bl t
                · have HE : Hid (four (bl s) = (L.drop (k + 1)).all octet) := by rw [Hid, hT]; simp [h255, htm]
                  have d6 : ((mkS (textN m)).toList == t.toList) = true := by rw [str_beq, bl_mkS]; simp [htm]
                  clear hT htm
                  go_wp2
                  go_quiet ((first | (with_reducible exact quiet_of_same' (hdig.out _))))
                  go_wp2_with (go_at_call 179; refine (hnum.out _).mono ?_; rintro e w2 ⟨rfl, rfl⟩)
                  refine wp_region_after (by kernel_rfl) (by kernel_rfl) (fun W hW => ?_)
                  have hcw : ∀ i : After W, i.w.cell? ⟨g, k, none⟩ = some (.string t) := fun i => i.cell (by rw [hW.out]; exact hcell)
                  quiet_step (fail)
                  quiet_step (fail)
                  quiet_step (fail)
                  quiet_step (fail)
                  quiet_step (exact Calls.after (HTX.out _))
                  quiet_step (fail)
                  quiet_step (fail)
                  quiet_step (fail)
                  quiet_step (fail)
                  quiet_step (fail)
                  quiet_step (fail)
                  refine wpQuiet_nil ?_
                  rintro _ ⟨i, rfl⟩
                  have hib := i.h
                  generalize i.w = wi at hib ⊢
                  rw [hW.out] at hib
                  clear hcw
                  go_wp2
                  go_roundw
                  case rel => exact ⟨k + 1, by omega, by go_num, HE.out, hbr.trans ((below_drewN' (B := w1.heap.size) nq).trans (hib.mono (by simp; exact hbr.size)))⟩
                  case measure => simp [intOf] <;> omega
                · have HE : Hid (four (bl s) = false) := by rw [Hid, hT]; simp [htm]
                  have d6 : ((mkS (textN m)).toList == t.toList) = false := by rw [str_beq, bl_mkS]; simpa using htm
                  clear hT htm
                  go_wp2
                  go_quiet ((first | (with_reducible exact quiet_of_same' (hdig.out _))))
                  go_wp2_with (go_at_call 179; refine (hnum.out _).mono ?_; rintro e w2 ⟨rfl, rfl⟩)
                  refine wp_region_after (by kernel_rfl) (by kernel_rfl) (fun W hW => ?_)
                  have hcw : ∀ i : After W, i.w.cell? ⟨g, k, none⟩ = some (.string t) := fun i => i.cell (by rw [hW.out]; exact hcell)
                  quiet_step (fail)
                  quiet_step (fail)
                  quiet_step (fail)
                  quiet_step (fail)
                  quiet_step (exact Calls.after (HTX.out _))
                  quiet_step (fail)
                  quiet_step (fail)
                  quiet_step (fail)
                  quiet_step (fail)
                  quiet_step (fail)
                  quiet_step (fail)
                  refine wpQuiet_nil ?_
                  rintro _ ⟨i, rfl⟩
                  have hib := i.h
                  generalize i.w = wi at hib ⊢
                  rw [hW.out] at hib
                  clear hcw
                  go_wp2
                  go_ret
                  exact ⟨ret_bool HE.out.symm, hbt.trans ((below_drewN' nq).trans (hib.mono (by simp; exact hbt.size)))⟩
              · have HE : Hid (four (bl s) = false) := by rw [Hid, hT]; simp [h255]
                have d5 : decide (255 < (m : Int)) = true := by simp; omega
                clear hT
                go_wp2
                go_quiet ((first | (with_reducible exact quiet_of_same' (hdig.out _))))
                go_wp2_with (go_at_call 179; refine (hnum.out _).mono ?_; rintro e w2 ⟨rfl, rfl⟩)
                go_quiet (fail)
                go_wp2
                go_ret
                exact ⟨ret_bool HE.out.symm, hbt.trans ((below_drewN' _).trans (below_drewN' _))⟩
            · have hnl : digits (bl t) < t.size := by have := (digits_lt_iff (bl t)).2 hall; rwa [bl_length] at this
              have d4 : ((digits (bl t) : Int) != (t.size : Int)) = true := by rw [bne_iff_ne]; omega
              have HE : Hid (four (bl s) = false) := by rw [Hid, hT]; unfold octetR; simp [hall]
              generalize number (bl t) = nv at hnum0
              have hnum := Lib.hid hnum0
              have hdig := Lib.hid hdig0
              clear hnum0 hdig0 hT
              go_wp2
              go_quiet ((first | (with_reducible exact quiet_of_same' (hdig.out _))))
              go_wp2
              go_ret
              exact ⟨ret_bool HE.out.symm, hbt.trans (below_drewN' _)⟩
          · have d3 : decide (3 < (t.size : Int)) = true := by simp; omega
            have HE : Hid (four (bl s) = false) := by rw [Hid, hT]; unfold octetR; rw [bl_length]; simp [h3]
            generalize number (bl t) = nv at hnum0
            have hnum := Lib.hid hnum0
            have hdig := Lib.hid hdig0
            clear hnum0 hdig0 hT
            go_wp2
            go_quiet ((first | (with_reducible exact quiet_of_same' (hdig.out _))))
            go_wp2
            go_ret
            exact ⟨ret_bool HE.out.symm, hbt.trans (below_drewN' _)⟩
        · have d1 : decide ((t.size : Int) < 1) = true := by simp; omega
          have HE : Hid (four (bl s) = false) := by rw [Hid, hT]; unfold octetR; rw [bl_length]; simp [show ¬ 1 ≤ t.size from h0]
          generalize number (bl t) = nv at hnum0
          have hnum := Lib.hid hnum0
          have hdig := Lib.hid hdig0
          clear hnum0 hdig0 hT
          go_wp2
          go_quiet ((first | (with_reducible exact quiet_of_same' (hdig.out _))))
          go_wp2
          go_ret
          exact ⟨ret_bool HE.out.symm, hbt.trans (below_drewN' _)⟩
      · have HE : Hid (four (bl s) = true) := by rw [Hid, HP.out, List.drop_eq_nil_of_le (by omega)]; rfl
        go_wp2
        go_ret
        exact ⟨ret_bool HE.out.symm, hbt⟩
  · have e4 : ((L.length : Int) != 4) = true := by rw [bne_iff_ne]; omega
    have HE : Hid (four (bl s) = false) := by rw [Hid, hfour.out]; simp [h4]
    clear h4
    go_enter Tryz.func164, Tryz.ntmps164
    go_wp2_with (go_at_call 165; refine (HS.out _).mono ?_; rintro e w1 ⟨v, rfl, hown, hbel⟩; obtain ⟨g, cap, rfl, hcells⟩ := strs_open hown hne; have HC := Lib.hid hcells; clear hcells hown)
    go_ret
    exact ⟨ret_bool HE.out.symm, hbel⟩
end Go.Proofs.YtnpdfmpjjomhcaaGreat

/- Package host and its reference, last part: addresses, names, canonical texts. Conditions: texts of at most 2^30 bytes. -/
namespace Go.Proofs.YtnpdfmpjjomhcaaGreat
open Go.RowKit

set_option maxRecDepth 100000 in
set_option maxHeartbeats 1000000 in
theorem Address_any (s : ByteArray) (w : World) (hs : s.size ≤ 1073741824) :
    Calls Tryz.prog 160 #[.string s] w fun e w' => e = .returned (.bool (address (bl s))) ∧ Below w.heap.size w w' := by
  have HD : Hid (address (bl s) = (four (bl s) || bracket (bl s))) := rfl
  cases h4 : four (bl s) with
  | true =>
    have HE : Hid (address (bl s) = true) := by rw [Hid, HD.out, h4]; rfl
    go_enter Tryz.func160, Tryz.ntmps160
    go_wp2_with (go_at_call 174; refine (four_any s _ hs).mono ?_; rintro e w1 ⟨rfl, hb⟩)
    go_ret
    exact ⟨ret_bool HE.out.symm, hb⟩
  | false =>
    have HE : Hid (address (bl s) = bracket (bl s)) := by rw [Hid, HD.out, h4]; rfl
    go_enter Tryz.func160, Tryz.ntmps160
    go_wp2_with (first | (go_at_call 174; refine (four_any s _ hs).mono ?_; rintro e w1 ⟨rfl, hb⟩) | (go_at_call 175; refine (bracket_any s _ hs).mono ?_; rintro e w2 ⟨rfl, hb2⟩))
    go_ret
    exact ⟨ret_bool HE.out.symm, below2 hb hb2⟩

set_option maxRecDepth 100000 in
set_option maxHeartbeats 1000000 in
theorem rAddress_any (s : ByteArray) (w : World) (hs : s.size ≤ 1073741824) :
    Calls Tryz.prog 141 #[.string s] w fun e w' => e = .returned (.bool (address (bl s))) ∧ Below w.heap.size w w' := by
  have HD : Hid (address (bl s) = (four (bl s) || bracket (bl s))) := rfl
  cases h4 : four (bl s) with
  | true =>
    have HE : Hid (address (bl s) = true) := by rw [Hid, HD.out, h4]; rfl
    go_enter Tryz.func141, Tryz.ntmps141
    go_wp2_with (go_at_call 164; refine (rfour_any s _ hs).mono ?_; rintro e w1 ⟨rfl, hb⟩)
    go_ret
    exact ⟨ret_bool HE.out.symm, hb⟩
  | false =>
    have HE : Hid (address (bl s) = bracket (bl s)) := by rw [Hid, HD.out, h4]; rfl
    go_enter Tryz.func141, Tryz.ntmps141
    go_wp2_with (first | (go_at_call 164; refine (rfour_any s _ hs).mono ?_; rintro e w1 ⟨rfl, hb⟩) | (go_at_call 167; refine (rbracket_any s _ hs).mono ?_; rintro e w2 ⟨rfl, rfl⟩))
    go_ret
    exact ⟨ret_bool HE.out.symm, hb⟩

set_option maxRecDepth 100000 in
set_option maxHeartbeats 1000000 in
theorem name_any (s : ByteArray) (w : World) (hs : s.size ≤ 1073741824) :
    Calls Tryz.prog 159 #[.string s] w fun e w' => e = .returned (.bool (hname (bl s))) ∧ Below w.heap.size w w' := by
  have hdef : hname (bl s) = (decide (s.size ≤ 256) && !address (bl s) && labels (bl s)) := by unfold hname; rw [bl_length]
  by_cases h256 : s.size ≤ 256
  · cases ha : address (bl s) with
    | true =>
      have HE : Hid (hname (bl s) = false) := by rw [Hid, hdef, ha]; simp
      clear hdef
      go_enter Tryz.func159, Tryz.ntmps159
      go_wp2_with (go_at_call 160; refine (Address_any s _ hs).mono ?_; rintro e w1 ⟨rfl, hb⟩)
      go_ret
      exact ⟨ret_bool HE.out.symm, hb⟩
    | false =>
      obtain ⟨L, hL⟩ : ∃ L, L = splitB 46 (bl s) := ⟨_, rfl⟩
      have hsp := fun (W : World) => Split_any s 46 W hs
      have hne : L ≠ [] := by rw [hL]; exact splitB_ne _ _
      have hmem : Hid (∀ p ∈ L, p.length ≤ 1073741824) := fun p hp => by
        have := splitB_mem_len 46 (bl s) p (by rw [← hL]; exact hp); rw [bl_length] at this; omega
      have HL : Hid (hname (bl s) = L.all label) := by rw [Hid, hdef, ha]; unfold labels; rw [← hL]; simp [h256]
      rw [← hL] at hsp
      have hlen : L.length ≤ 1073741825 := by rw [hL]; exact split_len 46 s hs
      have HS := Lib.hid hsp
      clear hsp hL hdef
      go_enter Tryz.func159, Tryz.ntmps159
      go_wp2_with (first
        | (go_at_call 160; refine (Address_any s _ hs).mono ?_; rintro e w0 ⟨rfl, hb0⟩)
        | (go_at_call 172; refine (HS.out _).mono ?_; rintro e w1 ⟨v, rfl, hown, hbel⟩; obtain ⟨g, cap, rfl, hcells⟩ := strs_open hown hne; have HC := Lib.hid hcells; clear hcells hown))
      go_loop [4, 15] (fun _ i => ∃ k : Nat, k ≤ L.length ∧ i = .int .i64 k ∧ hname (bl s) = (L.drop k).all label) (fun _ i => L.length - (intOf i).toNat)
      case atStart => exact ⟨0, Nat.zero_le _, rfl, HL.out⟩
      case round =>
        obtain ⟨k, hk, rfl, hpre⟩ := hrel
        have HP := Lib.hid hpre
        clear hpre
        by_cases hlt : k < L.length
        · have hcell := HC.out k hlt
          have hD : L.drop k = L[k] :: L.drop (k + 1) := List.drop_eq_getElem_cons hlt
          have hml := hmem.out L[k] (List.getElem_mem hlt)
          have hT : Hid (hname (bl s) = (label L[k] && (L.drop (k + 1)).all label)) := by rw [Hid, HP.out, hD, List.all_cons]
          have hlab0 := fun (W : World) => label_any (mkS L[k]) W (by rw [mkS_size]; exact hml)
          rw [bl_mkS] at hlab0
          have HLA := Lib.hid hlab0
          clear hlab0 hD hml HP
          cases hq : label L[k] with
          | true =>
            rw [hq] at hT HLA
            go_wp2_with (go_at_call 173; refine (HLA.out _).mono ?_; rintro e w2 ⟨rfl, rfl⟩)
            go_round
            case rel => exact ⟨k + 1, by omega, by go_num, by rw [hT.out]; simp⟩
            case measure => simp [intOf] <;> omega
          | false =>
            rw [hq] at hT HLA
            go_wp2_with (go_at_call 173; refine (HLA.out _).mono ?_; rintro e w2 ⟨rfl, rfl⟩)
            go_ret
            exact ⟨ret_bool (by rw [hT.out]; rfl), below2 hb0 hbel⟩
        · have HE : Hid (hname (bl s) = true) := by rw [Hid, HP.out, List.drop_eq_nil_of_le (by omega)]; rfl
          go_wp2
          go_ret
          exact ⟨ret_bool HE.out.symm, below2 hb0 hbel⟩
  · have HE : Hid (hname (bl s) = false) := by rw [Hid, hdef]; simp [h256]
    clear hdef
    go_enter Tryz.func159, Tryz.ntmps159
    go_wp2
    go_ret
    exact ⟨ret_bool HE.out.symm, Below.refl _ _⟩

/-- an address in brackets has no labels -/
theorem bracket_labels (l : Bytes) (h : bracket l = true) : labels l = false := by
  unfold bracket at h
  simp only [Bool.and_eq_true, decide_eq_true_eq] at h
  obtain ⟨⟨⟨⟨h4, _⟩, h91⟩, _⟩, _⟩ := h
  match l, h4 with
  | x :: r, _ =>
    have hx : x.toNat = 91 := by simpa using h91
    unfold labels
    cases hs : splitB 46 r with
    | nil => exact absurd hs (splitB_ne _ _)
    | cons a b =>
      have : splitB 46 (x :: r) = (x :: a) :: b := by rw [splitB, if_neg (by rw [hx]; decide), hs]
      rw [this, List.all_cons]
      have hf : label (x :: a) = false := by unfold label; simp [isSign, hx]
      rw [hf]; rfl
theorem hname_ref (l : Bytes) : hname l = (decide (l.length ≤ 256) && !four l && labels l) := by
  unfold hname address
  cases hb : bracket l with
  | false => simp
  | true => simp [bracket_labels l hb]

set_option maxRecDepth 100000 in
set_option maxHeartbeats 1000000 in
theorem rName_any (s : ByteArray) (w : World) (hs : s.size ≤ 1073741824) :
    Calls Tryz.prog 140 #[.string s] w fun e w' => e = .returned (.bool (hname (bl s))) ∧ Below w.heap.size w w' := by
  have hdef : hname (bl s) = (decide (s.size ≤ 256) && !four (bl s) && labels (bl s)) := by rw [hname_ref, bl_length]
  by_cases h256 : s.size ≤ 256
  · cases ha : four (bl s) with
    | true =>
      have HE : Hid (hname (bl s) = false) := by rw [Hid, hdef, ha]; simp
      clear hdef
      go_enter Tryz.func140, Tryz.ntmps140
      go_wp2_with (go_at_call 164; refine (rfour_any s _ hs).mono ?_; rintro e w1 ⟨rfl, hb⟩)
      go_ret
      exact ⟨ret_bool HE.out.symm, hb⟩
    | false =>
      obtain ⟨L, hL⟩ : ∃ L, L = splitB 46 (bl s) := ⟨_, rfl⟩
      have hsp := fun (W : World) => rSplit_any s 46 W hs
      have hne : L ≠ [] := by rw [hL]; exact splitB_ne _ _
      have hmem : Hid (∀ p ∈ L, p.length ≤ 1073741824) := fun p hp => by
        have := splitB_mem_len 46 (bl s) p (by rw [← hL]; exact hp); rw [bl_length] at this; omega
      have HL : Hid (hname (bl s) = L.all label) := by rw [Hid, hdef, ha]; unfold labels; rw [← hL]; simp [h256]
      rw [← hL] at hsp
      have hlen : L.length ≤ 1073741825 := by rw [hL]; exact split_len 46 s hs
      have HS := Lib.hid hsp
      clear hsp hL hdef
      go_enter Tryz.func140, Tryz.ntmps140
      go_wp2_with (first
        | (go_at_call 164; refine (rfour_any s _ hs).mono ?_; rintro e w0 ⟨rfl, hb0⟩)
        | (go_at_call 165; refine (HS.out _).mono ?_; rintro e w1 ⟨v, rfl, hown, hbel⟩; obtain ⟨g, cap, rfl, hcells⟩ := strs_open hown hne; have HC := Lib.hid hcells; clear hcells hown))
      go_loop [4] (fun i => ∃ k : Nat, k ≤ L.length ∧ i = .int .i64 k ∧ hname (bl s) = (L.drop k).all label) (fun i => L.length - (intOf i).toNat)
      case atStart => exact ⟨0, Nat.zero_le _, rfl, HL.out⟩
      case round =>
        obtain ⟨k, hk, rfl, hpre⟩ := hrel
        have HP := Lib.hid hpre
        clear hpre
        by_cases hlt : k < L.length
        · have hcell := HC.out k hlt
          have hD : L.drop k = L[k] :: L.drop (k + 1) := List.drop_eq_getElem_cons hlt
          have hml := hmem.out L[k] (List.getElem_mem hlt)
          have hT : Hid (hname (bl s) = (label L[k] && (L.drop (k + 1)).all label)) := by rw [Hid, HP.out, hD, List.all_cons]
          have hlab0 := fun (W : World) => rlabel_any (mkS L[k]) W (by rw [mkS_size]; exact hml)
          rw [bl_mkS] at hlab0
          have HLA := Lib.hid hlab0
          clear hlab0 hD hml HP
          cases hq : label L[k] with
          | true =>
            rw [hq] at hT HLA
            go_wp2_with (go_at_call 166; refine (HLA.out _).mono ?_; rintro e w2 ⟨rfl, rfl⟩)
            go_round
            case rel => exact ⟨k + 1, by omega, by go_num, by rw [hT.out]; simp⟩
            case measure => simp [intOf] <;> omega
          | false =>
            rw [hq] at hT HLA
            go_wp2_with (go_at_call 166; refine (HLA.out _).mono ?_; rintro e w2 ⟨rfl, rfl⟩)
            go_ret
            exact ⟨ret_bool (by rw [hT.out]; rfl), below2 hb0 hbel⟩
        · have HE : Hid (hname (bl s) = true) := by rw [Hid, HP.out, List.drop_eq_nil_of_le (by omega)]; rfl
          go_wp2
          go_ret
          exact ⟨ret_bool HE.out.symm, below2 hb0 hbel⟩
  · have HE : Hid (hname (bl s) = false) := by rw [Hid, hdef]; simp [h256]
    clear hdef
    go_enter Tryz.func140, Tryz.ntmps140
    go_wp2
    go_ret
    exact ⟨ret_bool HE.out.symm, Below.refl _ _⟩
end Go.Proofs.YtnpdfmpjjomhcaaGreat

/- host.Canon and the reference's Canonical; what is canonical has no capitals. Conditions: texts of at most 2^30 bytes. -/
namespace Go.Proofs.YtnpdfmpjjomhcaaGreat
open Go.RowKit

def canonical (l : Bytes) : Bool := decide (l.length ≤ 256) && (hname l || address l)
def canonE (l : Bytes) : Int := if 256 < l.length then 3 else if hname (lowerL l) = true ∨ address (lowerL l) = true then 0 else 1
def canonT (l : Bytes) : Bytes := if 256 < l.length then [] else if hname (lowerL l) = true ∨ address (lowerL l) = true then lowerL l else []

set_option maxRecDepth 100000 in
set_option maxHeartbeats 1000000 in
theorem Canon_any (s : ByteArray) (w : World) (hs : s.size ≤ 1073741824) :
    Calls Tryz.prog 134 #[.string s] w fun e w' => e = .returned (.tuple #[.string (mkS (canonT (bl s))), .int .i64 (canonE (bl s))]) ∧ Below w.heap.size w w' := by
  by_cases h256 : s.size ≤ 256
  · have hlo := fun (W : World) => Lower_any s W hs
    obtain ⟨t, ht⟩ : ∃ t, t = mkS (lowerL (bl s)) := ⟨_, rfl⟩
    have hbt : lowerL (bl s) = bl t := by rw [ht, bl_mkS]
    have hts : t.size ≤ 1073741824 := by rw [ht, mkS_size]; unfold lowerL; simp [bl_length]; omega
    rw [← ht] at hlo
    have hE : canonE (bl s) = if hname (bl t) = true ∨ address (bl t) = true then 0 else 1 := by unfold canonE; rw [bl_length, if_neg (by omega), hbt]
    have hT : canonT (bl s) = if hname (bl t) = true ∨ address (bl t) = true then bl t else [] := by unfold canonT; rw [bl_length, if_neg (by omega), hbt]
    have HL := Lib.hid hlo
    clear hlo ht hbt
    cases hn : hname (bl t) with
    | true =>
      rw [hn, if_pos (Or.inl rfl)] at hE hT
      have HE := Lib.hid hE
      have HT := Lib.hid hT
      clear hE hT
      go_enter Tryz.func134, Tryz.ntmps134
      go_wp2_with (first
        | (go_at_call 158; refine (HL.out _).mono ?_; rintro e w1 ⟨rfl, hb1⟩)
        | (go_at_call 159; refine (name_any t _ hts).mono ?_; rintro e w2 ⟨rfl, hb2⟩))
      go_ret2
      exact ⟨by rw [HE.out, HT.out, mkS_bl]; rfl, below2 hb1 hb2⟩
    | false =>
      cases ha : address (bl t) with
      | true =>
        rw [hn, ha, if_pos (Or.inr rfl)] at hE hT
        have HE := Lib.hid hE
        have HT := Lib.hid hT
        clear hE hT
        go_enter Tryz.func134, Tryz.ntmps134
        go_wp2_with (first
          | (go_at_call 158; refine (HL.out _).mono ?_; rintro e w1 ⟨rfl, hb1⟩)
          | (go_at_call 159; refine (name_any t _ hts).mono ?_; rintro e w2 ⟨rfl, hb2⟩)
          | (go_at_call 160; refine (Address_any t _ hts).mono ?_; rintro e w3 ⟨rfl, hb3⟩))
        go_ret2
        exact ⟨by rw [HE.out, HT.out, mkS_bl]; rfl, below2 (below2 hb1 hb2) hb3⟩
      | false =>
        rw [hn, ha] at hE hT
        have HE := Lib.hid hE
        have HT := Lib.hid hT
        clear hE hT
        go_enter Tryz.func134, Tryz.ntmps134
        go_wp2_with (first
          | (go_at_call 158; refine (HL.out _).mono ?_; rintro e w1 ⟨rfl, hb1⟩)
          | (go_at_call 159; refine (name_any t _ hts).mono ?_; rintro e w2 ⟨rfl, hb2⟩)
          | (go_at_call 160; refine (Address_any t _ hts).mono ?_; rintro e w3 ⟨rfl, hb3⟩))
        go_ret2
        exact ⟨by rw [HE.out, HT.out, if_neg (by simp), if_neg (by simp)]; rfl, below2 (below2 hb1 hb2) hb3⟩
  · have HE : Hid (canonE (bl s) = 3) := by unfold Hid canonE; rw [bl_length, if_pos (by omega)]
    have HT : Hid (canonT (bl s) = []) := by unfold Hid canonT; rw [bl_length, if_pos (by omega)]
    go_enter Tryz.func134, Tryz.ntmps134
    go_wp2
    go_ret2
    exact ⟨by rw [HE.out, HT.out]; rfl, Below.refl _ _⟩

set_option maxRecDepth 100000 in
set_option maxHeartbeats 1000000 in
theorem rCanonical_any (s : ByteArray) (w : World) (hs : s.size ≤ 1073741824) :
    Calls Tryz.prog 104 #[.string s] w fun e w' => e = .returned (.bool (canonical (bl s))) ∧ Below w.heap.size w w' := by
  have hd : canonical (bl s) = (decide (s.size ≤ 256) && (hname (bl s) || address (bl s))) := by unfold canonical; rw [bl_length]
  by_cases h256 : s.size ≤ 256
  · cases hn : hname (bl s) with
    | true =>
      have HE : Hid (canonical (bl s) = true) := by rw [Hid, hd, hn]; simp [h256]
      clear hd
      go_enter Tryz.func104, Tryz.ntmps104
      go_wp2_with (go_at_call 140; refine (rName_any s _ hs).mono ?_; rintro e w1 ⟨rfl, hb1⟩)
      go_ret
      exact ⟨ret_bool HE.out.symm, hb1⟩
    | false =>
      have HE : Hid (canonical (bl s) = address (bl s)) := by rw [Hid, hd, hn]; simp [h256]
      clear hd
      go_enter Tryz.func104, Tryz.ntmps104
      go_wp2_with (first
        | (go_at_call 140; refine (rName_any s _ hs).mono ?_; rintro e w1 ⟨rfl, hb1⟩)
        | (go_at_call 141; refine (rAddress_any s _ hs).mono ?_; rintro e w2 ⟨rfl, hb2⟩))
      go_ret
      exact ⟨ret_bool HE.out.symm, below2 hb1 hb2⟩
  · have HE : Hid (canonical (bl s) = false) := by rw [Hid, hd]; simp [h256]
    clear hd
    go_enter Tryz.func104, Tryz.ntmps104
    go_wp2
    go_ret
    exact ⟨ret_bool HE.out.symm, Below.refl _ _⟩

/-! ### what is canonical has no capitals -/
theorem lowerB_same {c : UInt8} (h : ¬ (65 ≤ c.toNat ∧ c.toNat ≤ 90)) : lowerB c = c := by unfold lowerB; rw [if_neg h]
theorem splitB_mem (c : UInt8) : ∀ (l : Bytes) (x : UInt8), x ∈ l → x.toNat = c.toNat ∨ ∃ p ∈ splitB c l, x ∈ p
  | [], x, h => by simp at h
  | y :: r, x, h => by
    by_cases hy : y.toNat = c.toNat
    · rcases List.mem_cons.1 h with rfl | h
      · exact Or.inl hy
      · rcases splitB_mem c r x h with h1 | ⟨p, hp, hx⟩
        · exact Or.inl h1
        · exact Or.inr ⟨p, by rw [splitB, if_pos hy]; exact List.mem_cons_of_mem _ hp, hx⟩
    · cases hs : splitB c r with
      | nil => exact absurd hs (splitB_ne c r)
      | cons a b =>
        have e : splitB c (y :: r) = (y :: a) :: b := by rw [splitB, if_neg hy, hs]
        rw [e]
        rcases List.mem_cons.1 h with rfl | h
        · exact Or.inr ⟨x :: a, by simp, by simp⟩
        · rcases splitB_mem c r x h with h1 | ⟨p, hp, hx⟩
          · exact Or.inl h1
          · rw [hs] at hp
            rcases List.mem_cons.1 hp with rfl | hp
            · exact Or.inr ⟨y :: p, by simp, by simp [hx]⟩
            · exact Or.inr ⟨p, by simp [hp], hx⟩
theorem lowerL_same {l : Bytes} (h : ∀ x ∈ l, ¬ (65 ≤ x.toNat ∧ x.toNat ≤ 90)) : lowerL l = l := by
  unfold lowerL
  have : ∀ x ∈ l, lowerB x = id x := fun x hx => lowerB_same (h x hx)
  rw [List.map_congr_left this]; simp
theorem lower_hname {l : Bytes} (h : hname l = true) : lowerL l = l := by
  unfold hname labels at h
  simp only [Bool.and_eq_true] at h
  refine lowerL_same fun x hx => ?_
  rcases splitB_mem 46 l x hx with h1 | ⟨p, hp, hxp⟩
  · rw [h1]; decide
  · have hl := List.all_eq_true.1 h.2 p hp
    unfold label at hl
    simp only [Bool.and_eq_true] at hl
    have := List.all_eq_true.1 hl.1.1.2 x hxp
    unfold isSign at this
    simp at this
    omega
theorem lower_address {l : Bytes} (h : address l = true) : lowerL l = l := by
  unfold address at h
  simp only [Bool.or_eq_true] at h
  rcases h with h | h
  · unfold four at h
    simp only [Bool.and_eq_true] at h
    refine lowerL_same fun x hx => ?_
    rcases splitB_mem 46 l x hx with h1 | ⟨p, hp, hxp⟩
    · rw [h1]; decide
    · have hl := List.all_eq_true.1 h.2 p hp
      unfold octet at hl
      simp only [Bool.and_eq_true] at hl
      have := dig_bd (List.all_eq_true.1 hl.1.1.2 x hxp)
      omega
  · unfold bracket at h
    simp only [Bool.and_eq_true, decide_eq_true_eq] at h
    obtain ⟨⟨⟨⟨h4, _⟩, h91⟩, h93⟩, hm⟩ := h
    refine lowerL_same fun x hx => ?_
    obtain ⟨i, hi, rfl⟩ := List.mem_iff_getElem.1 hx
    by_cases h0 : i = 0
    · subst h0
      have hh : l.head? = some l[0] := by rw [List.head?_eq_getElem?]; simp
      rw [hh] at h91
      have : l[0].toNat = 91 := by simpa using h91
      omega
    · by_cases h1 : i = l.length - 1
      · subst h1
        have hh : l.getLast? = some l[l.length - 1] := by rw [List.getLast?_eq_getElem?]; simp
        rw [hh] at h93
        have : l[l.length - 1].toNat = 93 := by simpa using h93
        omega
      · have hb : isHexB l[i] = true := by
          refine List.all_eq_true.1 hm _ (List.mem_iff_getElem.2 ⟨i - 1, by simp; omega, ?_⟩)
          rw [List.getElem_take, List.getElem_drop]
          simp only [show 1 + (i - 1) = i by omega]
        unfold isHexB at hb
        simp at hb
        omega
theorem canon_ref (l : Bytes) : (decide (canonE l = 0) && decide (canonT l = l)) = canonical l := by
  unfold canonE canonT canonical
  by_cases h : 256 < l.length
  · simp [h, show ¬ l.length ≤ 256 by omega]
  · by_cases hc : hname (lowerL l) = true ∨ address (lowerL l) = true
    · have e : lowerL (lowerL l) = lowerL l := by rcases hc with h1 | h1; exact lower_hname h1; exact lower_address h1
      simp only [if_neg h, if_pos hc, show l.length ≤ 256 by omega, decide_true, Bool.true_and]
      rw [Bool.eq_iff_iff, decide_eq_true_eq, Bool.or_eq_true]
      constructor
      · intro e2; rw [e2] at hc; exact hc
      · rintro (h1 | h1)
        · exact lower_hname h1
        · exact lower_address h1
    · have hc2 : ¬ (hname l = true ∨ address l = true) := by
        rintro (h1 | h1)
        · exact hc (Or.inl (by rw [lower_hname h1]; exact h1))
        · exact hc (Or.inr (by rw [lower_address h1]; exact h1))
      simp only [if_neg h, if_neg hc]
      have h3 : hname l = false := by simpa using fun x => hc2 (Or.inl x)
      have h4 : address l = false := by simpa using fun x => hc2 (Or.inr x)
      simp [h3, h4]
end Go.Proofs.YtnpdfmpjjomhcaaGreat
