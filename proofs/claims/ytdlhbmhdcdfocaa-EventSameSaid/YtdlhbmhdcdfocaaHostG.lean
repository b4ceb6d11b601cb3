/- Package host and its reference, last part: addresses, names, canonical texts. Conditions: texts of at most 2^30 bytes. -/
import Derived.Test.YtdlhbmhdcdfocaaHostF
set_option linter.unusedSimpArgs false
set_option linter.unusedVariables false
set_option linter.unnecessarySimpa false
namespace Go.Proofs.Ytdlhbmhdcdfocaa
open Go.RowKit

set_option maxRecDepth 100000 in
set_option maxHeartbeats 1000000 in
theorem Address_any (s : ByteArray) (w : World) (hs : s.size ≤ 1073741824) :
    Calls Try.prog 49 #[.string s] w fun e w' => e = .returned (.bool (address (bl s))) ∧ Below w.heap.size w w' := by
  have HD : Hid (address (bl s) = (four (bl s) || bracket (bl s))) := rfl
  cases h4 : four (bl s) with
  | true =>
    have HE : Hid (address (bl s) = true) := by rw [Hid, HD.out, h4]; rfl
    go_enter Try.func49, Try.ntmps49
    go_wp2_with (go_at_call 65; refine (four_any s _ hs).mono ?_; rintro e w1 ⟨rfl, hb⟩)
    go_ret
    exact ⟨ret_bool HE.out.symm, hb⟩
  | false =>
    have HE : Hid (address (bl s) = bracket (bl s)) := by rw [Hid, HD.out, h4]; rfl
    go_enter Try.func49, Try.ntmps49
    go_wp2_with (first | (go_at_call 65; refine (four_any s _ hs).mono ?_; rintro e w1 ⟨rfl, hb⟩) | (go_at_call 66; refine (bracket_any s _ hs).mono ?_; rintro e w2 ⟨rfl, hb2⟩))
    go_ret
    exact ⟨ret_bool HE.out.symm, below2 hb hb2⟩

set_option maxRecDepth 100000 in
set_option maxHeartbeats 1000000 in
theorem rAddress_any (s : ByteArray) (w : World) (hs : s.size ≤ 1073741824) :
    Calls Try.prog 56 #[.string s] w fun e w' => e = .returned (.bool (address (bl s))) ∧ Below w.heap.size w w' := by
  have HD : Hid (address (bl s) = (four (bl s) || bracket (bl s))) := rfl
  cases h4 : four (bl s) with
  | true =>
    have HE : Hid (address (bl s) = true) := by rw [Hid, HD.out, h4]; rfl
    go_enter Try.func56, Try.ntmps56
    go_wp2_with (go_at_call 69; refine (rfour_any s _ hs).mono ?_; rintro e w1 ⟨rfl, hb⟩)
    go_ret
    exact ⟨ret_bool HE.out.symm, hb⟩
  | false =>
    have HE : Hid (address (bl s) = bracket (bl s)) := by rw [Hid, HD.out, h4]; rfl
    go_enter Try.func56, Try.ntmps56
    go_wp2_with (first | (go_at_call 69; refine (rfour_any s _ hs).mono ?_; rintro e w1 ⟨rfl, hb⟩) | (go_at_call 72; refine (rbracket_any s _ hs).mono ?_; rintro e w2 ⟨rfl, rfl⟩))
    go_ret
    exact ⟨ret_bool HE.out.symm, hb⟩

set_option maxRecDepth 100000 in
set_option maxHeartbeats 1000000 in
theorem name_any (s : ByteArray) (w : World) (hs : s.size ≤ 1073741824) :
    Calls Try.prog 48 #[.string s] w fun e w' => e = .returned (.bool (hname (bl s))) ∧ Below w.heap.size w w' := by
  have hdef : hname (bl s) = (decide (s.size ≤ 256) && !address (bl s) && labels (bl s)) := by unfold hname; rw [bl_length]
  by_cases h256 : s.size ≤ 256
  · cases ha : address (bl s) with
    | true =>
      have HE : Hid (hname (bl s) = false) := by rw [Hid, hdef, ha]; simp
      clear hdef
      go_enter Try.func48, Try.ntmps48
      go_wp2_with (go_at_call 49; refine (Address_any s _ hs).mono ?_; rintro e w1 ⟨rfl, hb⟩)
      go_ret
      exact ⟨ret_bool HE.out.symm, hb⟩
    | false =>
      obtain ⟨L, hL⟩ : ∃ L, L = splitB 46 (bl s) := ⟨_, rfl⟩
      have hsp := fun (W : World) => Split_any s 46 W hs
      have hne : L ≠ [] := by rw [hL]; exact splitB_ne _ _
      have hmem : Hid (∀ p ∈ L, p.length ≤ 1073741824) := fun p hp => by
        have := splitB_mem_len 46 (bl s) p (by rw [← hL]; exact hp); rw [bl_length] at this; omega
      have HL : Hid (hname (bl s) = L.all label) := by rw [Hid, hdef, ha]; unfold labels; rw [← hL]; simp [h256]
      rw [← hL] at hsp
      have hlen : L.length ≤ 1073741825 := by rw [hL]; exact split_len 46 s hs
      have HS := Lib.hid hsp
      clear hsp hL hdef
      go_enter Try.func48, Try.ntmps48
      go_wp2_with (first
        | (go_at_call 49; refine (Address_any s _ hs).mono ?_; rintro e w0 ⟨rfl, hb0⟩)
        | (go_at_call 63; refine (HS.out _).mono ?_; rintro e w1 ⟨v, rfl, hown, hbel⟩; obtain ⟨g, cap, rfl, hcells⟩ := strs_open hown hne; have HC := Lib.hid hcells; clear hcells hown))
      go_loop [4, 15] (fun _ i => ∃ k : Nat, k ≤ L.length ∧ i = .int .i64 k ∧ hname (bl s) = (L.drop k).all label) (fun _ i => L.length - (intOf i).toNat)
      case atStart => exact ⟨0, Nat.zero_le _, rfl, HL.out⟩
      case round =>
        obtain ⟨k, hk, rfl, hpre⟩ := hrel
        have HP := Lib.hid hpre
        clear hpre
        by_cases hlt : k < L.length
        · have hcell := HC.out k hlt
          have hD : L.drop k = L[k] :: L.drop (k + 1) := List.drop_eq_getElem_cons hlt
          have hml := hmem.out L[k] (List.getElem_mem hlt)
          have hT : Hid (hname (bl s) = (label L[k] && (L.drop (k + 1)).all label)) := by rw [Hid, HP.out, hD, List.all_cons]
          have hlab0 := fun (W : World) => label_any (mkS L[k]) W (by rw [mkS_size]; exact hml)
          rw [bl_mkS] at hlab0
          have HLA := Lib.hid hlab0
          clear hlab0 hD hml HP
          cases hq : label L[k] with
          | true =>
            rw [hq] at hT HLA
            go_wp2_with (go_at_call 64; refine (HLA.out _).mono ?_; rintro e w2 ⟨rfl, rfl⟩)
            go_round
            case rel => exact ⟨k + 1, by omega, by go_num, by rw [hT.out]; simp⟩
            case measure => simp [intOf] <;> omega
          | false =>
            rw [hq] at hT HLA
            go_wp2_with (go_at_call 64; refine (HLA.out _).mono ?_; rintro e w2 ⟨rfl, rfl⟩)
            go_ret
            exact ⟨ret_bool (by rw [hT.out]; rfl), below2 hb0 hbel⟩
        · have HE : Hid (hname (bl s) = true) := by rw [Hid, HP.out, List.drop_eq_nil_of_le (by omega)]; rfl
          go_wp2
          go_ret
          exact ⟨ret_bool HE.out.symm, below2 hb0 hbel⟩
  · have HE : Hid (hname (bl s) = false) := by rw [Hid, hdef]; simp [h256]
    clear hdef
    go_enter Try.func48, Try.ntmps48
    go_wp2
    go_ret
    exact ⟨ret_bool HE.out.symm, Below.refl _ _⟩

/-- an address in brackets has no labels -/
theorem bracket_labels (l : Bytes) (h : bracket l = true) : labels l = false := by
  unfold bracket at h
  simp only [Bool.and_eq_true, decide_eq_true_eq] at h
  obtain ⟨⟨⟨⟨h4, _⟩, h91⟩, _⟩, _⟩ := h
  match l, h4 with
  | x :: r, _ =>
    have hx : x.toNat = 91 := by simpa using h91
    unfold labels
    cases hs : splitB 46 r with
    | nil => exact absurd hs (splitB_ne _ _)
    | cons a b =>
      have : splitB 46 (x :: r) = (x :: a) :: b := by rw [splitB, if_neg (by rw [hx]; decide), hs]
      rw [this, List.all_cons]
      have hf : label (x :: a) = false := by unfold label; simp [isSign, hx]
      rw [hf]; rfl
theorem hname_ref (l : Bytes) : hname l = (decide (l.length ≤ 256) && !four l && labels l) := by
  unfold hname address
  cases hb : bracket l with
  | false => simp
  | true => simp [bracket_labels l hb]

set_option maxRecDepth 100000 in
set_option maxHeartbeats 1000000 in
theorem rName_any (s : ByteArray) (w : World) (hs : s.size ≤ 1073741824) :
    Calls Try.prog 55 #[.string s] w fun e w' => e = .returned (.bool (hname (bl s))) ∧ Below w.heap.size w w' := by
  have hdef : hname (bl s) = (decide (s.size ≤ 256) && !four (bl s) && labels (bl s)) := by rw [hname_ref, bl_length]
  by_cases h256 : s.size ≤ 256
  · cases ha : four (bl s) with
    | true =>
      have HE : Hid (hname (bl s) = false) := by rw [Hid, hdef, ha]; simp
      clear hdef
      go_enter Try.func55, Try.ntmps55
      go_wp2_with (go_at_call 69; refine (rfour_any s _ hs).mono ?_; rintro e w1 ⟨rfl, hb⟩)
      go_ret
      exact ⟨ret_bool HE.out.symm, hb⟩
    | false =>
      obtain ⟨L, hL⟩ : ∃ L, L = splitB 46 (bl s) := ⟨_, rfl⟩
      have hsp := fun (W : World) => rSplit_any s 46 W hs
      have hne : L ≠ [] := by rw [hL]; exact splitB_ne _ _
      have hmem : Hid (∀ p ∈ L, p.length ≤ 1073741824) := fun p hp => by
        have := splitB_mem_len 46 (bl s) p (by rw [← hL]; exact hp); rw [bl_length] at this; omega
      have HL : Hid (hname (bl s) = L.all label) := by rw [Hid, hdef, ha]; unfold labels; rw [← hL]; simp [h256]
      rw [← hL] at hsp
      have hlen : L.length ≤ 1073741825 := by rw [hL]; exact split_len 46 s hs
      have HS := Lib.hid hsp
      clear hsp hL hdef
      go_enter Try.func55, Try.ntmps55
      go_wp2_with (first
        | (go_at_call 69; refine (rfour_any s _ hs).mono ?_; rintro e w0 ⟨rfl, hb0⟩)
        | (go_at_call 70; refine (HS.out _).mono ?_; rintro e w1 ⟨v, rfl, hown, hbel⟩; obtain ⟨g, cap, rfl, hcells⟩ := strs_open hown hne; have HC := Lib.hid hcells; clear hcells hown))
      go_loop [4] (fun i => ∃ k : Nat, k ≤ L.length ∧ i = .int .i64 k ∧ hname (bl s) = (L.drop k).all label) (fun i => L.length - (intOf i).toNat)
      case atStart => exact ⟨0, Nat.zero_le _, rfl, HL.out⟩
      case round =>
        obtain ⟨k, hk, rfl, hpre⟩ := hrel
        have HP := Lib.hid hpre
        clear hpre
        by_cases hlt : k < L.length
        · have hcell := HC.out k hlt
          have hD : L.drop k = L[k] :: L.drop (k + 1) := List.drop_eq_getElem_cons hlt
          have hml := hmem.out L[k] (List.getElem_mem hlt)
          have hT : Hid (hname (bl s) = (label L[k] && (L.drop (k + 1)).all label)) := by rw [Hid, HP.out, hD, List.all_cons]
          have hlab0 := fun (W : World) => rlabel_any (mkS L[k]) W (by rw [mkS_size]; exact hml)
          rw [bl_mkS] at hlab0
          have HLA := Lib.hid hlab0
          clear hlab0 hD hml HP
          cases hq : label L[k] with
          | true =>
            rw [hq] at hT HLA
            go_wp2_with (go_at_call 71; refine (HLA.out _).mono ?_; rintro e w2 ⟨rfl, rfl⟩)
            go_round
            case rel => exact ⟨k + 1, by omega, by go_num, by rw [hT.out]; simp⟩
            case measure => simp [intOf] <;> omega
          | false =>
            rw [hq] at hT HLA
            go_wp2_with (go_at_call 71; refine (HLA.out _).mono ?_; rintro e w2 ⟨rfl, rfl⟩)
            go_ret
            exact ⟨ret_bool (by rw [hT.out]; rfl), below2 hb0 hbel⟩
        · have HE : Hid (hname (bl s) = true) := by rw [Hid, HP.out, List.drop_eq_nil_of_le (by omega)]; rfl
          go_wp2
          go_ret
          exact ⟨ret_bool HE.out.symm, below2 hb0 hbel⟩
  · have HE : Hid (hname (bl s) = false) := by rw [Hid, hdef]; simp [h256]
    clear hdef
    go_enter Try.func55, Try.ntmps55
    go_wp2
    go_ret
    exact ⟨ret_bool HE.out.symm, Below.refl _ _⟩
end Go.Proofs.Ytdlhbmhdcdfocaa
