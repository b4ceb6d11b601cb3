/- Package host's reference, sixth part: four numbers, walked. Conditions: texts of at most 2^30 bytes. -/
import Derived.Test.YtnpdfmpjjomhcaaHostD
set_option linter.unusedSimpArgs false
set_option linter.unusedVariables false
set_option linter.unnecessarySimpa false
namespace Go.Proofs.Ytnpdfmpjjomhcaa
open Go.RowKit

theorem quiet_of_same' {P : Program} {f : FuncId} {args : Array Value} {w : World} {n : Nat} {v : Value}
    (h : Calls P f args (w.drewN n) fun e w' => e = .returned v ∧ w.drewN n = w') : Calls P f args (w.drewN n) fun e w'' => e = .returned v ∧ ∃ m, w'' = w.drewN m :=
  h.mono fun _ _ ⟨he, hm⟩ => ⟨he, n, hm.symm⟩

end Go.Proofs.Ytnpdfmpjjomhcaa

/- Package host and its reference, last part: addresses, names, canonical texts. Conditions: texts of at most 2^30 bytes. -/
namespace Go.Proofs.Ytnpdfmpjjomhcaa
open Go.RowKit

set_option maxRecDepth 100000 in
set_option maxHeartbeats 1000000 in
theorem Address_any (s : ByteArray) (w : World) (hs : s.size ≤ 1073741824) :
    Calls Try.prog 81 #[.string s] w fun e w' => e = .returned (.bool (address (bl s))) ∧ Below w.heap.size w w' := by
  have HD : Hid (address (bl s) = (four (bl s) || bracket (bl s))) := rfl
  cases h4 : four (bl s) with
  | true =>
    have HE : Hid (address (bl s) = true) := by rw [Hid, HD.out, h4]; rfl
    go_enter Try.func81, Try.ntmps81
    go_wp2_with (go_at_call 89; refine (four_any s _ hs).mono ?_; rintro e w1 ⟨rfl, hb⟩)
    go_ret
    exact ⟨ret_bool HE.out.symm, hb⟩
  | false =>
    have HE : Hid (address (bl s) = bracket (bl s)) := by rw [Hid, HD.out, h4]; rfl
    go_enter Try.func81, Try.ntmps81
    go_wp2_with (first | (go_at_call 89; refine (four_any s _ hs).mono ?_; rintro e w1 ⟨rfl, hb⟩) | (go_at_call 90; refine (bracket_any s _ hs).mono ?_; rintro e w2 ⟨rfl, hb2⟩))
    go_ret
    exact ⟨ret_bool HE.out.symm, below2 hb hb2⟩

set_option maxRecDepth 100000 in
set_option maxHeartbeats 1000000 in
theorem name_any (s : ByteArray) (w : World) (hs : s.size ≤ 1073741824) :
    Calls Try.prog 80 #[.string s] w fun e w' => e = .returned (.bool (hname (bl s))) ∧ Below w.heap.size w w' := by
  have hdef : hname (bl s) = (decide (s.size ≤ 256) && !address (bl s) && labels (bl s)) := by unfold hname; rw [bl_length]
  by_cases h256 : s.size ≤ 256
  · cases ha : address (bl s) with
    | true =>
      have HE : Hid (hname (bl s) = false) := by rw [Hid, hdef, ha]; simp
      clear hdef
      go_enter Try.func80, Try.ntmps80
      go_wp2_with (go_at_call 81; refine (Address_any s _ hs).mono ?_; rintro e w1 ⟨rfl, hb⟩)
      go_ret
      exact ⟨ret_bool HE.out.symm, hb⟩
    | false =>
      obtain ⟨L, hL⟩ : ∃ L, L = splitB 46 (bl s) := ⟨_, rfl⟩
      have hsp := fun (W : World) => Split_any s 46 W hs
      have hne : L ≠ [] := by rw [hL]; exact splitB_ne _ _
      have hmem : Hid (∀ p ∈ L, p.length ≤ 1073741824) := fun p hp => by
        have := splitB_mem_len 46 (bl s) p (by rw [← hL]; exact hp); rw [bl_length] at this; omega
      have HL : Hid (hname (bl s) = L.all label) := by rw [Hid, hdef, ha]; unfold labels; rw [← hL]; simp [h256]
      rw [← hL] at hsp
      have hlen : L.length ≤ 1073741825 := by rw [hL]; exact split_len 46 s hs
      have HS := Lib.hid hsp
      clear hsp hL hdef
      go_enter Try.func80, Try.ntmps80
      go_wp2_with (first
        | (go_at_call 81; refine (Address_any s _ hs).mono ?_; rintro e w0 ⟨rfl, hb0⟩)
        | (go_at_call 87; refine (HS.out _).mono ?_; rintro e w1 ⟨v, rfl, hown, hbel⟩; obtain ⟨g, cap, rfl, hcells⟩ := strs_open hown hne; have HC := Lib.hid hcells; clear hcells hown))
      go_loop [4, 15] (fun _ i => ∃ k : Nat, k ≤ L.length ∧ i = .int .i64 k ∧ hname (bl s) = (L.drop k).all label) (fun _ i => L.length - (intOf i).toNat)
      case atStart => exact ⟨0, Nat.zero_le _, rfl, HL.out⟩
      case round =>
        obtain ⟨k, hk, rfl, hpre⟩ := hrel
        have HP := Lib.hid hpre
        clear hpre
        by_cases hlt : k < L.length
        · have hcell := HC.out k hlt
          have hD : L.drop k = L[k] :: L.drop (k + 1) := List.drop_eq_getElem_cons hlt
          have hml := hmem.out L[k] (List.getElem_mem hlt)
          have hT : Hid (hname (bl s) = (label L[k] && (L.drop (k + 1)).all label)) := by rw [Hid, HP.out, hD, List.all_cons]
          have hlab0 := fun (W : World) => label_any (mkS L[k]) W (by rw [mkS_size]; exact hml)
          rw [bl_mkS] at hlab0
          have HLA := Lib.hid hlab0
          clear hlab0 hD hml HP
          cases hq : label L[k] with
          | true =>
            rw [hq] at hT HLA
            go_wp2_with (go_at_call 88; refine (HLA.out _).mono ?_; rintro e w2 ⟨rfl, rfl⟩)
            go_round
            case rel => exact ⟨k + 1, by omega, by go_num, by rw [hT.out]; simp⟩
            case measure => simp [intOf] <;> omega
          | false =>
            rw [hq] at hT HLA
            go_wp2_with (go_at_call 88; refine (HLA.out _).mono ?_; rintro e w2 ⟨rfl, rfl⟩)
            go_ret
            exact ⟨ret_bool (by rw [hT.out]; rfl), below2 hb0 hbel⟩
        · have HE : Hid (hname (bl s) = true) := by rw [Hid, HP.out, List.drop_eq_nil_of_le (by omega)]; rfl
          go_wp2
          go_ret
          exact ⟨ret_bool HE.out.symm, below2 hb0 hbel⟩
  · have HE : Hid (hname (bl s) = false) := by rw [Hid, hdef]; simp [h256]
    clear hdef
    go_enter Try.func80, Try.ntmps80
    go_wp2
    go_ret
    exact ⟨ret_bool HE.out.symm, Below.refl _ _⟩

/-- an address in brackets has no labels -/
theorem bracket_labels (l : Bytes) (h : bracket l = true) : labels l = false := by
  unfold bracket at h
  simp only [Bool.and_eq_true, decide_eq_true_eq] at h
  obtain ⟨⟨⟨⟨h4, _⟩, h91⟩, _⟩, _⟩ := h
  match l, h4 with
  | x :: r, _ =>
    have hx : x.toNat = 91 := by simpa using h91
    unfold labels
    cases hs : splitB 46 r with
    | nil => exact absurd hs (splitB_ne _ _)
    | cons a b =>
      have : splitB 46 (x :: r) = (x :: a) :: b := by rw [splitB, if_neg (by rw [hx]; decide), hs]
      rw [this, List.all_cons]
      have hf : label (x :: a) = false := by unfold label; simp [isSign, hx]
      rw [hf]; rfl
theorem hname_ref (l : Bytes) : hname l = (decide (l.length ≤ 256) && !four l && labels l) := by
  unfold hname address
  cases hb : bracket l with
  | false => simp
  | true => simp [bracket_labels l hb]

end Go.Proofs.Ytnpdfmpjjomhcaa

/- host.Canon and the reference's Canonical; what is canonical has no capitals. Conditions: texts of at most 2^30 bytes. -/
namespace Go.Proofs.Ytnpdfmpjjomhcaa
open Go.RowKit

def canonical (l : Bytes) : Bool := decide (l.length ≤ 256) && (hname l || address l)
def canonE (l : Bytes) : Int := if 256 < l.length then 3 else if hname (lowerL l) = true ∨ address (lowerL l) = true then 0 else 1
def canonT (l : Bytes) : Bytes := if 256 < l.length then [] else if hname (lowerL l) = true ∨ address (lowerL l) = true then lowerL l else []

set_option maxRecDepth 100000 in
set_option maxHeartbeats 1000000 in
theorem Canon_any (s : ByteArray) (w : World) (hs : s.size ≤ 1073741824) :
    Calls Try.prog 72 #[.string s] w fun e w' => e = .returned (.tuple #[.string (mkS (canonT (bl s))), .int .i64 (canonE (bl s))]) ∧ Below w.heap.size w w' := by
  by_cases h256 : s.size ≤ 256
  · have hlo := fun (W : World) => Lower_any s W hs
    obtain ⟨t, ht⟩ : ∃ t, t = mkS (lowerL (bl s)) := ⟨_, rfl⟩
    have hbt : lowerL (bl s) = bl t := by rw [ht, bl_mkS]
    have hts : t.size ≤ 1073741824 := by rw [ht, mkS_size]; unfold lowerL; simp [bl_length]; omega
    rw [← ht] at hlo
    have hE : canonE (bl s) = if hname (bl t) = true ∨ address (bl t) = true then 0 else 1 := by unfold canonE; rw [bl_length, if_neg (by omega), hbt]
    have hT : canonT (bl s) = if hname (bl t) = true ∨ address (bl t) = true then bl t else [] := by unfold canonT; rw [bl_length, if_neg (by omega), hbt]
    have HL := Lib.hid hlo
    clear hlo ht hbt
    cases hn : hname (bl t) with
    | true =>
      rw [hn, if_pos (Or.inl rfl)] at hE hT
      have HE := Lib.hid hE
      have HT := Lib.hid hT
      clear hE hT
      go_enter Try.func72, Try.ntmps72
      go_wp2_with (first
        | (go_at_call 79; refine (HL.out _).mono ?_; rintro e w1 ⟨rfl, hb1⟩)
        | (go_at_call 80; refine (name_any t _ hts).mono ?_; rintro e w2 ⟨rfl, hb2⟩))
      go_ret2
      exact ⟨by rw [HE.out, HT.out, mkS_bl]; rfl, below2 hb1 hb2⟩
    | false =>
      cases ha : address (bl t) with
      | true =>
        rw [hn, ha, if_pos (Or.inr rfl)] at hE hT
        have HE := Lib.hid hE
        have HT := Lib.hid hT
        clear hE hT
        go_enter Try.func72, Try.ntmps72
        go_wp2_with (first
          | (go_at_call 79; refine (HL.out _).mono ?_; rintro e w1 ⟨rfl, hb1⟩)
          | (go_at_call 80; refine (name_any t _ hts).mono ?_; rintro e w2 ⟨rfl, hb2⟩)
          | (go_at_call 81; refine (Address_any t _ hts).mono ?_; rintro e w3 ⟨rfl, hb3⟩))
        go_ret2
        exact ⟨by rw [HE.out, HT.out, mkS_bl]; rfl, below2 (below2 hb1 hb2) hb3⟩
      | false =>
        rw [hn, ha] at hE hT
        have HE := Lib.hid hE
        have HT := Lib.hid hT
        clear hE hT
        go_enter Try.func72, Try.ntmps72
        go_wp2_with (first
          | (go_at_call 79; refine (HL.out _).mono ?_; rintro e w1 ⟨rfl, hb1⟩)
          | (go_at_call 80; refine (name_any t _ hts).mono ?_; rintro e w2 ⟨rfl, hb2⟩)
          | (go_at_call 81; refine (Address_any t _ hts).mono ?_; rintro e w3 ⟨rfl, hb3⟩))
        go_ret2
        exact ⟨by rw [HE.out, HT.out, if_neg (by simp), if_neg (by simp)]; rfl, below2 (below2 hb1 hb2) hb3⟩
  · have HE : Hid (canonE (bl s) = 3) := by unfold Hid canonE; rw [bl_length, if_pos (by omega)]
    have HT : Hid (canonT (bl s) = []) := by unfold Hid canonT; rw [bl_length, if_pos (by omega)]
    go_enter Try.func72, Try.ntmps72
    go_wp2
    go_ret2
    exact ⟨by rw [HE.out, HT.out]; rfl, Below.refl _ _⟩

/-! ### what is canonical has no capitals -/
theorem lowerB_same {c : UInt8} (h : ¬ (65 ≤ c.toNat ∧ c.toNat ≤ 90)) : lowerB c = c := by unfold lowerB; rw [if_neg h]
theorem splitB_mem (c : UInt8) : ∀ (l : Bytes) (x : UInt8), x ∈ l → x.toNat = c.toNat ∨ ∃ p ∈ splitB c l, x ∈ p
  | [], x, h => by simp at h
  | y :: r, x, h => by
    by_cases hy : y.toNat = c.toNat
    · rcases List.mem_cons.1 h with rfl | h
      · exact Or.inl hy
      · rcases splitB_mem c r x h with h1 | ⟨p, hp, hx⟩
        · exact Or.inl h1
        · exact Or.inr ⟨p, by rw [splitB, if_pos hy]; exact List.mem_cons_of_mem _ hp, hx⟩
    · cases hs : splitB c r with
      | nil => exact absurd hs (splitB_ne c r)
      | cons a b =>
        have e : splitB c (y :: r) = (y :: a) :: b := by rw [splitB, if_neg hy, hs]
        rw [e]
        rcases List.mem_cons.1 h with rfl | h
        · exact Or.inr ⟨x :: a, by simp, by simp⟩
        · rcases splitB_mem c r x h with h1 | ⟨p, hp, hx⟩
          · exact Or.inl h1
          · rw [hs] at hp
            rcases List.mem_cons.1 hp with rfl | hp
            · exact Or.inr ⟨y :: p, by simp, by simp [hx]⟩
            · exact Or.inr ⟨p, by simp [hp], hx⟩
theorem lowerL_same {l : Bytes} (h : ∀ x ∈ l, ¬ (65 ≤ x.toNat ∧ x.toNat ≤ 90)) : lowerL l = l := by
  unfold lowerL
  have : ∀ x ∈ l, lowerB x = id x := fun x hx => lowerB_same (h x hx)
  rw [List.map_congr_left this]; simp
theorem lower_hname {l : Bytes} (h : hname l = true) : lowerL l = l := by
  unfold hname labels at h
  simp only [Bool.and_eq_true] at h
  refine lowerL_same fun x hx => ?_
  rcases splitB_mem 46 l x hx with h1 | ⟨p, hp, hxp⟩
  · rw [h1]; decide
  · have hl := List.all_eq_true.1 h.2 p hp
    unfold label at hl
    simp only [Bool.and_eq_true] at hl
    have := List.all_eq_true.1 hl.1.1.2 x hxp
    unfold isSign at this
    simp at this
    omega
theorem lower_address {l : Bytes} (h : address l = true) : lowerL l = l := by
  unfold address at h
  simp only [Bool.or_eq_true] at h
  rcases h with h | h
  · unfold four at h
    simp only [Bool.and_eq_true] at h
    refine lowerL_same fun x hx => ?_
    rcases splitB_mem 46 l x hx with h1 | ⟨p, hp, hxp⟩
    · rw [h1]; decide
    · have hl := List.all_eq_true.1 h.2 p hp
      unfold octet at hl
      simp only [Bool.and_eq_true] at hl
      have := dig_bd (List.all_eq_true.1 hl.1.1.2 x hxp)
      omega
  · unfold bracket at h
    simp only [Bool.and_eq_true, decide_eq_true_eq] at h
    obtain ⟨⟨⟨⟨h4, _⟩, h91⟩, h93⟩, hm⟩ := h
    refine lowerL_same fun x hx => ?_
    obtain ⟨i, hi, rfl⟩ := List.mem_iff_getElem.1 hx
    by_cases h0 : i = 0
    · subst h0
      have hh : l.head? = some l[0] := by rw [List.head?_eq_getElem?]; simp
      rw [hh] at h91
      have : l[0].toNat = 91 := by simpa using h91
      omega
    · by_cases h1 : i = l.length - 1
      · subst h1
        have hh : l.getLast? = some l[l.length - 1] := by rw [List.getLast?_eq_getElem?]; simp
        rw [hh] at h93
        have : l[l.length - 1].toNat = 93 := by simpa using h93
        omega
      · have hb : isHexB l[i] = true := by
          refine List.all_eq_true.1 hm _ (List.mem_iff_getElem.2 ⟨i - 1, by simp; omega, ?_⟩)
          rw [List.getElem_take, List.getElem_drop]
          simp only [show 1 + (i - 1) = i by omega]
        unfold isHexB at hb
        simp at hb
        omega
theorem canon_ref (l : Bytes) : (decide (canonE l = 0) && decide (canonT l = l)) = canonical l := by
  unfold canonE canonT canonical
  by_cases h : 256 < l.length
  · simp [h, show ¬ l.length ≤ 256 by omega]
  · by_cases hc : hname (lowerL l) = true ∨ address (lowerL l) = true
    · have e : lowerL (lowerL l) = lowerL l := by rcases hc with h1 | h1; exact lower_hname h1; exact lower_address h1
      simp only [if_neg h, if_pos hc, show l.length ≤ 256 by omega, decide_true, Bool.true_and]
      rw [Bool.eq_iff_iff, decide_eq_true_eq, Bool.or_eq_true]
      constructor
      · intro e2; rw [e2] at hc; exact hc
      · rintro (h1 | h1)
        · exact lower_hname h1
        · exact lower_address h1
    · have hc2 : ¬ (hname l = true ∨ address l = true) := by
        rintro (h1 | h1)
        · exact hc (Or.inl (by rw [lower_hname h1]; exact h1))
        · exact hc (Or.inr (by rw [lower_address h1]; exact h1))
      simp only [if_neg h, if_neg hc]
      have h3 : hname l = false := by simpa using fun x => hc2 (Or.inl x)
      have h4 : address l = false := by simpa using fun x => hc2 (Or.inr x)
      simp [h3, h4]
end Go.Proofs.Ytnpdfmpjjomhcaa
