/- Package host and its reference compute the plain functions of Defs. Conditions: texts of at most 2^30 bytes. -/
import Derived.Test.YtohmadchgacafaaRefA
set_option linter.unusedSimpArgs false
set_option linter.unusedVariables false
set_option linter.unnecessarySimpa false
namespace Go.Proofs.Ytohmadchgacafaa
open Go.RowKit

def signAt (c : UInt8) (e : Bool) : Bool := isSign c && !(e && isDash c)

/-- what is left of a label's test -/
def labelFrom (l : Bytes) (k : Nat) : Bool := (l.drop k).all isSign && (decide (0 < k) || !(l.head?.any isDash)) && (decide (k = l.length) || !(l.getLast?.any isDash))
theorem labelFrom_step (l : Bytes) (k : Nat) (h : k < l.length) : labelFrom l k = (signAt l[k] (decide (k = 0) || decide (k = l.length - 1)) && labelFrom l (k + 1)) := by
  unfold labelFrom signAt
  rw [List.drop_eq_getElem_cons h, List.all_cons]
  have hh : l.head? = some l[0] := by rw [List.head?_eq_getElem?]; simp
  have hg : l.getLast? = some l[l.length - 1] := by rw [List.getLast?_eq_getElem?]; simp
  rw [hh, hg]
  simp only [Option.any_some]
  rw [Bool.eq_iff_iff]
  by_cases h0 : k = 0
  · subst h0
    by_cases h1 : l.length - 1 = 0
    · have e1 : l.length = 1 := by omega
      simp only [e1]
      simp [e1]
      intros; grind
    · have e1 : ¬ (0 = l.length - 1) := by omega
      have e2 : ¬ (0 = l.length) := by omega
      have e3 : ¬ (0 + 1 = l.length) := by omega
      simp [e1, e2, e3]
      grind
  · by_cases h1 : k = l.length - 1
    · subst h1
      have e2 : ¬ (l.length - 1 = l.length) := by omega
      have e3 : l.length - 1 + 1 = l.length := by omega
      simp [h0, e2, e3]
      grind
    · have e2 : ¬ (k = l.length) := by omega
      have e3 : ¬ (k + 1 = l.length) := by omega
      simp [h0, h1, e2, e3]
      grind
theorem label_eq (l : Bytes) (h1 : 1 ≤ l.length) (h2 : l.length ≤ 63) : label l = labelFrom l 0 := by
  unfold label labelFrom
  have e : ¬ (0 = l.length) := by omega
  simp [h1, h2, e]
theorem labelFrom_all (l : Bytes) (h : 0 < l.length) : labelFrom l l.length = true := by
  unfold labelFrom; simp [h]
end Go.Proofs.Ytohmadchgacafaa

/- Package host and its reference, second part: labels and addresses in brackets. Conditions: texts of at most 2^30 bytes. -/
namespace Go.Proofs.Ytohmadchgacafaa
open Go.RowKit

theorem bl_get (s : ByteArray) (k : Nat) (h : k < s.size) : (bl s)[k]'(by rw [bl_length]; exact h) = s[k] := rfl

end Go.Proofs.Ytohmadchgacafaa

/- Package host and its reference, third part: the reference's label; addresses in brackets. Conditions: texts of at most 2^30 bytes. -/
namespace Go.Proofs.Ytohmadchgacafaa
open Go.RowKit

theorem head_bl (s : ByteArray) (h : 0 < s.size) : (bl s).head? = some s[0] := by rw [List.head?_eq_getElem?, List.getElem?_eq_getElem (by rw [bl_length]; exact h)]; rfl
theorem last_bl (s : ByteArray) (h : 0 < s.size) : (bl s).getLast? = some (s[s.size - 1]'(by omega)) := by
  rw [List.getLast?_eq_getElem?, List.getElem?_eq_getElem (by rw [bl_length]; omega)]; rfl

/-- the middle of an address in brackets -/
theorem bracket_mid (s : ByteArray) (h4 : 4 ≤ s.size) : ((bl s).drop 1).take ((bl s).length - 2) = bl (s.extract 1 (s.size - 1)) := by
  rw [bl_extract, bl_length, List.drop_take]; congr 1

end Go.Proofs.Ytohmadchgacafaa

/- Package host and its reference, fourth part: four numbers, addresses, names. Conditions: texts of at most 2^30 bytes. -/
namespace Go.Proofs.Ytohmadchgacafaa
open Go.RowKit

/-- a slice of strings that the callee made, read -/
theorem strs_open {w : World} {base : Nat} {E : TypeId} {v : Value} {L : List Bytes} (h : w.ownsRow base E 1 v L.length (strVals L)) (hne : L ≠ []) :
    ∃ g cap, v = .slice (some ⟨g, 0, none⟩) L.length cap ∧ ∀ j (hj : j < L.length), w.cell? ⟨g, j, none⟩ = some (.string (mkS L[j])) := by
  have hc := fun g (hg : v.ownBlock = some g) => h.cells hg
  rcases h.2 with ⟨rfl, hn⟩ | ⟨g, cap, cur, rfl, rest⟩
  · exact absurd (List.length_eq_zero_iff.1 hn) hne
  · refine ⟨g, cap, rfl, fun j hj => ?_⟩
    have := hc g rfl j (.string (mkS L[j])) (by simp [strVals, hj])
    unfold Addr.add at this
    split at this
    · rename_i h0; subst h0; exact this
    · simpa using this

theorem split_len (c : UInt8) (s : ByteArray) (hs : s.size ≤ 1073741824) : (splitB c (bl s)).length ≤ 1073741825 := by
  have := splitB_length c (bl s); rw [bl_length] at this; omega
theorem splitB_mem_len (c : UInt8) : ∀ (l : Bytes) (p : Bytes), p ∈ splitB c l → p.length ≤ l.length
  | [], p, h => by simp [splitB] at h; subst h; simp
  | x :: r, p, h => by
    unfold splitB at h
    split at h
    · rcases List.mem_cons.1 h with rfl | h
      · simp
      · have := splitB_mem_len c r p h; simp; omega
    · cases hs : splitB c r with
      | nil => exact absurd hs (splitB_ne c r)
      | cons a b =>
        rw [hs] at h
        rcases List.mem_cons.1 h with rfl | h
        · have := splitB_mem_len c r a (by rw [hs]; simp); simp; omega
        · have := splitB_mem_len c r p (by rw [hs]; simp [h]); simp; omega

/-- what decides on a number of an address -/
theorem octet_eq (t : ByteArray) : octet (bl t) = (decide (0 < t.size) && ((bl t).all isDigit && (decide (numL (bl t) ≤ 255) && (decide (t.size ≤ 1) || !((bl t).head?.any fun c => decide (c.toNat = 48)))))) := by
  unfold octet; rw [bl_length]; simp [Nat.succ_le_iff, Bool.and_assoc]

end Go.Proofs.Ytohmadchgacafaa

/- Package host's reference, fifth part: four numbers. Conditions: texts of at most 2^30 bytes. -/
namespace Go.Proofs.Ytohmadchgacafaa
open Go.RowKit

/-- what the reference asks of a number of an address -/
def octetR (p : Bytes) : Bool := decide (1 ≤ p.length) && decide (p.length ≤ 3) && p.all isDigit && decide (numL p ≤ 255) && decide (textN (numL p).toNat = p)

theorem foldl_ge : ∀ (l : Bytes) (n : Int), 0 ≤ n → n ≤ 1099511627776 → l.all isDigit = true → n ≤ l.foldl numStep n
  | [], _, _, _, _ => Int.le_refl _
  | c :: r, n, h0, h1, hl => by
    simp only [List.all_cons, Bool.and_eq_true] at hl
    have h2 := numStep_bd h0 hl.1
    have h3 := foldl_ge r (numStep n c) h2.1 h2.2 hl.2
    have hd := hl.1
    unfold isDigit at hd; simp at hd
    have h4 : n ≤ numStep n c := by unfold numStep; omega
    exact Int.le_trans h4 h3
theorem dig_bd {c : UInt8} (h : isDigit c = true) : 48 ≤ c.toNat ∧ c.toNat ≤ 57 := by simpa [isDigit] using h
theorem ofNat_eq (n : Nat) (c : UInt8) (h : n = c.toNat) : UInt8.ofNat n = c := by
  apply UInt8.toNat_inj.1; rw [h]; simp
theorem octet_eqR (p : Bytes) : octet p = octetR p := by
  match p with
  | [] => rfl
  | [a] =>
    unfold octet octetR
    by_cases ha : isDigit a = true
    · have h := dig_bd ha
      have hn : numL [a] = ((a.toNat - 48 : Nat) : Int) := by simp [numL, numStep]; omega
      have ht : textN (a.toNat - 48) = [a] := by rw [textN_small _ (by omega), ofNat_eq _ a (by omega)]
      rw [hn]; simp [ha, ht]; 
    · simp [ha]
  | [a, b] =>
    unfold octet octetR
    by_cases ha : isDigit a = true
    · by_cases hb : isDigit b = true
      · have h1 := dig_bd ha
        have h2 := dig_bd hb
        have hn : numL [a, b] = (((a.toNat - 48) * 10 + (b.toNat - 48) : Nat) : Int) := by simp [numL, numStep]; omega
        rw [hn]
        by_cases h0 : a.toNat = 48
        · have ht : textN ((a.toNat - 48) * 10 + (b.toNat - 48)) = [b] := by rw [h0]; simp; rw [textN_small _ (by omega), ofNat_eq _ b (by omega)]
          simp [ha, hb, h0]
          rw [h0] at ht
          simp at ht
          rw [ht]; simp
        · have ht : textN ((a.toNat - 48) * 10 + (b.toNat - 48)) = [a, b] := by
            rw [textN_big _ (by omega), textN_small _ (by omega), ofNat_eq _ a (by omega), ofNat_eq _ b (by omega)]; rfl
          rw [Int.toNat_natCast, ht]; simp [ha, hb, h0]
      · simp [ha, hb]
    · simp [ha]
  | [a, b, c] =>
    unfold octet octetR
    by_cases ha : isDigit a = true
    · by_cases hb : isDigit b = true
      · by_cases hc : isDigit c = true
        · have h1 := dig_bd ha
          have h2 := dig_bd hb
          have h3 := dig_bd hc
          have hn : numL [a, b, c] = (((a.toNat - 48) * 100 + (b.toNat - 48) * 10 + (c.toNat - 48) : Nat) : Int) := by simp [numL, numStep]; omega
          rw [hn]
          by_cases h0 : a.toNat = 48
          · have ht : textN ((a.toNat - 48) * 100 + (b.toNat - 48) * 10 + (c.toNat - 48)) ≠ [a, b, c] := by
              intro h
              have hl := congrArg List.length h
              by_cases hs : (a.toNat - 48) * 100 + (b.toNat - 48) * 10 + (c.toNat - 48) < 10
              · rw [textN_small _ hs] at hl; simp at hl
              · rw [textN_big _ hs, textN_small _ (by omega)] at hl; simp at hl
            simp [ha, hb, hc, h0] at ht ⊢
            intro _; exact ht
          · have ht : textN ((a.toNat - 48) * 100 + (b.toNat - 48) * 10 + (c.toNat - 48)) = [a, b, c] := by
              rw [textN_big _ (by omega), textN_big _ (by omega), textN_small _ (by omega), ofNat_eq _ a (by omega), ofNat_eq _ b (by omega), ofNat_eq _ c (by omega)]; rfl
            rw [Int.toNat_natCast, ht]; simp [ha, hb, hc, h0]
        · simp [ha, hb, hc]
      · simp [ha, hb]
    · simp [ha]
  | a :: b :: c :: d :: r =>
    have e2 : octetR (a :: b :: c :: d :: r) = false := by unfold octetR; simp
    rw [e2]
    by_cases hall : (a :: b :: c :: d :: r).all isDigit = true
    · by_cases h0 : a.toNat = 48
      · unfold octet; simp [h0]
      · have hx := hall
        simp only [List.all_cons, Bool.and_eq_true] at hx
        obtain ⟨ha, hb, hc, hd, hr⟩ := hx
        have h1 := dig_bd ha
        have h2 := dig_bd hb
        have h3 := dig_bd hc
        have h4 := dig_bd hd
        have hs : [a, b, c, d].foldl numStep 0 = (((a.toNat - 48) * 1000 + (b.toNat - 48) * 100 + (c.toNat - 48) * 10 + (d.toNat - 48) : Nat) : Int) := by simp [numStep]; omega
        have hg := foldl_ge r ([a, b, c, d].foldl numStep 0) (by rw [hs]; omega) (by rw [hs]; omega) hr
        have hn : ¬ numL (a :: b :: c :: d :: r) ≤ 255 := by
          have : numL (a :: b :: c :: d :: r) = r.foldl numStep ([a, b, c, d].foldl numStep 0) := rfl
          rw [this, hs]; rw [hs] at hg; omega
        unfold octet; simp [hn]
    · unfold octet; simp only [hall]; simp
end Go.Proofs.Ytohmadchgacafaa

/- Package host's reference, sixth part: four numbers, walked. Conditions: texts of at most 2^30 bytes. -/
namespace Go.Proofs.Ytohmadchgacafaa
open Go.RowKit

theorem quiet_of_same' {P : Program} {f : FuncId} {args : Array Value} {w : World} {n : Nat} {v : Value}
    (h : Calls P f args (w.drewN n) fun e w' => e = .returned v ∧ w.drewN n = w') : Calls P f args (w.drewN n) fun e w'' => e = .returned v ∧ ∃ m, w'' = w.drewN m :=
  h.mono fun _ _ ⟨he, hm⟩ => ⟨he, n, hm.symm⟩

end Go.Proofs.Ytohmadchgacafaa

/- Package host and its reference, last part: addresses, names, canonical texts. Conditions: texts of at most 2^30 bytes. -/
namespace Go.Proofs.Ytohmadchgacafaa
open Go.RowKit

/-- an address in brackets has no labels -/
theorem bracket_labels (l : Bytes) (h : bracket l = true) : labels l = false := by
  unfold bracket at h
  simp only [Bool.and_eq_true, decide_eq_true_eq] at h
  obtain ⟨⟨⟨⟨h4, _⟩, h91⟩, _⟩, _⟩ := h
  match l, h4 with
  | x :: r, _ =>
    have hx : x.toNat = 91 := by simpa using h91
    unfold labels
    cases hs : splitB 46 r with
    | nil => exact absurd hs (splitB_ne _ _)
    | cons a b =>
      have : splitB 46 (x :: r) = (x :: a) :: b := by rw [splitB, if_neg (by rw [hx]; decide), hs]
      rw [this, List.all_cons]
      have hf : label (x :: a) = false := by unfold label; simp [isSign, hx]
      rw [hf]; rfl
theorem hname_ref (l : Bytes) : hname l = (decide (l.length ≤ 256) && !four l && labels l) := by
  unfold hname address
  cases hb : bracket l with
  | false => simp
  | true => simp [bracket_labels l hb]

end Go.Proofs.Ytohmadchgacafaa

/- host.Canon and the reference's Canonical; what is canonical has no capitals. Conditions: texts of at most 2^30 bytes. -/
namespace Go.Proofs.Ytohmadchgacafaa
open Go.RowKit

def canonical (l : Bytes) : Bool := decide (l.length ≤ 256) && (hname l || address l)
def canonE (l : Bytes) : Int := if 256 < l.length then 3 else if hname (lowerL l) = true ∨ address (lowerL l) = true then 0 else 1
def canonT (l : Bytes) : Bytes := if 256 < l.length then [] else if hname (lowerL l) = true ∨ address (lowerL l) = true then lowerL l else []

/-! ### what is canonical has no capitals -/
theorem lowerB_same {c : UInt8} (h : ¬ (65 ≤ c.toNat ∧ c.toNat ≤ 90)) : lowerB c = c := by unfold lowerB; rw [if_neg h]
theorem splitB_mem (c : UInt8) : ∀ (l : Bytes) (x : UInt8), x ∈ l → x.toNat = c.toNat ∨ ∃ p ∈ splitB c l, x ∈ p
  | [], x, h => by simp at h
  | y :: r, x, h => by
    by_cases hy : y.toNat = c.toNat
    · rcases List.mem_cons.1 h with rfl | h
      · exact Or.inl hy
      · rcases splitB_mem c r x h with h1 | ⟨p, hp, hx⟩
        · exact Or.inl h1
        · exact Or.inr ⟨p, by rw [splitB, if_pos hy]; exact List.mem_cons_of_mem _ hp, hx⟩
    · cases hs : splitB c r with
      | nil => exact absurd hs (splitB_ne c r)
      | cons a b =>
        have e : splitB c (y :: r) = (y :: a) :: b := by rw [splitB, if_neg hy, hs]
        rw [e]
        rcases List.mem_cons.1 h with rfl | h
        · exact Or.inr ⟨x :: a, by simp, by simp⟩
        · rcases splitB_mem c r x h with h1 | ⟨p, hp, hx⟩
          · exact Or.inl h1
          · rw [hs] at hp
            rcases List.mem_cons.1 hp with rfl | hp
            · exact Or.inr ⟨y :: p, by simp, by simp [hx]⟩
            · exact Or.inr ⟨p, by simp [hp], hx⟩
theorem lowerL_same {l : Bytes} (h : ∀ x ∈ l, ¬ (65 ≤ x.toNat ∧ x.toNat ≤ 90)) : lowerL l = l := by
  unfold lowerL
  have : ∀ x ∈ l, lowerB x = id x := fun x hx => lowerB_same (h x hx)
  rw [List.map_congr_left this]; simp
theorem lower_hname {l : Bytes} (h : hname l = true) : lowerL l = l := by
  unfold hname labels at h
  simp only [Bool.and_eq_true] at h
  refine lowerL_same fun x hx => ?_
  rcases splitB_mem 46 l x hx with h1 | ⟨p, hp, hxp⟩
  · rw [h1]; decide
  · have hl := List.all_eq_true.1 h.2 p hp
    unfold label at hl
    simp only [Bool.and_eq_true] at hl
    have := List.all_eq_true.1 hl.1.1.2 x hxp
    unfold isSign at this
    simp at this
    omega
theorem lower_address {l : Bytes} (h : address l = true) : lowerL l = l := by
  unfold address at h
  simp only [Bool.or_eq_true] at h
  rcases h with h | h
  · unfold four at h
    simp only [Bool.and_eq_true] at h
    refine lowerL_same fun x hx => ?_
    rcases splitB_mem 46 l x hx with h1 | ⟨p, hp, hxp⟩
    · rw [h1]; decide
    · have hl := List.all_eq_true.1 h.2 p hp
      unfold octet at hl
      simp only [Bool.and_eq_true] at hl
      have := dig_bd (List.all_eq_true.1 hl.1.1.2 x hxp)
      omega
  · unfold bracket at h
    simp only [Bool.and_eq_true, decide_eq_true_eq] at h
    obtain ⟨⟨⟨⟨h4, _⟩, h91⟩, h93⟩, hm⟩ := h
    refine lowerL_same fun x hx => ?_
    obtain ⟨i, hi, rfl⟩ := List.mem_iff_getElem.1 hx
    by_cases h0 : i = 0
    · subst h0
      have hh : l.head? = some l[0] := by rw [List.head?_eq_getElem?]; simp
      rw [hh] at h91
      have : l[0].toNat = 91 := by simpa using h91
      omega
    · by_cases h1 : i = l.length - 1
      · subst h1
        have hh : l.getLast? = some l[l.length - 1] := by rw [List.getLast?_eq_getElem?]; simp
        rw [hh] at h93
        have : l[l.length - 1].toNat = 93 := by simpa using h93
        omega
      · have hb : isHexB l[i] = true := by
          refine List.all_eq_true.1 hm _ (List.mem_iff_getElem.2 ⟨i - 1, by simp; omega, ?_⟩)
          rw [List.getElem_take, List.getElem_drop]
          simp only [show 1 + (i - 1) = i by omega]
        unfold isHexB at hb
        simp at hb
        omega
theorem canon_ref (l : Bytes) : (decide (canonE l = 0) && decide (canonT l = l)) = canonical l := by
  unfold canonE canonT canonical
  by_cases h : 256 < l.length
  · simp [h, show ¬ l.length ≤ 256 by omega]
  · by_cases hc : hname (lowerL l) = true ∨ address (lowerL l) = true
    · have e : lowerL (lowerL l) = lowerL l := by rcases hc with h1 | h1; exact lower_hname h1; exact lower_address h1
      simp only [if_neg h, if_pos hc, show l.length ≤ 256 by omega, decide_true, Bool.true_and]
      rw [Bool.eq_iff_iff, decide_eq_true_eq, Bool.or_eq_true]
      constructor
      · intro e2; rw [e2] at hc; exact hc
      · rintro (h1 | h1)
        · exact lower_hname h1
        · exact lower_address h1
    · have hc2 : ¬ (hname l = true ∨ address l = true) := by
        rintro (h1 | h1)
        · exact hc (Or.inl (by rw [lower_hname h1]; exact h1))
        · exact hc (Or.inr (by rw [lower_address h1]; exact h1))
      simp only [if_neg h, if_neg hc]
      have h3 : hname l = false := by simpa using fun x => hc2 (Or.inl x)
      have h4 : address l = false := by simpa using fun x => hc2 (Or.inr x)
      simp [h3, h4]
end Go.Proofs.Ytohmadchgacafaa
