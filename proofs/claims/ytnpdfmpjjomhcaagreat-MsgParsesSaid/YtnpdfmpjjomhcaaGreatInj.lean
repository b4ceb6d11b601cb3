/- Two events that may be have the same bytes only if they are the same. Conditions: texts of at most 2^24 bytes. -/
import Derived.Test.YtnpdfmpjjomhcaaGreatBytes
set_option linter.unusedSimpArgs false
set_option linter.unusedVariables false
set_option linter.unnecessarySimpa false
namespace Go.Proofs.YtnpdfmpjjomhcaaGreat

theorem ofNat_inj {a b : Nat} (ha : a < 256) (hb : b < 256) (h : UInt8.ofNat a = UInt8.ofNat b) : a = b := by
  have := congrArg UInt8.toNat h
  simp at this; omega
theorem shortB_inj : ∀ (n m : Nat) (r s : Bytes), shortB n ++ r = shortB m ++ s → n = m ∧ r = s := by
  intro n
  induction n using Nat.strongRecOn with
  | _ n ih =>
    intro m r s h
    by_cases hn : n < 128
    · rw [shortB_small n hn] at h
      by_cases hm : m < 128
      · rw [shortB_small m hm] at h
        simp only [List.singleton_append, List.cons.injEq] at h
        exact ⟨ofNat_inj (by omega) (by omega) h.1, h.2⟩
      · rw [shortB_big m hm] at h
        simp only [List.singleton_append, List.cons_append, List.cons.injEq] at h
        have := ofNat_inj (by omega) (by omega) h.1
        omega
    · rw [shortB_big n hn] at h
      by_cases hm : m < 128
      · rw [shortB_small m hm] at h
        simp only [List.singleton_append, List.cons_append, List.cons.injEq] at h
        have := ofNat_inj (by omega) (by omega) h.1
        omega
      · rw [shortB_big m hm] at h
        simp only [List.cons_append, List.cons.injEq] at h
        have h1 := ofNat_inj (by omega) (by omega) h.1
        obtain ⟨h2, h3⟩ := ih (n / 128) (by omega) _ _ _ h.2
        exact ⟨by omega, h3⟩
theorem shortZ_inj {n m : Int} (hn : 0 ≤ n) (hm : 0 ≤ m) {r s : Bytes} (h : shortB n.toNat ++ r = shortB m.toNat ++ s) : n = m ∧ r = s := by
  obtain ⟨h1, h2⟩ := shortB_inj _ _ _ _ h
  exact ⟨by omega, h2⟩
theorem dotOk_pos {d : Dot} (h : dotOk d = true) : 0 ≤ d.a.dev ∧ 0 ≤ d.a.inc ∧ 0 ≤ d.seq := by
  unfold dotOk actorOk at h
  simp only [Bool.and_eq_true, decide_eq_true_eq] at h
  omega
theorem dotB_inj {d e : Dot} (hd : dotOk d = true) (he : dotOk e = true) {r s : Bytes} (h : dotB d ++ r = dotB e ++ s) : d = e ∧ r = s := by
  obtain ⟨a1, a2, a3⟩ := dotOk_pos hd
  obtain ⟨b1, b2, b3⟩ := dotOk_pos he
  unfold dotB at h
  rw [if_pos hd, if_pos he] at h
  simp only [List.append_assoc] at h
  obtain ⟨h1, h⟩ := shortZ_inj a1 b1 h
  obtain ⟨h2, h⟩ := shortZ_inj a2 b2 h
  obtain ⟨h3, h⟩ := shortZ_inj a3 b3 h
  refine ⟨?_, h⟩
  obtain ⟨⟨_, _⟩, _⟩ := d
  obtain ⟨⟨_, _⟩, _⟩ := e
  simp only at h1 h2 h3
  subst h1 h2 h3
  rfl
theorem stampB_inj {d e : Stamp} (hd : stampOk d = true) (he : stampOk e = true) {r s : Bytes} (h : stampB d ++ r = stampB e ++ s) : d = e ∧ r = s := by
  have hp : ∀ x : Stamp, stampOk x = true → 0 ≤ x.wall ∧ 0 ≤ x.count ∧ 0 ≤ x.dev := fun x hx => by
    unfold stampOk at hx
    simp only [Bool.and_eq_true, decide_eq_true_eq] at hx
    omega
  obtain ⟨a1, a2, a3⟩ := hp d hd
  obtain ⟨b1, b2, b3⟩ := hp e he
  unfold stampB at h
  rw [if_pos hd, if_pos he] at h
  simp only [List.append_assoc] at h
  obtain ⟨h1, h⟩ := shortZ_inj a1 b1 h
  obtain ⟨h2, h⟩ := shortZ_inj a2 b2 h
  obtain ⟨h3, h⟩ := shortZ_inj a3 b3 h
  refine ⟨?_, h⟩
  obtain ⟨_, _, _⟩ := d
  obtain ⟨_, _, _⟩ := e
  simp only at h1 h2 h3
  subst h1 h2 h3
  rfl
theorem dotsB_inj : ∀ (l m : List Dot) (r s : Bytes), l.length = m.length → (∀ d ∈ l, dotOk d = true) → (∀ d ∈ m, dotOk d = true) → dotsB l ++ r = dotsB m ++ s → l = m ∧ r = s
  | [], [], r, s, _, _, _, h => ⟨rfl, by simpa [dotsB] using h⟩
  | [], _ :: _, _, _, h, _, _, _ => by simp at h
  | _ :: _, [], _, _, h, _, _, _ => by simp at h
  | d :: l, e :: m, r, s, hl, h1, h2, h => by
    simp only [dotsB, List.map_cons, List.flatten_cons, List.append_assoc] at h
    obtain ⟨hde, h'⟩ := dotB_inj (h1 d (by simp)) (h2 e (by simp)) h
    obtain ⟨hlm, h''⟩ := dotsB_inj l m r s (by simpa using hl) (fun x hx => h1 x (by simp [hx])) (fun x hx => h2 x (by simp [hx])) h'
    exact ⟨by rw [hde, hlm], h''⟩
theorem textB_inj {l m r s : Bytes} (h : textB l ++ r = textB m ++ s) : l = m ∧ r = s := by
  unfold textB at h
  simp only [List.append_assoc] at h
  obtain ⟨h1, h⟩ := shortB_inj _ _ _ _ h
  exact List.append_inj h h1
theorem zig_inj {a b : Int} (ha : -4398046511104 ≤ a) (hb : -4398046511104 ≤ b) (h : Lib.zigzag a = Lib.zigzag b) : a = b := by
  unfold Lib.zigzag at h
  split at h <;> split at h <;> omega
theorem zigB_inj {a b : Int} (ha : -4398046511104 ≤ a) (hb : -4398046511104 ≤ b) {r s : Bytes} (h : zigB a ++ r = zigB b ++ s) : a = b ∧ r = s := by
  obtain ⟨h1, h2⟩ := shortB_inj _ _ _ _ h
  exact ⟨zig_inj ha hb h1, h2⟩
theorem flags5_inj : ∀ a b c d e a' b' c' d' e' : Bool, flagsN [a, b, c, d, e] = flagsN [a', b', c', d', e'] → a = a' ∧ b = b' ∧ c = c' ∧ d = d' ∧ e = e' := by decide
theorem overFrom_all (d : Dot) : ∀ (p : Option Dot) (l : List Dot), overFrom d p l = true → ∀ x ∈ l, dotOk x = true
  | _, [], _, x, hx => by simp at hx
  | p, y :: r, h, x, hx => by
    unfold overFrom at h
    simp only [Bool.and_eq_true] at h
    rcases List.mem_cons.1 hx with rfl | hx
    · have := h.1
      unfold overOne at this
      simp only [Bool.and_eq_true] at this
      exact this.1
    · exact overFrom_all d _ r h.2 x hx
theorem evB_inj {x y : Ev} (hx : evOk x = true) (hy : evOk y = true) (h : evB x = evB y) : x = y := by
  have fx := evOk_fit hx
  have fy := evOk_fit hy
  unfold evOk at hx hy
  simp only [Bool.and_eq_true, decide_eq_true_eq] at hx hy
  obtain ⟨x1, x2, _, x4, x5⟩ := hx
  obtain ⟨y1, y2, _, y4, y5⟩ := hy
  unfold evB evHead at h
  simp only [List.append_assoc] at h
  obtain ⟨e1, h⟩ := dotB_inj x1 y1 h
  obtain ⟨e2, h⟩ := stampB_inj x2 y2 h
  simp only [List.singleton_append, List.cons.injEq] at h
  obtain ⟨hf, h⟩ := h
  have hl5 : ∀ a b c d e : Bool, flagsN [a, b, c, d, e] < 256 := by decide
  have hf2 := ofNat_inj (hl5 _ _ _ _ _) (hl5 _ _ _ _ _) hf
  obtain ⟨k0, k1, k2, k3, k4⟩ := flags5_inj _ _ _ _ _ _ _ _ _ _ hf2
  obtain ⟨n1, h⟩ := shortB_inj _ _ _ _ h
  unfold overOk at x4 y4
  simp only [Bool.and_eq_true] at x4 y4
  obtain ⟨e6, h⟩ := dotsB_inj _ _ _ _ n1 (overFrom_all _ _ _ x4.2) (overFrom_all _ _ _ y4.2) h
  have hk : x.kind = y.kind := by
    rcases fx.kind with a | a <;> rcases fy.kind with b | b <;> rw [a, b] <;> rw [a, b] at k0 <;> revert k0 <;> decide
  have hkc : x.key = y.key ∧ x.ck = y.ck := by
    rcases fx.kind with a | a
    · have b : y.kind = 1 := hk ▸ a
      obtain ⟨⟨cx, _⟩, ⟨ax, _⟩, ex, _⟩ := fx.item a
      obtain ⟨⟨cy, _⟩, ⟨ay, _⟩, ey, _⟩ := fy.item b
      unfold evTail at h
      rw [if_pos a, if_pos b] at h
      simp only [List.append_assoc] at h
      obtain ⟨t1, h⟩ := textB_inj h
      obtain ⟨t2, h⟩ := textB_inj h
      obtain ⟨t3, h⟩ := textB_inj h
      obtain ⟨t4, h⟩ := textB_inj h
      obtain ⟨t5, h⟩ := zigB_inj (by omega) (by omega) h
      obtain ⟨t6, h⟩ := shortZ_inj cx cy h
      have h7 : shortB x.ck.access.toNat ++ [] = shortB y.ck.access.toNat ++ [] := by simpa using h
      obtain ⟨t7, _⟩ := shortZ_inj ax ay h7
      constructor
      · rw [key_iff, toList_iff, toList_iff, toList_iff]
        exact ⟨bl_inj t1, bl_inj t2, bl_inj t3⟩
      · rw [ck_iff, toList_iff]
        exact ⟨bl_inj t4, k1, k2, k3, k4, t5, t6, t7⟩
    · have b : y.kind = 2 := hk ▸ a
      unfold kindOk at x5 y5
      rw [if_pos a] at x5
      rw [if_pos b] at y5
      simp only [Bool.and_eq_true, decide_eq_true_eq] at x5 y5
      exact ⟨x5.1.1.trans y5.1.1.symm, x5.1.2.trans y5.1.2.symm⟩
  obtain ⟨_, _, _, _, _, _⟩ := x
  obtain ⟨_, _, _, _, _, _⟩ := y
  simp only at e1 e2 e6 hk hkc
  obtain ⟨rfl, rfl⟩ := hkc
  subst e1 e2 e6 hk
  rfl
end Go.Proofs.YtnpdfmpjjomhcaaGreat
