/- Marks and events, packed: by the program and by the reference. Conditions: marks that may be. -/
import Derived.Test.YtdlmbflhbecggaaGreatPut
import Derived.Test.YtdlmbflhbecggaaGreatLoad
import Derived.Test.YtdlmbflhbecggaaGreatMark
import Derived.Test.YtdlmbflhbecggaaGreatDec
set_option linter.unusedSimpArgs false
set_option linter.unusedVariables false
set_option linter.unnecessarySimpa false
set_option maxHeartbeats 16000000
set_option maxRecDepth 100000
namespace Go.Proofs.YtdlmbflhbecggaaGreat
open Go.RowKit
theorem DotsIn.keep {w w' : World} {a : Option Addr} {l : List Dot} (h : DotsIn w a l) (hk : ∀ A off, a = some ⟨A, off, none⟩ → l ≠ [] → w'.heap[A]? = w.heap[A]?) : DotsIn w' a l := by
 rcases h with h | ⟨A, off, ha, hd⟩
 ·exact Or.inl h
 ·by_cases h0 : l = []
  ·exact Or.inl h0
  ·have hc : ∀ o, w'.cell? ⟨A, o, none⟩ = w.cell? ⟨A, o, none⟩ := fun o => World.cell?_of_block (hk A off ha h0)
   exact Or.inr ⟨A, off, ha, ⟨fun i hi => (hc _).trans (hd.dev i hi), fun i hi => (hc _).trans (hd.inc i hi), fun i hi => (hc _).trans (hd.seq i hi)⟩⟩
structure EvShort (e : Ev) : Prop where
 name : e.key.name.size ≤ 256
 domain : e.key.domain.size ≤ 256
 path : e.key.path.size ≤ 256
 value : e.ck.value.size ≤ 1024
theorem rZ {e : Ev} (h : dN e = true) : EvShort e := by
 have hfit := tY h
 unfold dN at h
 simp only [Bool.and_eq_true, decide_eq_true_eq] at h
 obtain ⟨_, _, _, _, h5⟩ := h
 unfold kindOk at h5
 rcases hfit.kind with hk | hk
 ·rw [if_neg (by omega), if_pos hk] at h5
  unfold fJ kL eu fQ at h5
  simp only [Bool.and_eq_true, decide_eq_true_eq] at h5
  obtain ⟨_, ⟨hn, _⟩, ⟨hv, _⟩, ⟨hd, _⟩, ⟨_, _, hp⟩, _⟩ := h5
  exact ⟨hn, hd, hp, hv⟩
 ·rw [if_pos hk] at h5
  simp only [Bool.and_eq_true, decide_eq_true_eq] at h5
  obtain ⟨⟨h1, h2⟩, _⟩ := h5
  exact ⟨by rw [h1]; exact Nat.zero_le _, by rw [h1]; exact Nat.zero_le _, by rw [h1]; exact Nat.zero_le _, by rw [h2]; exact Nat.zero_le _⟩
theorem EvShort.tiny {e : Ev} (h : EvShort e) : EvTiny e := ⟨by have := h.name; omega, by have := h.domain; omega, by have := h.path; omega, by have := h.value; omega⟩
theorem rY {e : Ev} (h : dN e = true) : EvSmall e := by
 have s := rZ h
 have f := tY h
 exact ⟨by have := s.name; omega, by have := s.domain; omega, by have := s.path; omega, by have := s.value; omega, by have := f.over; omega⟩
def jM (l : List Dot) : Bytes := bg l.length ++ dX l
theorem qV : ∀ (l : List Dot) (p : Option Dot), dh p l = 0 → ∀ x ∈ l, bK x = true
 | [], _, _ => fun x hx => by simp at hx
 | y :: r, p, h => by
   unfold dh at h
   split at h
   ·rename_i h1
    split at h
    ·intro x hx
     rcases List.mem_cons.1 hx with rfl | hx
     ·exact h1
     ·exact qV r _ h x hx
    ·omega
   ·omega
theorem BG {l : List Dot} (h : aU l = 0) : l.length ≤ 4096 ∧ ∀ x ∈ l, bK x = true := by
 unfold aU at h
 split at h
 ·omega
 ·exact ⟨by omega, qV l none h⟩
theorem kept2 {w0 w : World} (hb : Below w0.heap.size w0 w) {p : Addr} {v : Value} (h : w0.cell? p = some v) : w.cell? p = some v := kept hb h
/-- what a list lies on was there in w0, and is none of S -/
def ut (w0 : World) (S : Nat → Prop) (a : Option Addr) (ne : Prop) : Prop := ∀ A off, a = some ⟨A, off, none⟩ → ne → A < w0.heap.size ∧ ¬ S A
theorem Hold.dots {S : Nat → Prop} {w0 w : World} {B : Nat} {l : Bytes} (h : Hold S w0 B w l) {a : Option Addr} {mk : List Dot} (hd : DotsIn w0 a mk) (ho : ut w0 S a (mk ≠ [])) : DotsIn w a mk :=
 hd.keep (fun A off ha hne => h.fr.block A (ho A off ha hne).1 (ho A off ha hne).2)
theorem Hold.alloc {S : Nat → Prop} {w0 w : World} {B : Nat} {l : Bytes} (h : Hold S w0 B w l) (o : Obj) : Hold S w0 B (w.alloc o) l := h.below ((Below.refl _ _).alloc (Nat.le_refl _) o)
theorem JA {S : Nat → Prop} {w0 w : World} {B : Nat} {l : Bytes} (h : Hold S w0 B w l) (a : Option Addr) (cap : Nat) (mk : List Dot) (hl : l.length ≤ 1048576) (hm : aU mk = 0) (hd : DotsIn w0 a mk) (ho : ut w0 S a (mk ≠ [])) :
 Calls Tryz.prog 83 #[.pointer (some ⟨B, 0, none⟩), .slice a mk.length cap] w fun e w' => e = .returned (.int .i64 0) ∧ Hold S w0 B w' (l ++ jM mk) := by
 obtain ⟨hml, _⟩ := BG hm
 have HC0 := fun (W : World) (h : DotsIn W a mk) => lF a cap mk W (by omega) h
 rw [hm] at HC0
 have HC := Lib.hid HC0
 have hsl := bf mk.length (by omega)
 have HN := Lib.hid (fun (W : World) (h : Hold S w0 B W l) => AQ h mk.length (by omega) (by omega))
 have HP := Lib.hid (fun (W : World) (d : Dot) (L : Bytes) (hL : L.length ≤ 268435456) (h : Hold S w0 B W L) => uh h d hL)
 have HE : Hid (l ++ jM mk = l ++ bg mk.length ++ dX mk) := by unfold Hid jM; simp
 obtain ⟨M, hM⟩ : ∃ M, M = l ++ bg mk.length := ⟨_, rfl⟩
 have hMl : M.length ≤ 1048600 := by rw [hM, List.length_append]; omega
 rw [← hM] at HN HE
 clear hM HC0 hm hsl
 go_enter Tryz.func83, Tryz.ntmps83
 go_upto_region 5 with (first
  | (go_at_call 57; (with_reducible refine (HC.out _ (h.dots hd ho)).mono ?_); rintro x w1 ⟨rfl, hb⟩; replace h := h.below hb; clear hb)
  | (go_at_call 35; (with_reducible refine (HN.out _ h).mono ?_); rintro x w2 ⟨rfl, H2⟩))
 clear h
 go_wp2
 go_loopw [20] (fun i wr => ∃ k : Nat, k ≤ mk.length ∧ i = .int .i64 k ∧ Hold S w0 B wr (M ++ dX (mk.take k))) (fun i _ => mk.length - (intOf i).toNat)
 case atStart => exact ⟨0, Nat.zero_le _, rfl, by simpa [dX] using H2⟩
 case round =>
  obtain ⟨k, hk, rfl, H⟩ := hrel
  by_cases hlt : k < mk.length
  ·have hdw := H.dots hd ho
   have hln : (M ++ dX (mk.take k)).length ≤ 268435456 := by
        have := iR (mk.take k)
        rw [List.length_append]; simp at this; omega
   have hsn : mk.take (k + 1) = mk.take k ++ [mk[k]] := List.take_succ_eq_append_getElem hlt
   rcases hdw with h0 | ⟨A, off, rfl, hda⟩
   ·rw [h0] at hlt; simp at hlt
   have e0 := hda.dev k hlt
   have e1 := hda.inc k hlt
   have e2 := hda.seq k hlt
   have HS : Hid (M ++ dX (mk.take (k + 1)) = M ++ dX (mk.take k) ++ oq mk[k]) := by rw [Hid, hsn, su, List.append_assoc]
   clear hsn
   generalize mk[k] = x at e0 e1 e2 HS
   obtain ⟨L, hL⟩ : ∃ L, L = M ++ dX (mk.take k) := ⟨_, rfl⟩
   rw [← hL] at H hln HS
   clear hL H2
   go_upto_region 8 with fail
   refine au (fun W1 hW1 => ?_)
   have H1 : Hold S w0 B W1 L := by rw [hW1.out]; exact H.below (by go_grown)
   have x0 : W1.cell? ⟨wr.heap.size, 0, none⟩ = some (.int .i64 x.a.dev) := by rw [hW1.out]; go_simp
   have x1 : W1.cell? ⟨wr.heap.size, 1, none⟩ = some (.int .i64 x.a.inc) := by rw [hW1.out]; go_simp
   have x2 : W1.cell? ⟨wr.heap.size, 2, none⟩ = some (.int .i64 x.seq) := by rw [hW1.out]; go_simp
   clear hW1 H e0 e1 e2
   go_wp2_with (go_at_call 36; (with_reducible refine (HP.out _ _ _ hln H1).mono ?_); rintro v w3 ⟨rfl, H3⟩)
   go_roundw
   case rel => exact ⟨k + 1, by omega, by go_num, by rw [HS.out]; exact H3⟩
   case measure => simp [intOf] <;> omega
  ·have hke : k = mk.length := by omega
   subst hke
   rw [List.take_length] at H
   go_wp2
   go_ret
   exact ⟨rfl, by rw [HE.out]; exact H⟩
def mW (l : List Ev) : Bytes := l.flatMap evB
theorem Je (l : List Ev) (e : Ev) : mW (l ++ [e]) = mW l ++ evB e := by simp [mW]
theorem F9 {S : Nat → Prop} {w0 w : World} {B : Nat} {l : Bytes} (h : Hold S w0 B w l) (e : Ev) (a : Option Addr) (cap : Nat) (hl : l.length ≤ 1048576) (hok : dN e = true) (hd : DotsIn w0 a e.over) (ho : ut w0 S a (e.over ≠ [])) :
 Calls Tryz.prog 33 #[.pointer (some ⟨B, 0, none⟩), jF e a cap] w (uu S w0 B (l ++ evB e)) := by
 refine (BV (Proofs.YtdlmbflhbecggaaGreat.tight (grow S w0) w) B l e a cap w hl (rY hok) (rZ hok).tiny (h.dots hd ho) ?_ h.wr.tight hok).mono fun x w' k => ⟨k.1, h.after k.2.wr k.2.fr⟩
 intro A off ha hne g
 obtain ⟨h1, h2⟩ := ho A off ha hne
 rcases g.1 with g | g
 ·exact h2 g
 ·omega
end Go.Proofs.YtdlmbflhbecggaaGreat
/- What was packed is read again: plain laws. Conditions: texts as an event that may be has them. -/
namespace Go.Proofs.YtdlmbflhbecggaaGreat
open Go.RowKit
end Go.Proofs.YtdlmbflhbecggaaGreat
