/- Marks and events, packed: by the program and by the reference. Conditions: marks that may be. -/
import Derived.Test.YtdlmbflhbecggaaGreatPut
import Derived.Test.YtdlmbflhbecggaaGreatLoad
import Derived.Test.YtdlmbflhbecggaaGreatMark
set_option linter.unusedSimpArgs false
set_option linter.unusedVariables false
set_option linter.unnecessarySimpa false
set_option maxHeartbeats 16000000
set_option maxRecDepth 100000
namespace Go.Proofs.YtdlmbflhbecggaaGreat
open Go.RowKit
theorem DotsIn.keep {w w' : World} {a : Option Addr} {l : List Dot} (h : DotsIn w a l) (hk : ∀ A off, a = some ⟨A, off, none⟩ → l ≠ [] → w'.heap[A]? = w.heap[A]?) : DotsIn w' a l := by
 rcases h with h | ⟨A, off, ha, hd⟩
 ·exact Or.inl h
 ·by_cases h0 : l = []
  ·exact Or.inl h0
  ·have hc : ∀ o, w'.cell? ⟨A, o, none⟩ = w.cell? ⟨A, o, none⟩ := fun o => World.cell?_of_block (hk A off ha h0)
   exact Or.inr ⟨A, off, ha, ⟨fun i hi => (hc _).trans (hd.dev i hi), fun i hi => (hc _).trans (hd.inc i hi), fun i hi => (hc _).trans (hd.seq i hi)⟩⟩
structure EvShort (e : Ev) : Prop where
 name : e.key.name.size ≤ 256
 domain : e.key.domain.size ≤ 256
 path : e.key.path.size ≤ 256
 value : e.ck.value.size ≤ 1024
theorem mP {e : Ev} (h : cu e = true) : EvShort e := by
 have hfit := oI h
 unfold cu at h
 simp only [Bool.and_eq_true, decide_eq_true_eq] at h
 obtain ⟨_, _, _, _, h5⟩ := h
 unfold kindOk at h5
 rcases hfit.kind with hk | hk
 ·rw [if_neg (by omega), if_pos hk] at h5
  unfold gp kH fC fZ at h5
  simp only [Bool.and_eq_true, decide_eq_true_eq] at h5
  obtain ⟨_, ⟨hn, _⟩, ⟨hv, _⟩, ⟨hd, _⟩, ⟨_, _, hp⟩, _⟩ := h5
  exact ⟨hn, hd, hp, hv⟩
 ·rw [if_pos hk] at h5
  simp only [Bool.and_eq_true, decide_eq_true_eq] at h5
  obtain ⟨⟨h1, h2⟩, _⟩ := h5
  exact ⟨by rw [h1]; exact Nat.zero_le _, by rw [h1]; exact Nat.zero_le _, by rw [h1]; exact Nat.zero_le _, by rw [h2]; exact Nat.zero_le _⟩
theorem EvShort.tiny {e : Ev} (h : EvShort e) : EvTiny e := ⟨by have := h.name; omega, by have := h.domain; omega, by have := h.path; omega, by have := h.value; omega⟩
theorem sS {e : Ev} (h : cu e = true) : EvSmall e := by
 have s := mP h
 have f := oI h
 exact ⟨by have := s.name; omega, by have := s.domain; omega, by have := s.path; omega, by have := s.value; omega, by have := f.over; omega⟩
def eX (l : List Dot) : Bytes := aN l.length ++ bU l
theorem rQ : ∀ (l : List Dot) (p : Option Dot), dY p l = 0 → ∀ x ∈ l, bu x = true
 | [], _, _ => fun x hx => by simp at hx
 | y :: r, p, h => by
   unfold dY at h
   split at h
   ·rename_i h1
    split at h
    ·intro x hx
     rcases List.mem_cons.1 hx with rfl | hx
     ·exact h1
     ·exact rQ r _ h x hx
    ·omega
   ·omega
theorem lZ {l : List Dot} (h : bf l = 0) : l.length ≤ 4096 ∧ ∀ x ∈ l, bu x = true := by
 unfold bf at h
 split at h
 ·omega
 ·exact ⟨by omega, rQ l none h⟩
theorem kept2 {w0 w : World} (hb : Below w0.heap.size w0 w) {p : Addr} {v : Value} (h : w0.cell? p = some v) : w.cell? p = some v := kept hb h
/-- what a list lies on was there in w0, and is none of S -/
def OldAt (w0 : World) (S : Nat → Prop) (a : Option Addr) (ne : Prop) : Prop := ∀ A off, a = some ⟨A, off, none⟩ → ne → A < w0.heap.size ∧ ¬ S A
theorem Hold.dots {S : Nat → Prop} {w0 w : World} {B : Nat} {l : Bytes} (h : Hold S w0 B w l) {a : Option Addr} {mk : List Dot} (hd : DotsIn w0 a mk) (ho : OldAt w0 S a (mk ≠ [])) : DotsIn w a mk :=
 hd.keep (fun A off ha hne => h.fr.block A (ho A off ha hne).1 (ho A off ha hne).2)
theorem Hold.alloc {S : Nat → Prop} {w0 w : World} {B : Nat} {l : Bytes} (h : Hold S w0 B w l) (o : Obj) : Hold S w0 B (w.alloc o) l := h.below ((Below.refl _ _).alloc (Nat.le_refl _) o)
theorem Lh {S : Nat → Prop} {w0 w : World} {B : Nat} {l : Bytes} (h : Hold S w0 B w l) (a : Option Addr) (cap : Nat) (mk : List Dot) (hl : l.length ≤ 1048576) (hm : bf mk = 0) (hd : DotsIn w0 a mk) (ho : OldAt w0 S a (mk ≠ [])) :
 Calls Tryz.prog 83 #[.pointer (some ⟨B, 0, none⟩), .slice a mk.length cap] w fun e w' => e = .returned (.int .i64 0) ∧ Hold S w0 B w' (l ++ eX mk) := by
 obtain ⟨hml, _⟩ := lZ hm
 have HC0 := fun (W : World) (h : DotsIn W a mk) => lS a cap mk W (by omega) h
 rw [hm] at HC0
 have HC := Lib.hid HC0
 have hsl := aV mk.length (by omega)
 have HN := Lib.hid (fun (W : World) (h : Hold S w0 B W l) => Cc h mk.length (by omega) (by omega))
 have HP := Lib.hid (fun (W : World) (d : Dot) (L : Bytes) (hL : L.length ≤ 268435456) (h : Hold S w0 B W L) => uD h d hL)
 have HE : Hid (l ++ eX mk = l ++ aN mk.length ++ bU mk) := by unfold Hid eX; simp
 obtain ⟨M, hM⟩ : ∃ M, M = l ++ aN mk.length := ⟨_, rfl⟩
 have hMl : M.length ≤ 1048600 := by rw [hM, List.length_append]; omega
 rw [← hM] at HN HE
 clear hM HC0 hm hsl
 go_enter Tryz.func83, Tryz.ntmps83
 go_upto_region 5 with (first
  | (go_at_call 57; (with_reducible refine (HC.out _ (h.dots hd ho)).mono ?_); rintro x w1 ⟨rfl, hb⟩; replace h := h.below hb; clear hb)
  | (go_at_call 35; (with_reducible refine (HN.out _ h).mono ?_); rintro x w2 ⟨rfl, H2⟩))
 clear h
 go_wp2
 go_loopw [20] (fun i wr => ∃ k : Nat, k ≤ mk.length ∧ i = .int .i64 k ∧ Hold S w0 B wr (M ++ bU (mk.take k))) (fun i _ => mk.length - (intOf i).toNat)
 case atStart => exact ⟨0, Nat.zero_le _, rfl, by simpa [bU] using H2⟩
 case round =>
  obtain ⟨k, hk, rfl, H⟩ := hrel
  by_cases hlt : k < mk.length
  ·have hdw := H.dots hd ho
   have hln : (M ++ bU (mk.take k)).length ≤ 268435456 := by
        have := eQ (mk.take k)
        rw [List.length_append]; simp at this; omega
   have hsn : mk.take (k + 1) = mk.take k ++ [mk[k]] := List.take_succ_eq_append_getElem hlt
   rcases hdw with h0 | ⟨A, off, rfl, hda⟩
   ·rw [h0] at hlt; simp at hlt
   have e0 := hda.dev k hlt
   have e1 := hda.inc k hlt
   have e2 := hda.seq k hlt
   have HS : Hid (M ++ bU (mk.take (k + 1)) = M ++ bU (mk.take k) ++ jy mk[k]) := by rw [Hid, hsn, kY, List.append_assoc]
   clear hsn
   generalize mk[k] = x at e0 e1 e2 HS
   obtain ⟨L, hL⟩ : ∃ L, L = M ++ bU (mk.take k) := ⟨_, rfl⟩
   rw [← hL] at H hln HS
   clear hL H2
   go_upto_region 8 with fail
   refine aX (fun W1 hW1 => ?_)
   have H1 : Hold S w0 B W1 L := by rw [hW1.out]; exact H.below (by go_grown)
   refine y19 ?_
   intro x0 x1 x2
   clear hW1 H e0 e1 e2
   go_wp2_with (go_at_call 36; (with_reducible refine (HP.out _ _ _ hln H1).mono ?_); rintro v w3 ⟨rfl, H3⟩)
   go_roundw
   case rel => exact ⟨k + 1, by omega, by go_num, by rw [HS.out]; exact H3⟩
   case measure => exact z67
  ·have hke : k = mk.length := by omega
   subst hke
   rw [List.take_length] at H
   go_wp2
   go_ret
   exact ⟨rfl, by rw [HE.out]; exact H⟩
def dZ (l : List Ev) : Bytes := l.flatMap evB
theorem BN (l : List Ev) (e : Ev) : dZ (l ++ [e]) = dZ l ++ evB e := by simp [dZ]
theorem OldAt.later {w0 w1 : World} {S T : Nat → Prop} {a : Option Addr} {ne : Prop} (h : OldAt w0 S a ne) (hs : w0.heap.size ≤ w1.heap.size) (ht : ∀ k, k < w0.heap.size → ¬ S k → ¬ T k) : OldAt w1 T a ne :=
 fun A off ha hn => ⟨by have := (h A off ha hn).1; omega, ht A (h A off ha hn).1 (h A off ha hn).2⟩
theorem zU {S : Nat → Prop} {w0 w : World} {B : Nat} {l : Bytes} (h : Hold S w0 B w l) (e : Ev) (a : Option Addr) (cap : Nat) (hl : l.length ≤ 1048576) (hok : cu e = true) (hd : DotsIn w0 a e.over) (ho : OldAt w0 S a (e.over ≠ [])) :
 Calls Tryz.prog 33 #[.pointer (some ⟨B, 0, none⟩), ja e a cap] w (qK S w0 B (l ++ evB e)) := by
 refine (DI (Proofs.YtdlmbflhbecggaaGreat.tight (grow S w0) w) B l e a cap w hl (sS hok) (mP hok).tiny (h.dots hd ho) ?_ h.wr.tight hok).mono fun x w' k => ⟨k.1, h.after k.2.wr k.2.fr⟩
 intro A off ha hne g
 obtain ⟨h1, h2⟩ := ho A off ha hne
 rcases g.1 with g | g
 ·exact h2 g
 ·omega
end Go.Proofs.YtdlmbflhbecggaaGreat
