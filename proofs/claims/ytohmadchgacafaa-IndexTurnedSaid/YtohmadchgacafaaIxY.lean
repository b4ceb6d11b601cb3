/- The law's comparison Is; what IndexTurned's list is, plainly. Conditions: as in the text. -/
import Derived.Test.YtohmadchgacafaaIxW
set_option linter.unusedSimpArgs false
set_option linter.unusedVariables false
set_option linter.unnecessarySimpa false
namespace Go.Proofs.Ytohmadchgacafaa
open Go.RowKit
variable {lo : Nat}
theorem mem_byI : ∀ (l : List It), (∀ x ∈ l, ∀ y ∈ l, x.key = y.key → x = y) → ∀ x, x ∈ byI l ↔ x ∈ l := by
 intro l hu x
 refine ⟨mem_byI_sub, ?_⟩
 suffices h : ∀ (n : Nat) (l : List It), l.length = n → (∀ x ∈ l, ∀ y ∈ l, x.key = y.key → x = y) → ∀ x ∈ l, x ∈ byI l from h _ l rfl hu x
 intro n
 induction n with
 | zero => intro l hl _ x hx; rw [List.length_eq_zero_iff.1 hl] at hx; exact (nomatch hx)
 | succ n ih =>
   intro l hl hu x hx
   rcases List.eq_nil_or_concat l with rfl | ⟨l', y, rfl⟩
   ·exact (nomatch hx)
   ·rw [List.concat_eq_append] at *
    rw [byI_snoc, mem_putI]
    by_cases e : x = y
    ·exact Or.inl e
    ·have hx' : x ∈ l' := by
        rcases List.mem_append.1 hx with h | h
        ·exact h
        ·exact absurd (List.mem_singleton.1 h) e
     exact Or.inr ⟨ih l' (by simpa using hl) (fun a ha b hb => hu a (by simp [ha]) b (by simp [hb])) x hx', fun ek => e (hu x hx y (by simp) ek)⟩
theorem byI_ne {l : List It} (h : l ≠ []) : byI l ≠ [] := by
 rcases List.eq_nil_or_concat l with rfl | ⟨l', y, rfl⟩
 ·exact absurd rfl h
 ·rw [List.concat_eq_append, byI_snoc]
  intro e
  have : y ∈ putI (byI l') y := mem_putI.2 (Or.inl rfl)
  rw [e] at this
  exact (nomatch this)
/-- backwards, turned -/
def tIdx (R n i : Nat) : Nat := if i + n < R then i + n else i + n - R
theorem tIdx_mod {R n i : Nat} (hi : i < R) (hn : n < R) : (i + n) % R = tIdx R n i := by
 unfold tIdx
 split
 ·exact Nat.mod_eq_of_lt (by omega)
 ·rw [Nat.mod_eq_sub_mod (by omega), Nat.mod_eq_of_lt (by omega)]
def turn (S : List It) (n c : Nat) : List It := (List.range c).map fun q => S.getD (tIdx S.length n (S.length - 1 - q)) it0
theorem turn_length (S : List It) (n c : Nat) : (turn S n c).length = c := by simp [turn]
theorem turn_succ (S : List It) (n c : Nat) : turn S n (c + 1) = turn S n c ++ [S.getD (tIdx S.length n (S.length - 1 - c)) it0] := by unfold turn; rw [List.range_succ, List.map_append]; rfl
theorem tIdx_lt {R n i : Nat} (hi : i < R) (hn : n < R) : tIdx R n i < R := by unfold tIdx; split <;> omega
theorem turn_mem {S : List It} {n c : Nat} (hn : n < S.length) (hc : c ≤ S.length) {x : It} (hx : x ∈ turn S n c) : x ∈ S := by
 obtain ⟨q, hq, rfl⟩ := List.mem_map.1 hx
 have hq' := List.mem_range.1 hq
 have h1 := tIdx_lt (i := S.length - 1 - q) (by omega) hn
 rw [List.getD_eq_getElem?_getD, List.getElem?_eq_getElem h1]
 exact List.getElem_mem h1
theorem turn_all {S : List It} {n : Nat} (hn : n < S.length) {x : It} (hx : x ∈ S) : x ∈ turn S n S.length := by
 obtain ⟨k, hk, rfl⟩ := List.getElem_of_mem hx
 unfold turn
 by_cases h : n ≤ k
 ·refine List.mem_map.2 ⟨S.length - 1 - (k - n), List.mem_range.2 (by omega), ?_⟩
  have e : tIdx S.length n (S.length - 1 - (S.length - 1 - (k - n))) = k := by unfold tIdx; split <;> omega
  rw [e, List.getD_eq_getElem?_getD, List.getElem?_eq_getElem hk]
  rfl
 ·refine List.mem_map.2 ⟨S.length - 1 - (k + S.length - n), List.mem_range.2 (by omega), ?_⟩
  have e : tIdx S.length n (S.length - 1 - (S.length - 1 - (k + S.length - n))) = k := by unfold tIdx; split <;> omega
  rw [e, List.getD_eq_getElem?_getD, List.getElem?_eq_getElem hk]
  rfl
theorem turn_byI {S : List It} (hs : SrtI S) {n : Nat} (hn : n < S.length) : byI (turn S n S.length) = S := by
 refine srtI_ext (byI_srt _) hs fun x => ?_
 rw [mem_byI _ fun a ha b hb e => srtI_uniq hs (turn_mem hn (Nat.le_refl _) ha) (turn_mem hn (Nat.le_refl _) hb) e]
 exact ⟨turn_mem hn (Nat.le_refl _), turn_all hn⟩
theorem turn_get {S : List It} {n c q : Nat} (hq : q < (turn S n c).length) : (turn S n c)[q] = S.getD (tIdx S.length n (S.length - 1 - q)) it0 := by
 simp only [turn, List.getElem_map, List.getElem_range]
/-- the item at c is none of those ahead of it -/
theorem turn_fresh {S : List It} (hs : SrtI S) {n c : Nat} (hn : n < S.length) (hc : c < (turn S n S.length).length) : ∀ y ∈ (turn S n S.length).take c, (turn S n S.length)[c].key ≠ y.key := by
 intro y hy e
 have hcl : c < S.length := by rw [turn_length] at hc; exact hc
 obtain ⟨q, hq, rfl⟩ := List.getElem_of_mem hy
 have hqc : q < c := by rw [List.length_take] at hq; omega
 rw [List.getElem_take, turn_get, turn_get] at e
 have h1 := tIdx_lt (i := S.length - 1 - c) (n := n) (R := S.length) (by omega) hn
 have h2 := tIdx_lt (i := S.length - 1 - q) (n := n) (R := S.length) (by omega) hn
 rw [List.getD_eq_getElem?_getD, List.getElem?_eq_getElem h1, List.getD_eq_getElem?_getD, List.getElem?_eq_getElem h2] at e
 simp only [Option.getD_some] at e
 have h3 := srtI_uniq hs (List.getElem_mem h1) (List.getElem_mem h2) e
 have h4 := (List.getElem_inj (srtI_nodup hs)).1 h3
 unfold tIdx at h4
 split at h4 <;> split at h4 <;> omega
theorem cntN_nil : cntN [] = 0 := (cntN_eq (l := []) (us := []) List.nodup_nil fun _ => Iff.rfl).symm
set_option maxRecDepth 100000 in
set_option maxHeartbeats 2000000 in
theorem is_true {w : World} {x K : Nat} {S : List It} (h : IxAt lo w x S K) (hg : Good S) (hK : K ≤ 536870912) (a : Option Addr) (cap : Nat) (hin : ItsIn w a S) :
 Calls Try.prog 20 #[ndVal x, .slice a S.length cap] w fun e w' => e = .returned (.bool true) ∧ Below w.heap.size w w' := by
 have hlen := hg.len
 have HI := Lib.hid (items_s h hg hK)
 have HS := Lib.hid (fun (u : Option Addr) (cu : Nat) (X : World) (hu : ItsIn X u S) (hv : ItsIn X a S) => (decide_eq_true (rfl : S = S) ▸ rSameI_any u a cu cap S S X (by omega) (by omega) hu hv : Calls Try.prog 10 #[.slice u S.length cu, .slice a S.length cap] X fun e w' => e = .returned (.bool true) ∧ Below X.heap.size X w'))
 have HL := Lib.hid (fun (X : World) (hX : Below w.heap.size w X) => len_s (h.kept hX))
 have HN := Lib.hid (fun (X : World) (hX : Below w.heap.size w X) => nodes_c (h.kept hX) hg hK)
 have HR := Lib.hid (fun (X : World) (hX : Below w.heap.size w X) => rNodes45_any a cap S X (by omega) hg.dom (CellsIn.kept hin hX))
 clear h hg
 go_enter Try.func20, Try.ntmps20
 go_wp2_with (first
  | (go_at_call 24; (refine HI.out.mono ?_); rintro e w1 ⟨v1, rfl, hown1, hb1⟩; obtain ⟨a1, c1, rfl, hin1, _⟩ := own_cellsIn hown1; clear hown1)
  | (go_at_call 10; (with_reducible refine (HS.out _ _ _ hin1 (CellsIn.kept hin hb1)).mono ?_); rintro e w2 ⟨rfl, hb2⟩; have hb12 := below2 hb1 hb2)
  | (go_at_call 22; (refine (HL.out _ hb12).mono ?_); rintro e w3 ⟨rfl, rfl⟩)
  | (go_at_call 23; (refine (HN.out _ hb12).mono ?_); rintro e w4 ⟨rfl, hb4⟩; have hb14 := below2 hb12 hb4)
  | (go_at_call 36; (refine (HR.out _ hb14).mono ?_); rintro e w5 ⟨rfl, hb5⟩))
 all_goals
  go_ret
  exact ⟨rfl, below2 hb14 hb5⟩
end Go.Proofs.Ytohmadchgacafaa
