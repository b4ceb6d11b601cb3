/- The writer's flags. Conditions: at most 8 flags, at most 2^29 bytes. -/
import Derived.Test.YtdlhbmhdcdfocaaWriter
set_option linter.unusedSimpArgs false
set_option linter.unusedVariables false
set_option linter.unnecessarySimpa false
namespace Go.Proofs.Ytdlhbmhdcdfocaa
open Go.RowKit

def flagsN : List Bool → Nat
  | [] => 0
  | b :: r => (if b then 1 else 0) + 2 * flagsN r
def BoolsAt (w : World) (b : Nat) (l : List Bool) : Prop := ∀ j (h : j < l.length), w.cell? ⟨b, j, none⟩ = some (.bool l[j])
theorem flagsN_lt : ∀ l : List Bool, flagsN l < 2 ^ l.length
  | [] => by simp [flagsN]
  | b :: r => by
    have := flagsN_lt r
    simp only [flagsN, List.length_cons, Nat.pow_succ]
    split <;> omega
theorem flagsN_snoc : ∀ (l : List Bool) (b : Bool), flagsN (l ++ [b]) = flagsN l + (if b then 2 ^ l.length else 0)
  | [], b => by cases b <;> simp [flagsN]
  | a :: r, b => by
    simp only [List.cons_append, flagsN, flagsN_snoc r b, List.length_cons, Nat.pow_succ]
    cases b <;> simp <;> omega

theorem orpow_fin : ∀ k : Fin 8, ∀ c : Fin 256, c.val < 2 ^ k.val → bits BinOp.or IntKind.u8 ((c.val : Nat) : Int) (2 ^ k.val % 256) = ((c.val + 2 ^ k.val : Nat) : Int) := by decide +kernel
theorem orpow (k c : Nat) (hk : k < 8) (hc : c < 2 ^ k) : bits BinOp.or IntKind.u8 (c : Int) (2 ^ k % 256) = ((c + 2 ^ k : Nat) : Int) := by
  have h2 : 2 ^ k ≤ 2 ^ 7 := Nat.pow_le_pow_right (by omega) (by omega)
  exact orpow_fin ⟨k, hk⟩ ⟨c, by omega⟩ hc
theorem app_frame {w w2 : World} {S : Nat → Prop} {B : Nat} {v v0 : Value} {o : Obj} {t : TypeId} (h0 : w.heap[B]? = some (.cells #[v0] t (0, 0)))
    (hg : ∀ g, v.ownBlock = some g → S g ∧ g ≠ B) (hgrow : (w.alloc o).grownBy w2 v.ownBlock) : Fr S w w2 ∧ w2.heap[B]? = some (.cells #[v0] t (0, 0)) := by
  have hb : ∀ k, k < w.heap.size → some k ≠ v.ownBlock → w2.heap[k]? = w.heap[k]? := fun k hk hne =>
    (hgrow.block k (by simp; omega) hne).trans (Below.heap_alloc w o k hk)
  refine ⟨⟨hgrow.os, hgrow.tape, hgrow.output, ?_, fun k hk hs => hb k hk (fun e => hs (hg k e.symm).1)⟩, ?_⟩
  · have := hgrow.size; simp at this; omega
  · rw [hb B (lt_of_block h0) (fun e => (hg B e.symm).2 rfl)]; exact h0
theorem own_rebase {w : World} {base : Nat} {e : TypeId} {size : Nat} {v : Value} {n : Nat} {xs : List Value} (h : w.ownsRow base e size v n xs) : ∃ b, b ≤ w.heap.size ∧ w.ownsRow b e size v n xs := by
  rcases h.2 with ⟨rfl, hn⟩ | ⟨g, cap, cur, rfl, hbs, hgg, rest⟩
  · exact ⟨0, Nat.zero_le _, h.1, .inl ⟨rfl, hn⟩⟩
  · exact ⟨g, Nat.le_of_lt (lt_of_block hgg), h.1, .inr ⟨g, cap, cur, rfl, Nat.le_refl _, hgg, rest⟩⟩
theorem wr_store2 {w w2 : World} {S : Nat → Prop} {B base n : Nat} {v0 v : Value} {l : Bytes} (hS : S B) (h2 : w2.heap[B]? = some (.cells #[v0] 55 (0, 0))) (hf : Fr S w w2)
    (hn : n = l.length) (hown : w2.ownsRow base 5 1 v n (byteVals l)) (hg : ∀ g, v.ownBlock = some g → grow S w g ∧ g ≠ B) :
    Wr (w2.setCell ⟨B, 0, none⟩ v) (grow S w) B l ∧ Fr S w (w2.setCell ⟨B, 0, none⟩ v) := by
  subst hn
  refine ⟨⟨Or.inl hS, v, base, one_setCell h2, ownsRow_setCell_other hown (fun e => (hg B e).2 rfl) v, hg⟩, ⟨hf.os, hf.tape, hf.output, ?_, ?_⟩⟩
  · simp only [World.setCell, Array.size_modify]; exact hf.size
  · intro k hk hs
    rw [Below.heap_setCell _ _ _ _ (fun e => hs (by rw [e]; exact hS))]
    exact hf.block k hk hs

set_option maxRecDepth 100000 in
set_option maxHeartbeats 2000000 in
theorem Flags_any (S : Nat → Prop) (B : Nat) (l : Bytes) (A : Nat) (fs : List Bool) (w : World) (hl : l.length ≤ 536870912) (hf : fs.length ≤ 8) (h : Wr w S B l) (hb : BoolsAt w A fs) :
    Calls Try.prog 41 #[.pointer (some ⟨B, 0, none⟩), .slice (some ⟨A, 0, none⟩) fs.length fs.length] w (RetWr S B (l ++ [UInt8.ofNat (flagsN fs)]) w) := by
  obtain ⟨i0, hi, hz0, hz1, hz2⟩ := info_parts Try.infoByte
  obtain ⟨hS, v, base0, h0, hown0, hg⟩ := h
  obtain ⟨base, hbase, hown⟩ := own_rebase hown0
  obtain ⟨a, cap, rfl, hin⟩ := own_bytes hown0
  have hc := cell_of_one h0
  have hfz := free_of_one h0
  have H0 := Lib.hid h0
  have HG := Lib.hid hg
  clear h0 hown0 hg hin
  go_enter Try.func41, Try.ntmps41
  go_wp2
  go_loop [5, 6, 7, 12] (fun c _ _ i => ∃ k : Nat, k ≤ fs.length ∧ i = .int .i64 k ∧ c = .int .u8 (flagsN (fs.take k))) (fun _ _ _ i => fs.length - (intOf i).toNat)
  case atStart => exact ⟨0, Nat.zero_le _, rfl, by simp [flagsN]⟩
  case round =>
    obtain ⟨k, hk, rfl, rfl⟩ := hrel
    by_cases hlt : k < fs.length
    · have hcell := hb k hlt
      have hk8 : (k : Int) < 8 := by omega
      have hlt2 := flagsN_lt (fs.take k)
      rw [List.length_take, Nat.min_eq_left hk] at hlt2
      have hsn := flagsN_snoc (fs.take k) fs[k]
      rw [← List.take_succ_eq_append_getElem hlt, List.length_take, Nat.min_eq_left hk] at hsn
      have hor := orpow k (flagsN (fs.take k)) (by omega) hlt2
      cases hq : fs[k] with
      | false =>
        rw [hq] at hcell hsn
        have HS := Lib.hid hsn
        clear hsn hor hlt2
        go_wp2
        go_round
        case rel => exact ⟨k + 1, by omega, by go_num, by rw [HS.out]; simp⟩
        case measure => simp [intOf] <;> omega
      | true =>
        rw [hq] at hcell hsn
        have HS := Lib.hid hsn
        have HO := Lib.hid hor
        clear hsn hor hlt2
        go_wp2
        go_round
        case rel => exact ⟨k + 1, by omega, by go_num, by rw [HO.out, HS.out]; simp⟩
        case measure => simp [intOf] <;> omega
    · have htk : Hid (fs.take k = fs) := List.take_of_length_le (by omega)
      rw [htk.out]
      have hfl : flagsN fs < 256 := by have h9 := flagsN_lt fs; have h2 : 2 ^ fs.length ≤ 2 ^ 8 := Nat.pow_le_pow_right (by omega) hf; omega
      go_wp2_with (at_builtin; go_loud (refine wpList_append_own_at _ rfl _ _ 42 rfl base 5 i0 (.int .u8 0) 1 1 Try.underlying42 hi hz0 hz1 hz2 rfl (by decide) _ _ _ rfl (hown.alloc _) ⟨w.heap.size, 0, none⟩ 1 1 [.int .u8 (flagsN fs : Int)] rfl rfl (cell_one_new _ _ _) (by simp [Value.oneCell']) (by unfold maxLen; omega) (by omega) (by simp; omega) ?_))
      intro v' w2 hown2 hgrow _ hat
      obtain ⟨hF, hB2⟩ := app_frame H0.out HG.out hgrow
      rw [show (l.length + 1) = (l ++ [UInt8.ofNat (flagsN fs)]).length by simp, show byteVals l ++ [Value.int .u8 (flagsN fs : Int)] = byteVals (l ++ [UInt8.ofNat (flagsN fs)]) by
        rw [byteVals_append]; congr 1; simp only [byteVals, List.map_cons, List.map_nil, UInt8.toNat_ofNat']; congr 3; omega] at hown2
      obtain ⟨a1, cap1, rfl, hin1⟩ := own_bytes hown2
      have hcB := cell_of_one hB2
      have hfB := free_of_one hB2
      have hgg : Hid (∀ g, (Value.slice a1 (l ++ [UInt8.ofNat (flagsN fs)]).length cap1).ownBlock = some g → grow S w g ∧ g ≠ B) := fun g e => by
        have hBl := lt_of_block H0.out
        rcases hat with hat | hat
        · rw [hat] at e; exact ⟨Or.inl (HG.out g e).1, (HG.out g e).2⟩
        · rw [hat] at e
          have : g = w.heap.size + 1 := by simpa using e.symm
          exact ⟨Or.inr (by omega), by omega⟩
      have hfin := Lib.hid (wr_store2 hS hB2 hF rfl hown2 hgg.out)
      clear hat hgrow hown2 hin1
      go_wp2
      go_ret
      have h9 := hfin.out
      simp only [List.length_append, List.length_cons, List.length_nil, Nat.zero_add] at h9
      exact ⟨rfl, h9.1, h9.2⟩
end Go.Proofs.Ytdlhbmhdcdfocaa
