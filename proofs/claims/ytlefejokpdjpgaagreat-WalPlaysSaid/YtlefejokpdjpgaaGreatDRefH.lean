/- The reference's disk: Crash. Conditions: as in the text. -/
import Derived.Test.YtlefejokpdjpgaaGreatDRefD
set_option linter.unusedSimpArgs false
set_option linter.unusedVariables false
set_option linter.unnecessarySimpa false
set_option maxHeartbeats 16000000
set_option maxRecDepth 100000
namespace Go.Proofs.YtlefejokpdjpgaaGreat
open Go.RowKit
abbrev Ks := List (ByteArray × Int)
/-- the last number of a name; 0 -/
def keepOf (ks : Ks) (s : ByteArray) : Int := ks.foldl (fun n p => if p.1 = s then p.2 else n) 0
theorem keepOf_snoc (ks : Ks) (k : Nat) (h : k < ks.length) (s : ByteArray) : keepOf (ks.take (k + 1)) s = if ks[k].1 = s then ks[k].2 else keepOf (ks.take k) s := by
 unfold keepOf
 rw [List.take_succ_eq_append_getElem h, List.foldl_append]
 rfl
def clampK (n : Int) (r : Nat) : Nat := if n < 0 then 0 else min n.toNat r
theorem clampK_le (n : Int) (r : Nat) : clampK n r ≤ r := by unfold clampK; split <;> omega
/-- a file behind a crash -/
def crashF (ks : Ks) (f : DF) : DF := ⟨f.name, f.b.take (f.safe + clampK (keepOf ks f.name) (f.b.length - f.safe)), f.safe + clampK (keepOf ks f.name) (f.b.length - f.safe)⟩
def DS.crash (S : DS) (ks : Ks) : DS := ⟨S.f.map (crashF ks), 0, false⟩
theorem cells_at {w : World} {a : Option Addr} {cs : List Value} (h : CellsIn w a cs) {k : Nat} (hk : k < cs.length) : ∃ A off, a = some ⟨A, off, none⟩ ∧ w.cell? ⟨A, off + k, none⟩ = some cs[k] := by
 rcases h with rfl | ⟨A, off, h1, h2⟩
 ·simp at hk
 ·exact ⟨A, off, h1, h2 k _ (List.getElem?_eq_getElem hk)⟩
theorem own_fr30 {S : Nat → Prop} {w w' : World} {base : Nat} {e : TypeId} {size : Nat} {v : Value} {n : Nat} {xs : List Value} (h : w.ownsRow base e size v n xs) (hf : Fr S w w') (hS : ∀ k, v.ownBlock = some k → ¬ S k) : w'.ownsRow base e size v n xs := by
 refine ⟨h.1, ?_⟩
 have hlt := h.lt
 rcases h.2 with hn | ⟨g, cap, cur, hv, hbs, hg, rest⟩
 ·exact .inl hn
 ·have ho : v.ownBlock = some g := by rw [hv]; rfl
  exact .inr ⟨g, cap, cur, hv, hbs, by rw [hf.block g (hlt g ho).2 (hS g ho)]; exact hg, rest⟩
end Go.Proofs.YtlefejokpdjpgaaGreat
