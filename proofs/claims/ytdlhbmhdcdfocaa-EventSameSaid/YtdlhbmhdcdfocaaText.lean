/- The writer's texts and whole numbers. Conditions: at most 2^29 bytes. -/
import Derived.Test.YtdlhbmhdcdfocaaFlags
import Derived.Lib.AppendStr
set_option linter.unusedSimpArgs false
set_option linter.unusedVariables false
set_option linter.unnecessarySimpa false
namespace Go.Proofs.Ytdlhbmhdcdfocaa
open Go.RowKit

theorem strCells_eq (s : ByteArray) : Lib.strCells s = byteVals (bl s) := rfl
def textB (l : Bytes) : Bytes := shortB l.length ++ l

set_option maxRecDepth 100000 in
set_option maxHeartbeats 1000000 in
theorem Text_any (S : Nat → Prop) (B : Nat) (l : Bytes) (s : ByteArray) (w : World) (hl : l.length ≤ 268435456) (hs : s.size ≤ 268435456) (h : Wr w S B l) :
    Calls Try.prog 43 #[.pointer (some ⟨B, 0, none⟩), .string s] w (RetWr S B (l ++ textB (bl s)) w) := by
  obtain ⟨i0, hi, hz0, hz1, hz2⟩ := info_parts Try.infoByte
  obtain ⟨hS, v, base, h0, hown, hg⟩ := h
  obtain ⟨a, cap, rfl, hin⟩ := own_bytes hown
  have hc := cell_of_one h0
  have l1 := shortB_len10 s.size (by omega)
  have hP := Lib.hid (Put_any a cap l s.size w (by omega) (by omega) hin)
  have H0 := Lib.hid h0
  clear h0 hown hg hin
  go_enter Try.func43, Try.ntmps43
  go_wp2_with (first
    | (go_at_call 57; (with_reducible refine hP.out.mono ?_); rintro e w1 ⟨v', rfl, hown1, hb⟩; have hzz := hb.size)
    | (at_builtin; go_loud (refine Lib.wpList_append_own_string _ rfl _ _ 42 9 rfl w.heap.size 5 i0 Try.underlying42 Try.underlying9 hi hz0 hz1 hz2 _ _ _ rfl hown1 s rfl (by unfold maxLen; simp; omega) (by simp; omega) (by omega) ?_)))
  intro v2 w2 hown2 hgrow _
  have hb2 := hb.grown hgrow hzz (fun k hk => (hown1.lt k hk).1)
  rw [show l.length + (shortB s.size).length + s.size = (l ++ textB (bl s)).length by simp [textB, bl_length]; omega, show byteVals (l ++ shortB s.size) ++ Lib.strCells s = byteVals (l ++ textB (bl s)) by
    rw [strCells_eq, ← byteVals_append, List.append_assoc]; simp [textB, bl_length]] at hown2
  obtain ⟨a1, cap1, rfl, hin1⟩ := own_bytes hown2
  have hcB := kept hb2 hc
  have hfB := (hb2.frozen (p := ⟨B, 0, none⟩) (lt_of_block H0.out)).trans (free_of_one H0.out)
  have hfin := Lib.hid (wr_store hS H0.out hb2 hown2)
  clear hgrow hown2 hin1
  go_wp2
  go_ret
  have h9 := hfin.out
  rw [List.length_append] at h9
  exact ⟨rfl, h9.1, h9.2⟩
end Go.Proofs.Ytdlhbmhdcdfocaa
