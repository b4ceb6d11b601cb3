/- Which cookies may be: the reference's Right. Conditions: texts of at most 2^30 bytes. -/
import Derived.Test.YtnpdfmpjjomhcaaItem
set_option linter.unusedSimpArgs false
set_option linter.unusedVariables false
set_option linter.unnecessarySimpa false
namespace Go.Proofs.Ytnpdfmpjjomhcaa
open Go.RowKit

theorem plainOk_name (l : Bytes) : plainOk 256 [59, 61] l = (decide (l.length ≤ 256) && (plainR l && decide (findB 61 l = none))) := by
  unfold plainOk plainR
  simp only [List.all_cons, List.all_nil, Bool.and_true]
  cases control l <;> cases decide (trim l = l) <;> simp [Bool.and_comm]
theorem plainOk_value (l : Bytes) : plainOk 1024 [59] l = (decide (l.length ≤ 1024) && plainR l) := by
  unfold plainOk plainR
  simp only [List.all_cons, List.all_nil, Bool.and_true]
  cases control l <;> cases decide (trim l = l) <;> simp [Bool.and_comm]
theorem itemOk_ref (k : Key) (c : Ck) : itemOk k c = (decide (¬ k.name.toList = []) && (decide ((k.name.size : Int) ≤ 256) && (plainR (bl k.name) && (decide (findI (bl k.name) 61 < 0) && (decide ((c.value.size : Int) ≤ 1024) && (plainR (bl c.value) && (canonical (bl k.domain) && (pathOk (bl k.path) && timesOk c)))))))) := by
  unfold itemOk
  rw [size_pos, plainOk_name, plainOk_value, bl_length, bl_length, findI_lt]
  rw [show decide ((k.name.size : Int) ≤ 256) = decide (k.name.size ≤ 256) by rw [Bool.eq_iff_iff]; simp; omega]
  rw [show decide ((c.value.size : Int) ≤ 1024) = decide (c.value.size ≤ 1024) by rw [Bool.eq_iff_iff]; simp; omega]
  simp only [Bool.and_assoc]

end Go.Proofs.Ytnpdfmpjjomhcaa
