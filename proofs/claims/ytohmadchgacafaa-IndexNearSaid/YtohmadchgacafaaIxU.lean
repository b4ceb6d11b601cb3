/- The law IndexNear. Conditions: as in the text. -/
import Derived.Test.YtohmadchgacafaaIxT
import Derived.Test.YtohmadchgacafaaIxV
set_option linter.unusedSimpArgs false
set_option linter.unusedVariables false
set_option linter.unnecessarySimpa false
namespace Go.Proofs.Ytohmadchgacafaa
open Go.RowKit
set_option maxRecDepth 100000 in
set_option maxHeartbeats 4000000 in
theorem lawNear_any (a : Option Addr) (cap : Nat) (l : List It) (s : ByteArray) (w : World) (hin : ItsIn w a l) (hl : l.length ≤ maxLen) (hok : ∀ y ∈ l, ItOk y) (hss : s.size ≤ maxLen) :
 Calls Try.prog 3 #[.slice a l.length cap, .string s] w fun e w' => e = .returned (.bool true) ∧ Below w.heap.size w w' := by
 have HLI := Lib.hid (lightI_any a cap l w hin hl (fun y hy => ⟨(hok y hy).name, (hok y hy).domain, (hok y hy).path, (hok y hy).value⟩))
 have HAW := Lib.hid (fun X => awake45_any X)
 unfold maxLen at hss hl
 clear hok
 by_cases hli : lightI l = true
 case neg =>
  rw [Bool.eq_false_iff.2 hli] at HLI
  clear hli
  go_enter Try.func3, Try.ntmps3
  go_wp2_with (first
   | (go_at_call 6; (refine HLI.out.mono ?_); rintro e w1 ⟨rfl, rfl⟩)
   | (go_at_call 7; (refine (HAW.out _).mono ?_); rintro e w2 ⟨rfl, hb2⟩))
  all_goals
   go_ret
   exact ⟨rfl, hb2⟩
 case pos =>
 have HF := Lib.hid (light_facts hli)
 rw [hli] at HLI
 clear hli
 by_cases h300 : s.size ≤ 300
 case neg =>
  go_enter Try.func3, Try.ntmps3
  go_wp2_with (first
   | (go_at_call 6; (refine HLI.out.mono ?_); rintro e w1 ⟨rfl, rfl⟩)
   | (go_at_call 7; (refine (HAW.out _).mono ?_); rintro e w2 ⟨rfl, hb2⟩))
  all_goals
   go_ret
   exact ⟨rfl, hb2⟩
 case pos =>
 have h40 := HF.out.1
 have hbl := byI_length l
 have HG : Hid (Good (byI l)) := ⟨byI_srt _, by omega, fun y hy => (HF.out.2 y (mem_byI_sub hy)).2.1⟩
 have HNW := Lib.hid (new_x (lo := w.heap.size) a cap l w (Nat.le_refl _) hin (by omega) (fun y hy => (HF.out.2 y hy).2.1))
 have HDL : Hid (∀ y ∈ byI l, y.key.domain.size ≤ 1073741823) := fun y hy => by have := (HF.out.2 y (mem_byI_sub hy)).2.1; omega
 go_enter Try.func3, Try.ntmps3
 go_upto_region 4 with (first
  | (go_at_call 6; (refine HLI.out.mono ?_); rintro e w0 ⟨rfl, rfl⟩)
  | (go_at_call 8; (refine HNW.out.mono ?_); rintro e w1 ⟨x, rfl, hI, hf⟩))
 have hb1 : Below w.heap.size w w1 := hf.below (Nat.le_refl _) fun q hq => hq.1
 have HBK := Lib.hid (rByKeys_any a cap l w1 (by omega) (CellsIn.kept hin hb1))
 have HD := Lib.hid (fun (X : World) (hX : Below w1.heap.size w1 X) => domain_s (hI.kept hX) HG.out s (by omega))
 have HN := Lib.hid (fun (X : World) (hX : Below w1.heap.size w1 X) => near_s (hI.kept hX) HG.out s (by omega))
 clear hI hf HNW hin HLI
 have HRD := Lib.hid (fun (b : Option Addr) (c : Nat) (X : World) (hX : ItsIn X b (byI l)) => rDomain_any s b c (byI l) X (by omega) hX)
 have HRN := Lib.hid (fun (b : Option Addr) (c : Nat) (X : World) (hX : ItsIn X b (byI l)) => rNear_any s b c (byI l) X (by omega) hX (by omega) HDL.out)
 have hd1 : (domI (byI l) s).length ≤ 40 := Nat.le_trans (List.length_filter_le _ _) (by omega)
 have hd2 : (nearI (byI l) s).length ≤ 40 := Nat.le_trans (List.length_filter_le _ _) (by omega)
 have HS := Lib.hid (fun (m : List It) (hm : m.length ≤ 40) (u v : Option Addr) (cu cv : Nat) (X : World) (hu : ItsIn X u m) (hv : ItsIn X v m) => (decide_eq_true (rfl : m = m) ▸ rSameI_any u v cu cv m m X (by omega) (by omega) hu hv : Calls Try.prog 10 #[.slice u m.length cu, .slice v m.length cv] X fun e w' => e = .returned (.bool true) ∧ Below X.heap.size X w'))
 generalize hdm : domI (byI l) s = dm at *
 generalize hnm : nearI (byI l) s = nm at *
 clear hdm hnm
 go_upto_region 5 with (go_at_call 9; (refine HBK.out.mono ?_); rintro e w2 ⟨v2, rfl, hown2, hb2⟩; obtain ⟨a2, c2, rfl, hW2, _⟩ := own_cellsIn hown2)
 clear HBK hown2
 go_wp2_with (first
  | (go_at_call 11; (refine (HD.out _ hb2).mono ?_); rintro e w3 ⟨v3, rfl, hown3, hb3⟩; obtain ⟨a3, c3, rfl, hW3, _⟩ := own_cellsIn hown3; clear hown3)
  | (go_at_call 12; (refine (HRD.out _ _ _ (CellsIn.kept hW2 hb3)).mono ?_); rintro e w4 ⟨v4, rfl, hown4, hb4⟩; obtain ⟨a4, c4, rfl, hW4, _⟩ := own_cellsIn hown4; clear hown4)
  | (go_at_call 10; (with_reducible refine (HS.out dm hd1 _ _ _ _ _ (CellsIn.kept hW3 hb4) hW4).mono ?_); rintro e w5 ⟨rfl, hb5⟩; have hb25 := below2 hb3 (below2 hb4 hb5))
  | (go_at_call 13; (refine (HN.out _ (below2 hb2 hb25)).mono ?_); rintro e w6 ⟨v6, rfl, hown6, hb6⟩; obtain ⟨a6, c6, rfl, hW6, _⟩ := own_cellsIn hown6; clear hown6)
  | (go_at_call 14; (refine (HRN.out _ _ _ (CellsIn.kept hW2 (below2 hb25 hb6))).mono ?_); rintro e w7 ⟨v7, rfl, hown7, hb7⟩; obtain ⟨a7, c7, rfl, hW7, _⟩ := own_cellsIn hown7; clear hown7)
  | (go_at_call 10; (with_reducible refine (HS.out nm hd2 _ _ _ _ _ (CellsIn.kept hW6 hb7) hW7).mono ?_); rintro e w8 ⟨rfl, hb8⟩)
  | (go_at_call 7; (refine (HAW.out _).mono ?_); rintro e w9 ⟨rfl, hb9⟩))
 all_goals
  go_ret
  exact ⟨rfl, below2 hb1 (below2 hb2 (below2 hb25 (below2 hb6 (below2 hb7 (below2 hb8 hb9)))))⟩
end Go.Proofs.Ytohmadchgacafaa
