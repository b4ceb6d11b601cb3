/- The law OrmapFull, walked. Conditions: none. -/
import Derived.Test.YtcijajjngmmbeaaFullC
set_option linter.unusedSimpArgs false
set_option linter.unusedVariables false
set_option linter.unnecessarySimpa false
namespace Go.Proofs.Ytcijajjngmmbeaa
open Go.RowKit

abbrev fCells (O : Nat) (i : Int) : List Value := [.int .i64 0, .int .i64 1, .int .i64 i, .int .i64 0, .int .i64 0, .int .i64 0, .int .i64 2, .string ⟨#[]⟩, .string ⟨#[]⟩, .string ⟨#[]⟩, .string ⟨#[]⟩, .bool false, .bool false, .bool false, .bool false, .int .i64 0, .int .i64 0, .int .i64 0, .slice (some ⟨O, 0, none⟩) 1 1]
theorem fOver_cells {w : World} {O : Nat} (h0 : w.cell? ⟨O, 0, none⟩ = some (.int .i64 1)) (h1 : w.cell? ⟨O, 1, none⟩ = some (.int .i64 1)) (h2 : w.cell? ⟨O, 2, none⟩ = some (.int .i64 1)) : DotsIn w (some ⟨O, 0, none⟩) fOver := by
  refine Or.inr ⟨O, 0, rfl, ⟨fun i hi => ?_, fun i hi => ?_, fun i hi => ?_⟩⟩ <;>
  · obtain rfl : i = 0 := by have : fOver.length = 1 := rfl; omega
    assumption
theorem FullIn.kept {w w' : World} {m : Nat} {b : MB} {s : MS} {n i : Nat} (h : FullIn w m b s n i) (hb : Below w.heap.size w w') : FullIn w' m b s n i := ⟨h.map.kept_w hb, h.inv, h.full, h.dead, h.low⟩

set_option maxRecDepth 100000 in
set_option maxHeartbeats 4000000 in
theorem lawFull_any (c : UInt8) (w : World) : Calls Try.prog 3 #[.int .u8 c.toNat] w fun x w' => x = .returned (.bool true) ∧ Below w.heap.size w w' := by
  have HN := Lib.hid (fun X => mNew_any X)
  have HA := Lib.hid awake21_any
  have hc1 : c.toNat < 256 := c.toNat_lt
  have hcw : IntKind.i64.wrap ((c.toNat : Nat) : Int) = (c.toNat : Int) := IntWalk.i64_in _ (by omega)
  have hcw1 : IntKind.i64.wrap (1 + ((c.toNat : Nat) : Int)) = 1 + (c.toNat : Int) := IntWalk.i64_in _ (by omega)
  go_enter Try.func3, Try.ntmps3
  go_upto_region 2 with (go_at_call 4; (with_reducible refine (HN.out _).mono ?_); rintro x w1 ⟨m, b, rfl, hm, hb, hlo, hfo⟩)
  go_upto_region 4 with fail
  refine wp_name (fun W hW => ?_)
  have hbt : Below w1.heap.size w1 W := by rw [hW.out]; go_grown
  have x0 : W.cell? ⟨w1.heap.size, 0, none⟩ = some (.int .i64 0) := by rw [hW.out]; go_simp
  have x1 : W.cell? ⟨w1.heap.size, 1, none⟩ = some (.int .i64 1) := by rw [hW.out]; go_simp
  have y0 : W.cell? ⟨w1.heap.size + 1, 0, none⟩ = some (.int .i64 1) := by rw [hW.out]; go_simp
  have y1 : W.cell? ⟨w1.heap.size + 1, 1, none⟩ = some (.int .i64 1) := by rw [hW.out]; go_simp
  have y2 : W.cell? ⟨w1.heap.size + 1, 2, none⟩ = some (.int .i64 1) := by rw [hW.out]; go_simp
  have hd := fOver_cells y0 y1 y2
  have hF0 : FullIn W m b MS.empty w.heap.size 0 := ⟨hm.kept_w hbt, MInv.empty, FullS.empty, Nat.zero_le _, hfo⟩
  have hbW : Below w.heap.size w W := hb.trans (hbt.mono hb.size)
  clear hW y0 y1 y2 hm hb hlo hfo hbt HN
  generalize w1.heap.size + 1 = O at *
  generalize w1.heap.size = A0 at *
  go_wp2
  go_loopw [6] (fun i wr => ∃ (k : Nat) (s : MS), i = .int .i64 ((k : Int) + 1) ∧ k ≤ 2048 ∧ FullIn wr m b s w.heap.size k ∧ KeepsC W wr ∧ Below w.heap.size w wr) (fun i _ => 2049 - (intOf i).toNat)
  case atStart => exact ⟨0, MS.empty, rfl, by omega, hF0, KeepsC.of_below (Below.refl _ _), hbW⟩
  case round =>
    obtain ⟨k, s, rfl, hk, hF, hkc, hbw⟩ := hrel
    have z0 := hkc.cell x0
    have z1 := hkc.cell x1
    have hdr := hkc.dots hd
    have HKC := Lib.hid hkc
    by_cases hlt : k < 2048
    · have HF := Lib.hid (callF O wr hF hbw.size hlt hdr)
      clear hF hdr hkc
      have HB := Lib.hid hbw
      have HLT := Lib.hid hlt
      clear hbw
      go_wp2_with (first
        | (refine Great.wpList_buildTo rfl 39 _ rfl _ rfl #[.int .i64 0, .int .i64 1, .int .i64 ((k : Int) + 1), .int .i64 0, .int .i64 0, .int .i64 0, .int .i64 2, .string ⟨#[]⟩, .string ⟨#[]⟩, .string ⟨#[]⟩, .string ⟨#[]⟩, .bool false, .bool false, .bool false, .bool false, .int .i64 0, .int .i64 0, .int .i64 0, .slice (some ⟨O, 0, none⟩) 1 1] (by kernel_rfl) ?_)
        | (go_at_call 5; (with_reducible refine HF.out.mono ?_); rintro x w2 ⟨s', rfl, hF2, hK2, hb2⟩))
      go_roundw
      case rel => exact ⟨k + 1, s', by go_num, HLT.out, hF2, HKC.out.trans hK2, HB.out.trans hb2⟩
      case measure => have := HLT.out; simp [intOf] <;> omega
    · obtain rfl : k = 2048 := by omega
      clear hkc hlt hk
      have HB := Lib.hid hbw
      have hzw := hbw.size
      clear hbw
      go_upto_region 11 with (first
        | (refine Great.wpList_buildTo rfl 39 _ rfl _ rfl #[.int .i64 0, .int .i64 1, .int .i64 (2049), .int .i64 0, .int .i64 0, .int .i64 0, .int .i64 2, .string ⟨#[]⟩, .string ⟨#[]⟩, .string ⟨#[]⟩, .string ⟨#[]⟩, .bool false, .bool false, .bool false, .bool false, .int .i64 0, .int .i64 0, .int .i64 0, .slice (some ⟨O, 0, none⟩) 1 1] (by kernel_rfl) ?_)
        | (refine wpList_store_new 39 _ _ _ _ rfl rfl (by kernel_rfl) rfl (by kernel_rfl) ?_))
      refine wp_name (fun W2 hW2 => ?_)
      have hb2 : Below wr.heap.size wr W2 := by rw [hW2.out]; go_grown
      have hR : W2.rangeAt wr.heap.size 0 (fCells O 2049) := by rw [hW2.out]; exact evCells_box (fEv 2049) (some ⟨O, 0, none⟩) 1 wr _
      have hF2 := hF.kept hb2
      have hd2 := hdr.kept hb2
      have hz2 : w.heap.size ≤ W2.heap.size := Nat.le_trans hzw hb2.size
      replace z0 := kept hb2 z0
      replace z1 := kept hb2 z1
      have HB2 := Lib.hid (HB.out.trans (hb2.mono hzw))
      clear hW2 hF hdr hb2 HB hzw HKC x0 x1 hd hF0 hbW
      obtain ⟨hn1, hn2⟩ := hF2.full.full
      have H1 := Lib.hid (callNot O 2049 9 W2 hF2 hz2 hn1 hn2 hd2)
      clear hn1 hn2
      go_upto_region 12 with (first
        | ((with_reducible refine wpList_load_to 39 _ wr.heap.size 0 (fCells O 2049) (valF O 2049) rfl _ Try.underlying39 rfl (by kernel_rfl) hR ?_ rfl ?_); exact rfl)
        | (go_at_call 5; (with_reducible refine H1.out.mono ?_); rintro x w3 ⟨rfl, hF3, hK3, hb3⟩))
      replace z0 := hK3.cell z0
      replace z1 := hK3.cell z1
      replace hR := hK3.range hR
      have hd3 := hK3.dots hd2
      have hz3 : w.heap.size ≤ w3.heap.size := Nat.le_trans hz2 hb3.size
      have HB3 := Lib.hid (HB2.out.trans hb3)
      clear hF2 hd2 hK3 hb3 HB2 H1 hz2
      obtain ⟨hn1, hn2⟩ := hF3.full.old (j := 1 + (c.toNat : Int)) (by omega) (by omega)
      have H2 := Lib.hid (callNot O (1 + (c.toNat : Int)) 0 w3 hF3 hz3 hn1 hn2 hd3)
      clear hn1 hn2
      go_upto_region 13 with (first
        | (refine Great.wpList_buildTo rfl 39 _ rfl _ rfl #[.int .i64 0, .int .i64 1, .int .i64 (1 + (c.toNat : Int)), .int .i64 0, .int .i64 0, .int .i64 0, .int .i64 2, .string ⟨#[]⟩, .string ⟨#[]⟩, .string ⟨#[]⟩, .string ⟨#[]⟩, .bool false, .bool false, .bool false, .bool false, .int .i64 0, .int .i64 0, .int .i64 0, .slice (some ⟨O, 0, none⟩) 1 1] (by kernel_rfl) ?_)
        | (go_at_call 5; (with_reducible refine H2.out.mono ?_); rintro x w4 ⟨rfl, hF4, hK4, hb4⟩))
      replace z0 := hK4.cell z0
      replace z1 := hK4.cell z1
      replace hR := hK4.range hR
      have hd4 := hK4.dots hd3
      have hz4 : w.heap.size ≤ w4.heap.size := Nat.le_trans hz3 hb4.size
      have HB4 := Lib.hid (HB3.out.trans hb4)
      have HRo := Lib.hid hF4.room
      have HFg := Lib.hid (callFg (1 + (c.toNat : Int)) w4 hF4 hz4 (by omega) (by omega))
      clear hF3 hd3 hK4 hb4 HB3 H2 hz3 hF4
      go_upto_region 15 with (first
        | (go_at_call 6; (with_reducible refine HRo.out.mono ?_); rintro x w5 ⟨rfl, rfl⟩)
        | (go_at_call 7; (with_reducible refine HFg.out.mono ?_); rintro x w6 ⟨rfl, ⟨s6, hL⟩, hK6, hb6⟩))
      replace hR := hK6.range hR
      have hd6 := hK6.dots hd4
      have hz6 : w.heap.size ≤ w6.heap.size := Nat.le_trans hz4 hb6.size
      have HB6 := Lib.hid (HB4.out.trans hb6)
      have H3 := Lib.hid (callAgain O w6 hL hz6 hd6)
      clear hK6 hb6 HB4 hd4 hz4 HRo HFg hL z0 z1
      go_upto_region 16 with (first
        | ((with_reducible refine wpList_load_to 39 _ wr.heap.size 0 (fCells O 2049) (valF O 2049) rfl _ Try.underlying39 rfl (by kernel_rfl) hR ?_ rfl ?_); exact rfl)
        | (go_at_call 5; (with_reducible refine H3.out.mono ?_); rintro x w7 ⟨rfl, ⟨s7, hm7, hl7⟩, hb7⟩))
      have HB7 := Lib.hid (HB6.out.trans hb7)
      have HLn := Lib.hid (callLen w7 hm7 hl7)
      clear hm7 hl7 hb7 HB6 H3
      go_wp2_with (first
        | (go_at_call 8; (with_reducible refine HLn.out.mono ?_); rintro x w8 ⟨rfl, rfl⟩)
        | (go_at_call 9; (with_reducible refine (HA.out _).mono ?_); rintro x w9 ⟨rfl, hb9⟩))
      go_ret
      exact ⟨rfl, HB7.out.trans (hb9.mono HB7.out.size)⟩
end Go.Proofs.Ytcijajjngmmbeaa
