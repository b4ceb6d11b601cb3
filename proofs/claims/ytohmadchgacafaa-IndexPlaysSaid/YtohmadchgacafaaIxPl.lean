/- The law IndexPlays. Conditions: as in the text. -/
import Derived.Test.YtohmadchgacafaaIxY
import Derived.Test.YtohmadchgacafaaIxPa
set_option linter.unusedSimpArgs false
set_option linter.unusedVariables false
set_option linter.unnecessarySimpa false
namespace Go.Proofs.Ytohmadchgacafaa
open Go.RowKit
theorem its_new1 (w : World) (y : It) (t : TypeId) : ItsIn (w.alloc (.cells (itCells y).toArray t)) (some ⟨w.heap.size, 0, none⟩) [y] := by
 refine Or.inr ⟨_, _, rfl, fun j u hu => ?_⟩
 rw [itsVals_one] at hu
 have := its_news w y t j u hu
 rwa [Addr.add_mid] at this
set_option maxRecDepth 100000 in
set_option maxHeartbeats 8000000 in
theorem lawPlaysI_any (a : Option Addr) (cap : Nat) (l : List AcIt) (k : Key) (w : World) (hin : AcsIn w a l) (hl : l.length ≤ maxLen) (hok : ∀ p ∈ l, ItOk p.x) (hkn : k.name.size ≤ 140737488351232) (hkd : k.domain.size ≤ 140737488351232) :
 Calls Try.prog 4 #[.slice a l.length cap, keyV k] w fun e w' => e = .returned (.bool true) ∧ Below w.heap.size w w' := by
 have HAW := Lib.hid (fun X => awake45_any X)
 unfold maxLen at hl
 have HOK := Lib.hid hok
 clear hok
 have hwn : IntKind.i64.wrap ((k.name.size : Int) + (k.domain.size : Int)) = (k.name.size : Int) + (k.domain.size : Int) := IntWalk.i64_in _ (by omega)
 go_enter Try.func4, Try.ntmps4
 go_upto_region 1 with fail
 refine wp_name (fun W hW => ?_)
 have hbW : Below w.heap.size w W := by rw [hW.out]; go_grown
 have hKA : KeyAt W w.heap.size k := by rw [hW.out]; exact ⟨by go_simp, by go_simp, by go_simp⟩
 have hKl : w.heap.size < W.heap.size := by rw [hW.out]; simp
 have hinW := hin.kept hbW
 obtain ⟨k0, k1, k2⟩ := hKA
 clear hW hin
 by_cases h30 : l.length ≤ 30
 case neg =>
  go_wp2_with (go_at_call 7; (refine (HAW.out _).mono ?_); rintro e w9 ⟨rfl, hb9⟩)
  all_goals
   go_ret
   exact ⟨rfl, below2 hbW hb9⟩
 case pos =>
 by_cases h600 : k.name.size + k.domain.size ≤ 600
 case neg =>
  go_wp2_with (go_at_call 7; (refine (HAW.out _).mono ?_); rintro e w9 ⟨rfl, hb9⟩)
  all_goals
   go_ret
   exact ⟨rfl, below2 hbW hb9⟩
 case pos =>
 by_cases h300 : k.path.size ≤ 300
 case neg =>
  go_wp2_with (go_at_call 7; (refine (HAW.out _).mono ?_); rintro e w9 ⟨rfl, hb9⟩)
  all_goals
   go_ret
   exact ⟨rfl, below2 hbW hb9⟩
 case pos =>
 clear hkn hkd hl
 have HNW := Lib.hid (new_x (lo := W.heap.size) none 0 [] W (Nat.le_refl _) (Or.inl rfl) (by simp) (fun y hy => (nomatch hy)))
 have hK := KeyAt.range (k := k) (w := W) (K := w.heap.size) ⟨k0, k1, k2⟩
 go_upto_region 4 with (go_at_call 8; (refine HNW.out.mono ?_); rintro e w1 ⟨x, rfl, hI, hf⟩)
 have hb1 : Below W.heap.size W w1 := hf.below (Nat.le_refl _) fun q hq => hq.1
 clear HNW hf k0 k1 k2 hwn
 have hI0 : IxAt W.heap.size w1 x [] 0 := hI
 clear hI
 go_upto_region 5 with fail
 go_wp2
 go_loopw [6, 7] (fun v i wr => ∃ (j : Nat) (T : List It) (K : Nat) (aT : Option Addr) (cT : Nat), i = .int .i64 j ∧ j ≤ l.length ∧ v = .slice aT T.length cT ∧ ItsIn wr aT T ∧ Good T ∧ T.length ≤ j ∧ K ≤ j * 301 ∧ IxAt W.heap.size wr x T K ∧ Below W.heap.size W wr) (fun _ i _ => l.length - (intOf i).toNat)
 case atStart => exact ⟨0, [], 0, _, _, rfl, Nat.zero_le _, rfl, Or.inl rfl, Good.nil, Nat.zero_le _, Nat.zero_le _, hI0.kept ((Below.refl _ _).alloc (Nat.le_refl _) _), hb1.alloc hb1.size _⟩
 case round =>
  obtain ⟨j, T, K, aT, cT, rfl, hj, rfl, hinT, hgT, hTj, hKj, hIT, hbT⟩ := hrel
  clear hI0 hb1
  by_cases hlt : j < l.length
  ·obtain ⟨A, off, rfl, hk0, hr⟩ := AcsIn.at (CellsIn.kept hinW hbT) hlt
   have hyok := HOK.out _ (List.getElem_mem hlt)
   have HLT := Lib.hid hlt
   have hlti : decide ((j : Int) < (l.length : Int)) = true := decide_eq_true (by omega)
   generalize l[j] = p at *
   obtain ⟨kd, y⟩ := p
   simp only at hk0 hr hyok
   have HLI := Lib.hid (lightI_any (some ⟨wr.heap.size, 0, none⟩) 1 [y] (wr.alloc (.cells (itCells y).toArray 38)) (its_new1 wr y _) (by unfold maxLen; simp) (fun z hz => by rw [List.mem_singleton.1 hz]; exact ⟨hyok.name, hyok.domain, hyok.path, hyok.value⟩))
   by_cases hli : lightI [y] = true
   case neg =>
        rw [Bool.eq_false_iff.2 hli] at HLI
        clear hli hyok
        have hbA : Below w.heap.size w (wr.alloc (.cells (itCells y).toArray 38)) := (hbW.trans (hbT.mono hbW.size)).alloc (by have := hbW.size; have := hbT.size; omega) _
        go_wp2_with (first
         | ((with_reducible refine wpList_load_to 38 _ A (off + j * 12 + 1) (itCells y) (itVal y) rfl _ Try.underlying38 rfl (by kernel_rfl) hr ?_ rfl ?_); exact rfl)
         | (refine wpList_build1I rfl 22 38 _ rfl (itCells y).toArray 11 rfl rfl (by decide) (by decide) Try.underlying22 (by kernel_rfl) (by kernel_rfl) ?_)
         | (go_at_call 6; (refine HLI.out.mono ?_); rintro e w8 ⟨rfl, rfl⟩)
         | (go_at_call 7; (refine (HAW.out _).mono ?_); rintro e w9 ⟨rfl, hb9⟩))
        all_goals
         go_ret
         exact ⟨rfl, hbA.trans (hb9.mono hbA.size)⟩
   case pos =>
   have hyl := (light_facts hli).2 y (by simp)
   rw [hli] at HLI
   clear hli hyok
   go_upto_region 10 with (first
        | ((with_reducible refine wpList_load_to 38 _ A (off + j * 12 + 1) (itCells y) (itVal y) rfl _ Try.underlying38 rfl (by kernel_rfl) hr ?_ rfl ?_); exact rfl)
        | (refine wpList_build1I rfl 22 38 _ rfl (itCells y).toArray 11 rfl rfl (by decide) (by decide) Try.underlying22 (by kernel_rfl) (by kernel_rfl) ?_)
        | (go_at_call 6; (refine HLI.out.mono ?_); rintro e w8 ⟨rfl, rfl⟩))
   refine wp_name (fun wa hwa => ?_)
   have hba : Below wr.heap.size wr wa := by rw [hwa.out]; exact (Below.refl _ _).alloc (Nat.le_refl _) _
   have ra := rangeAt_kept hr hba
   have hF := rFind45_any aT cT T y.key wa (by have := hgT.len; omega) (CellsIn.kept hinT hba)
   unfold RetFind findV at hF
   obtain ⟨bs, hbs⟩ : ∃ b, b = (getI T y.key).isSome := ⟨_, rfl⟩
   rw [← hbs] at hF
   have HBS := Lib.hid hbs
   clear hbs
   generalize (getI T y.key).getD it0 = z0 at hF
   have HFI := Lib.hid hF
   have hrk := range_keyCs ra
   clear hwa HLI hF hr
   go_upto_region 11 with (first
        | ((with_reducible refine wpList_load_to 34 _ A (off + j * 12 + 1) (keyCs y.key) (keyV y.key) rfl _ Try.underlying34 rfl (by kernel_rfl) hrk ?_ rfl ?_); exact rfl)
        | (go_at_call 15; (refine HFI.out.mono ?_); rintro e w2 ⟨rfl, hb2⟩)
        | (refine wpList_store_new 38 _ _ _ (itCells z0).toArray rfl rfl (by kernel_rfl) rfl (by kernel_rfl) ?_))
   refine wp_name (fun wb hwb => ?_)
   have hbb : Below wr.heap.size wr wb := by rw [hwb.out]; exact (below2 hba hb2).alloc (below2 hba hb2).size _
   have hab : Below wa.heap.size wa wb := by rw [hwb.out]; exact hb2.alloc hb2.size _
   have rb := rangeAt_kept ra hab
   have hkb := kept hbb hk0
   have hinb := CellsIn.kept hinT hbb
   have hIb := hIT.kept hbb
   have hBb : Below W.heap.size W wb := hbT.trans (hbb.mono hbT.size)
   have hTlen : T.length ≤ 30 := by omega
   have hKK : K ≤ 9030 := by omega
   clear hwb hb2 hrk HFI hbb hab ra hba hk0 hinT hIT hbT
   by_cases h1 : kd = 1
   ·subst h1
    have HP := Lib.hid (rPut25_any aT cT T y wb (by omega) hinb)
    have hPU := fun (X : World) (hX : Below wb.heap.size wb X) => put_s (hIb.kept hX) hgT y (by omega) (by omega)
    unfold RetPutS at hPU
    rw [← Option.not_isSome, ← HBS.out] at hPU
    have HPU := Lib.hid hPU
    clear hPU HBS
    cases bs
    all_goals
     go_upto_region 20 with (first
      | ((with_reducible refine wpList_load_to 38 _ A (off + j * 12 + 1) (itCells y) (itVal y) rfl _ Try.underlying38 rfl (by kernel_rfl) rb ?_ rfl ?_); exact rfl)
      | (go_at_call 16; (refine HP.out.mono ?_); rintro e w4 ⟨v4, rfl, hown4, hb4⟩; obtain ⟨a4, c4, rfl, hin4, _⟩ := own_cellsIn hown4; clear hown4; have r4 := rangeAt_kept rb hb4)
      | ((with_reducible refine wpList_load_to 38 _ A (off + j * 12 + 1) (itCells y) (itVal y) rfl _ Try.underlying38 rfl (by kernel_rfl) r4 ?_ rfl ?_); exact rfl)
      | (go_at_call 17; (refine (HPU.out _ hb4).mono ?_); rintro e w5 ⟨rfl, hI5, hf5⟩))
     have hB4 := hBb.trans (hb4.mono hBb.size)
     have hB5 : Below W.heap.size W w5 := hB4.trans (hf5.below hB4.size fun q hq => hq.1)
     have hin5 := ItsIn.ix hin4 hf5
     have hg5 := hgT.put (y := y) (by omega) (by omega)
     have hl5 := putI_length T y
     have HIS := Lib.hid (is_true hI5 hg5 (by omega) a4 c4 hin5)
     clear rb r4 hkb hinb hIb hB4 hb4 hin4 hf5 HP HPU hBb
     go_wp2_with (go_at_call 20; (refine HIS.out.mono ?_); rintro e w6 ⟨rfl, hb6⟩)
     have HZ := Lib.hid (And.intro (hI5.kept hb6) (And.intro (CellsIn.kept hin5 hb6) (hB5.trans (hb6.mono hB5.size))))
     have HG5 := Lib.hid hg5
     clear hI5 hin5 hb6 hB5 hg5
     go_roundw
     case rel => exact ⟨j + 1, putI T y, K + 301, a4, c4, by go_num, HLT.out, rfl, HZ.out.2.1, HG5.out, by omega, by omega, HZ.out.1, HZ.out.2.2⟩
     case measure => have := HLT.out; simp [intOf]; omega
   by_cases h2 : kd = 2
   ·subst h2
    clear h1
    have HP := Lib.hid (rWithout_any y.key aT cT T wb (by omega) hinb)
    have hPU := fun (X : World) (hX : Below wb.heap.size wb X) => remove_s (hIb.kept hX) hgT y.key (by omega) (by omega)
    unfold RetRmS at hPU
    rw [← HBS.out] at hPU
    have HPU := Lib.hid hPU
    have rkb := range_keyCs rb
    clear hPU HBS
    cases bs
    all_goals
     go_upto_region 20 with (first
      | ((with_reducible refine wpList_load_to 34 _ A (off + j * 12 + 1) (keyCs y.key) (keyV y.key) rfl _ Try.underlying34 rfl (by kernel_rfl) rkb ?_ rfl ?_); exact rfl)
      | (go_at_call 18; (refine HP.out.mono ?_); rintro e w4 ⟨v4, rfl, hown4, hb4⟩; obtain ⟨a4, c4, rfl, hin4, _⟩ := own_cellsIn hown4; clear hown4; have r4 := range_keyCs (rangeAt_kept rb hb4))
      | ((with_reducible refine wpList_load_to 34 _ A (off + j * 12 + 1) (keyCs y.key) (keyV y.key) rfl _ Try.underlying34 rfl (by kernel_rfl) r4 ?_ rfl ?_); exact rfl)
      | (go_at_call 19; (refine (HPU.out _ hb4).mono ?_); rintro e w5 ⟨rfl, hI5, hf5⟩))
     have hB4 := hBb.trans (hb4.mono hBb.size)
     have hB5 : Below W.heap.size W w5 := hB4.trans (hf5.below hB4.size fun q hq => hq.1)
     have hin5 := ItsIn.ix hin4 hf5
     have hg5 := hgT.wo y.key
     have hl5 : (woI T y.key).length ≤ T.length := List.length_filter_le _ _
     have HIS := Lib.hid (is_true hI5 hg5 (by omega) a4 c4 hin5)
     clear rb r4 rkb hkb hinb hIb hB4 hb4 hin4 hf5 HP HPU hBb
     go_wp2_with (go_at_call 20; (refine HIS.out.mono ?_); rintro e w6 ⟨rfl, hb6⟩)
     have HZ := Lib.hid (And.intro (hI5.kept hb6) (And.intro (CellsIn.kept hin5 hb6) (hB5.trans (hb6.mono hB5.size))))
     have HG5 := Lib.hid hg5
     clear hI5 hin5 hb6 hB5 hg5
     go_roundw
     case rel => exact ⟨j + 1, woI T y.key, K, a4, c4, by go_num, HLT.out, rfl, HZ.out.2.1, HG5.out, by omega, by omega, HZ.out.1, HZ.out.2.2⟩
     case measure => have := HLT.out; simp [intOf]; omega
   ·have HIS := Lib.hid (is_true hIb hgT (by omega) aT cT hinb)
    have e1 : (kd == 1) = false := beq_eq_false_iff_ne.2 h1
    have e2 : (kd == 2) = false := beq_eq_false_iff_ne.2 h2
    clear HBS rb
    go_wp2_with (go_at_call 20; (refine HIS.out.mono ?_); rintro e w6 ⟨rfl, hb6⟩)
    have HZ := Lib.hid (And.intro (hIb.kept hb6) (And.intro (CellsIn.kept hinb hb6) (hBb.trans (hb6.mono hBb.size))))
    have HG5 := Lib.hid hgT
    clear hIb hinb hb6 hBb hgT
    go_roundw
    case rel => exact ⟨j + 1, T, K, aT, cT, by go_num, HLT.out, rfl, HZ.out.2.1, HG5.out, by omega, by omega, HZ.out.1, HZ.out.2.2⟩
    case measure => have := HLT.out; simp [intOf]; omega
  ·obtain rfl : j = l.length := by omega
   have hlti : decide ((l.length : Int) < (l.length : Int)) = false := decide_eq_false (by omega)
   have hTl := hgT.len
   have hkr := rangeAt_kept hK hbT
   have hG := get_s hIT hgT k (by omega)
   have hF := fun (X : World) (hX : Below wr.heap.size wr X) => rFind45_any aT cT T k X (by omega) (CellsIn.kept hinT hX)
   unfold RetFind findV at hG hF
   generalize (getI T k).isSome = bs at *
   generalize (getI T k).getD it0 = z0 at *
   have HG := Lib.hid hG
   have HF := Lib.hid hF
   have hB := hbW.trans (hbT.mono hbW.size)
   clear hG hF hIT hinT hgT hbT hTj hKj hlt hinW
   go_upto_region 23 with (first
        | ((with_reducible refine wpList_load_to 34 _ w.heap.size 0 (keyCs k) (keyV k) rfl _ Try.underlying34 rfl (by kernel_rfl) hkr ?_ rfl ?_); exact rfl)
        | (go_at_call 21; (refine HG.out.mono ?_); rintro e w2 ⟨rfl, hb2⟩)
        | (refine wpList_store_new 38 _ _ _ (itCells z0).toArray rfl rfl (by kernel_rfl) rfl (by kernel_rfl) ?_))
   refine wp_name (fun wa hwa => ?_)
   have hba : Below wr.heap.size wr wa := by rw [hwa.out]; exact hb2.alloc hb2.size _
   have r1 : wa.rangeAt w2.heap.size 0 (itCells z0) := by rw [hwa.out]; exact itCells_box z0 w2 _
   have hka := rangeAt_kept hkr hba
   have HFa := Lib.hid (HF.out _ hba)
   clear hwa hb2 hkr HG HF
   generalize w2.heap.size = B1 at *
   go_upto_region 24 with (first
        | ((with_reducible refine wpList_load_to 34 _ w.heap.size 0 (keyCs k) (keyV k) rfl _ Try.underlying34 rfl (by kernel_rfl) hka ?_ rfl ?_); exact rfl)
        | (go_at_call 15; (refine HFa.out.mono ?_); rintro e w3 ⟨rfl, hb3⟩)
        | (refine wpList_store_new 38 _ _ _ (itCells z0).toArray rfl rfl (by kernel_rfl) rfl (by kernel_rfl) ?_))
   refine wp_name (fun wb hwb => ?_)
   have hbb : Below wa.heap.size wa wb := by rw [hwb.out]; exact hb3.alloc hb3.size _
   have r2 : wb.rangeAt w3.heap.size 0 (itCells z0) := by rw [hwb.out]; exact itCells_box z0 w3 _
   have r1b := rangeAt_kept r1 hbb
   have hB2 := hB.trans ((below2 hba hbb).mono hB.size)
   have hEq := fun (W : World) => eqItem W 9997 z0.key z0.key z0.ck z0.ck
   rw [decide_eq_true (rfl : z0.key = z0.key), decide_eq_true (rfl : z0.ck = z0.ck)] at hEq
   have hg := noGuardItem
   clear hwb hb3 hka HFa hba hbb r1 hB
   generalize w3.heap.size = B2 at *
   go_wp2_with (first
        | ((with_reducible refine wpList_load_to 38 _ B1 0 (itCells z0) (itVal z0) rfl _ Try.underlying38 rfl (by kernel_rfl) r1b ?_ rfl ?_); exact rfl)
        | ((with_reducible refine wpList_load_to 38 _ B2 0 (itCells z0) (itVal z0) rfl _ Try.underlying38 rfl (by kernel_rfl) r2 ?_ rfl ?_); exact rfl)
        | (go_at_call 7; (refine (HAW.out _).mono ?_); rintro e w9 ⟨rfl, hb9⟩))
   all_goals
        go_ret
        exact ⟨rfl, hB2.trans (hb9.mono hB2.size)⟩
end Go.Proofs.Ytohmadchgacafaa
