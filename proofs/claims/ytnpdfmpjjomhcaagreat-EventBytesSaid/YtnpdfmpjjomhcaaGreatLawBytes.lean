/- The law EventBytes, walked. Conditions: none. -/
import Derived.Test.YtnpdfmpjjomhcaaGreatReadK
import Derived.Test.YtnpdfmpjjomhcaaGreatRefPutC
import Derived.Test.YtnpdfmpjjomhcaaGreatSameEv
import Derived.Test.YtnpdfmpjjomhcaaGreatAwake
import Derived.Test.YtnpdfmpjjomhcaaGreatLight
import Derived.Test.YtnpdfmpjjomhcaaGreatRefEvent
import Derived.Test.YtnpdfmpjjomhcaaGreatOpen
set_option linter.unusedSimpArgs false
set_option linter.unusedVariables false
set_option linter.unnecessarySimpa false
namespace Go.Proofs.YtnpdfmpjjomhcaaGreat
open Go.RowKit

theorem light_tiny {e : Ev} (h : light e = true) : EvTiny e := by
  unfold light at h
  simp only [Bool.and_eq_true, decide_eq_true_eq] at h
  obtain ⟨h1, h2, h3, h4, h5⟩ := h
  exact ⟨by omega, by omega, by omega, by omega⟩
theorem own_cap {w : World} {base : Nat} {a : Option Addr} {n cap : Nat} {xs : List Value} (h : w.ownsRow base 5 1 (.slice a n cap) n xs) : n ≤ cap := by
  rcases h.2 with ⟨h0, hn⟩ | ⟨g, c, cur, he, _, _, hc, _⟩
  · omega
  · cases he; exact hc

set_option maxRecDepth 100000 in
set_option maxHeartbeats 4000000 in
theorem lawBytes_no (e : Ev) (a : Option Addr) (cap : Nat) (w : World) (he : EvIn w a cap e) (hl : light e = true) (hok : evOk e = false) :
    Calls Tryz.prog 3 #[evVal e a cap] w fun x w' => x = .returned (.bool true) ∧ Below w.heap.size w w' := by
  have hs := light_small hl
  have HL0 := fun (W : World) => Light_any e a cap W he.over he.name he.domain he.path he.value
  rw [hl] at HL0
  have HL := Lib.hid HL0
  have HA := Lib.hid awake_any
  have HB := Lib.hid (fun (W : World) (h : DotsIn W a e.over) => Bytes_no e a cap W hs h hok)
  have HP := Lib.hid (fun (B : Nat) (W : World) (h : DotsIn W a e.over) (hw : Wr W (fun k => k = B) B []) => eventPut_no (fun k => k = B) B [] e a cap W hs h hw hok)
  have HR0 := fun (W : World) (h : DotsIn W a e.over) => rEventRight_any e a cap W hs h
  rw [hok] at HR0
  have HRr := Lib.hid HR0
  have hold := he.old
  have hdots := he.dots
  clear HL0 HR0 hl hok hs he
  go_enter Tryz.func3, Tryz.ntmps3
  go_upto_region 1 with fail
  refine wp_name (fun W hW => ?_)
  have hbt : Below w.heap.size w W := by rw [hW.out]; go_grown
  have hz : w.heap.size < W.heap.size := by rw [hW.out]; simp
  have hR : W.rangeAt w.heap.size 0 (evCells e a cap) := by rw [hW.out]; exact evCells_box e a cap w _
  have ho := hdots.kept hbt
  clear hW hdots
  go_upto_region 4 with (first
    | ((with_reducible refine wpList_load_ev _ w.heap.size e a cap hR ?_ rfl ?_); exact rfl)
    | (go_at_call 10; (with_reducible refine (HL.out _).mono ?_); rintro x w1 ⟨rfl, hb⟩; replace hbt := below2 hbt hb; replace hR := rangeAt_kept hR hb; replace ho := ho.kept hb; replace hz := Nat.lt_of_lt_of_le hz hb.size)
    | (go_at_call 12; (with_reducible refine (HB.out _ ho).mono ?_); rintro x w2 ⟨rfl, hb⟩; replace hbt := below2 hbt hb; replace hR := rangeAt_kept hR hb; replace ho := ho.kept hb; replace hz := Nat.lt_of_lt_of_le hz hb.size))
  go_upto_region 5 with fail
  refine wp_name (fun W4 hW4 => ?_)
  have hb4 : Below w2.heap.size w2 W4 := by rw [hW4.out]; go_grown
  have hWr : Wr W4 (fun k => k = w2.heap.size) w2.heap.size [] := by
    refine ⟨rfl, .slice none 0 0, 0, by rw [hW4.out]; exact Array.getElem?_push_size, World.ownsRow_nil _ _ _ _, fun g hg => by cases hg⟩
  replace hbt := below2 hbt hb4
  replace hR := rangeAt_kept hR hb4
  replace ho := ho.kept hb4
  have HP4 := Lib.hid (HP.out _ W4 ho hWr)
  have hlt4 : w2.heap.size < W4.heap.size := by rw [hW4.out]; simp
  clear hW4 hb4 hWr HB HL
  go_upto_region 6 with (first
    | ((with_reducible refine wpList_load_ev _ w.heap.size e a cap hR ?_ rfl ?_); exact rfl)
    | (go_at_call 13; (with_reducible refine HP4.out.mono ?_); rintro x w3 ⟨rfl, HH⟩))
  have hR3 := HH.range hR (by omega)
  have ho3 : DotsIn w3 a e.over := ho.keep (fun A off h hne => HH.fr.block A (by have := hold A off h hne; omega) (by have := hold A off h hne; omega))
  have hbt3 : Below w.heap.size w w3 := hbt.trans (HH.fr.below (by omega) (fun k g => by omega))
  clear hR ho hbt HP4
  go_wp2_with (first
    | ((with_reducible refine wpList_load_ev _ w.heap.size e a cap hR3 ?_ rfl ?_); exact rfl)
    | (go_at_call 14; (with_reducible refine (HRr.out _ ho3).mono ?_); rintro x w5 ⟨rfl, hb⟩; replace HH := HH.below hb; replace hbt3 := below2 hbt3 hb)
    | (go_at_call 15; (with_reducible refine (WBytes_h HH (by simp)).mono ?_); rintro x w6 ⟨v, rfl, hown, hb⟩; obtain ⟨a6, c6, rfl, _⟩ := own_bytes hown; replace hbt3 := below2 hbt3 hb)
    | (go_at_call 11; (with_reducible refine (HA.out _).mono ?_); rintro x w7 ⟨rfl, hb7⟩; replace hbt3 := below2 hbt3 hb7))
  go_ret
  exact ⟨rfl, hbt3⟩

set_option maxRecDepth 100000 in
set_option maxHeartbeats 4000000 in
theorem lawBytes_yes (e : Ev) (a : Option Addr) (cap : Nat) (w : World) (he : EvIn w a cap e) (hl : light e = true) (hok : evOk e = true) :
    Calls Tryz.prog 3 #[evVal e a cap] w fun x w' => x = .returned (.bool true) ∧ Below w.heap.size w w' := by
  have hs := light_small hl
  have ht := light_tiny hl
  have hfit := evOk_fit hok
  have hlen := evB_len e hfit.over ht hfit
  have HL0 := fun (W : World) => Light_any e a cap W he.over he.name he.domain he.path he.value
  rw [hl] at HL0
  have HL := Lib.hid HL0
  have HA := Lib.hid awake_any
  have HB := Lib.hid (fun (W : World) (h : DotsIn W a e.over) (h2 : ∀ A off, a = some ⟨A, off, none⟩ → e.over ≠ [] → A < W.heap.size) => Bytes_yes e a cap W hs ht h h2 hok)
  have HP := Lib.hid (fun (B : Nat) (W : World) (h : DotsIn W a e.over) (hSA : ∀ A off, a = some ⟨A, off, none⟩ → e.over ≠ [] → ¬ (fun k => k = B) A) (hw : Wr W (fun k => k = B) B []) => eventPut_yes (fun k => k = B) B [] e a cap W (by simp) hs ht h hSA hw hok)
  have HR0 := fun (W : World) (h : DotsIn W a e.over) => rEventRight_any e a cap W hs h
  rw [hok] at HR0
  have HRr := Lib.hid HR0
  have HRP := Lib.hid (fun (W : World) (h : DotsIn W a e.over) => rEvPut_any e a cap W h ht hok)
  have hrd := fun (ab : Option Addr) (cb : Nat) (W : World) (h : BytesIn W ab (evB e)) (hc : (evB e).length ≤ cb) => evRead_any ab cb (evB e) W (by omega) h hc
  unfold RetRead at hrd
  rw [evRead_evB hok] at hrd
  have HRd := Lib.hid hrd
  have HSB0 := fun (W : World) (x y : Option Addr) (cx cy : Nat) (h1 : BytesIn W x (evB e)) (h2 : BytesIn W y (evB e)) => rSameBytes_any x y cx cy (evB e) (evB e) W (by omega) (by omega) h1 h2
  simp only [decide_true] at HSB0
  have HSB := Lib.hid HSB0
  have HSE0 := fun (W : World) (x : Option Addr) (cx : Nat) (h1 : DotsIn W x e.over) (h2 : DotsIn W a e.over) => rSameEv_any e e x a cx cap W hs.over hs.over h1 h2
  simp only [decide_true] at HSE0
  have HSE := Lib.hid HSE0
  have hold := he.old
  have hdots := he.dots
  clear HL0 HR0 hrd HSB0 HSE0 hl hok hs ht hfit he
  go_enter Tryz.func3, Tryz.ntmps3
  go_upto_region 1 with fail
  refine wp_name (fun W hW => ?_)
  have hbt : Below w.heap.size w W := by rw [hW.out]; go_grown
  have hz : w.heap.size < W.heap.size := by rw [hW.out]; simp
  have hR : W.rangeAt w.heap.size 0 (evCells e a cap) := by rw [hW.out]; exact evCells_box e a cap w _
  have ho := hdots.kept hbt
  clear hW hdots
  go_upto_region 4 with (first
    | ((with_reducible refine wpList_load_ev _ w.heap.size e a cap hR ?_ rfl ?_); exact rfl)
    | (go_at_call 10; (with_reducible refine (HL.out _).mono ?_); rintro x w1 ⟨rfl, hb⟩; replace hbt := below2 hbt hb; replace hR := rangeAt_kept hR hb; replace ho := ho.kept hb; replace hz := Nat.lt_of_lt_of_le hz hb.size)
    | (go_at_call 12; (with_reducible refine (HB.out _ ho (fun A off h1 h2 => Nat.lt_trans (hold A off h1 h2) hz)).mono ?_); rintro x w2 ⟨v, rfl, hown, hb⟩; obtain ⟨ab, cb, rfl, hin⟩ := own_bytes hown; have hcb := own_cap hown; replace hbt := below2 hbt hb; replace hR := rangeAt_kept hR hb; replace ho := ho.kept hb; replace hz := Nat.lt_of_lt_of_le hz hb.size))
  have hun : BytesUnder w2 w2.heap.size ab (evB e) := BytesUnder.ofIn hin (Nat.le_refl _)
  clear hown hin
  go_upto_region 5 with fail
  refine wp_name (fun W4 hW4 => ?_)
  have hb4 : Below w2.heap.size w2 W4 := by rw [hW4.out]; go_grown
  have hWr : Wr W4 (fun k => k = w2.heap.size) w2.heap.size [] := by
    refine ⟨rfl, .slice none 0 0, 0, by rw [hW4.out]; exact Array.getElem?_push_size, World.ownsRow_nil _ _ _ _, fun g hg => by cases hg⟩
  replace hbt := below2 hbt hb4
  replace hR := rangeAt_kept hR hb4
  replace ho := ho.kept hb4
  replace hun := hun.keep (fun k hk => hb4.block k hk)
  have HP4 := Lib.hid (HP.out _ W4 ho (fun A off h1 h2 => by have := hold A off h1 h2; omega) hWr)
  have hlt4 : w2.heap.size < W4.heap.size := by rw [hW4.out]; simp
  clear hW4 hb4 hWr HB HL
  go_upto_region 6 with (first
    | ((with_reducible refine wpList_load_ev _ w.heap.size e a cap hR ?_ rfl ?_); exact rfl)
    | (go_at_call 13; (with_reducible refine HP4.out.mono ?_); rintro x w3 ⟨rfl, HH⟩; rw [List.nil_append] at HH))
  have hR3 := HH.range hR (by omega)
  have ho3 : DotsIn w3 a e.over := ho.keep (fun A off h hne => HH.fr.block A (by have := hold A off h hne; omega) (by have := hold A off h hne; omega))
  have hbt3 : Below w.heap.size w w3 := hbt.trans (HH.fr.below (by omega) (fun k g => by omega))
  have hun3 : BytesIn w3 ab (evB e) := (hun.keep (fun k hk => HH.fr.block k (Nat.lt_trans hk hlt4) (by omega))).toIn
  clear hR ho hbt HP4 hun hlt4 hz
  go_upto_region 9 with (first
    | ((with_reducible refine wpList_load_ev _ w.heap.size e a cap hR3 ?_ rfl ?_); exact rfl)
    | (go_at_call 14; (with_reducible refine (HRr.out _ ho3).mono ?_); rintro x w5 ⟨rfl, hb⟩; replace HH := HH.below hb; replace hbt3 := below2 hbt3 hb; replace hR3 := rangeAt_kept hR3 hb; replace ho3 := ho3.kept hb; replace hun3 := hun3.kept hb)
    | (go_at_call 16; (with_reducible refine (HRd.out _ _ _ hun3 hcb).mono ?_); rintro x w6 ⟨ax, cx, rfl, hdx, hb⟩; replace HH := HH.below hb; replace hbt3 := below2 hbt3 hb; replace hR3 := rangeAt_kept hR3 hb; replace ho3 := ho3.kept hb; replace hun3 := hun3.kept hb)
    | (refine wpList_store_new 34 _ _ _ (evCells e ax cx).toArray rfl rfl (by kernel_rfl) rfl (by kernel_rfl) ?_))
  refine wp_name (fun W9 hW9 => ?_)
  have hb9 : Below w6.heap.size w6 W9 := by rw [hW9.out]; exact (Below.refl _ _).alloc (Nat.le_refl _) _
  have hRx : W9.rangeAt w6.heap.size 0 (evCells e ax cx) := by rw [hW9.out]; exact evCells_box e ax cx w6 _
  replace HH := HH.below hb9
  replace hbt3 := below2 hbt3 hb9
  replace hR3 := rangeAt_kept hR3 hb9
  replace ho3 := ho3.kept hb9
  replace hun3 := hun3.kept hb9
  replace hdx := hdx.kept hb9
  clear hW9 hb9
  go_wp2_with (first
    | ((with_reducible refine wpList_load_ev _ w.heap.size e a cap hR3 ?_ rfl ?_); exact rfl)
    | ((with_reducible refine wpList_load_ev _ w6.heap.size e ax cx hRx ?_ rfl ?_); exact rfl)
    | (go_at_call 18; (with_reducible refine (HRP.out _ ho3).mono ?_); rintro x wp ⟨v, rfl, hown, hb⟩; obtain ⟨ap, cp, rfl, hinp⟩ := own_bytes hown; replace HH := HH.below hb; replace hbt3 := below2 hbt3 hb; replace hR3 := rangeAt_kept hR3 hb; replace hRx := rangeAt_kept hRx hb; replace ho3 := ho3.kept hb; replace hdx := hdx.kept hb; replace hun3 := hun3.kept hb; clear hown hb)
    | (go_at_call 15; (with_reducible refine (WBytes_h HH (by omega)).mono ?_); rintro x wp2 ⟨v, rfl, hown, hb⟩; obtain ⟨aw, cw, rfl, hinw⟩ := own_bytes hown; replace hbt3 := below2 hbt3 hb; replace hR3 := rangeAt_kept hR3 hb; replace hRx := rangeAt_kept hRx hb; replace ho3 := ho3.kept hb; replace hdx := hdx.kept hb; replace hun3 := hun3.kept hb; clear hown hb)
    | (go_at_call 17; (with_reducible refine (HSB.out _ _ _ _ _ hun3 hinp).mono ?_); rintro x ws ⟨rfl, hb⟩; replace HH := HH.below hb; replace hbt3 := below2 hbt3 hb; replace hR3 := rangeAt_kept hR3 hb; replace hRx := rangeAt_kept hRx hb; replace ho3 := ho3.kept hb; replace hdx := hdx.kept hb; replace hun3 := hun3.kept hb; clear hb)
    | (go_at_call 17; (with_reducible refine (HSB.out _ _ _ _ _ hinw hun3).mono ?_); rintro x ws ⟨rfl, hb⟩; replace hbt3 := below2 hbt3 hb; replace hR3 := rangeAt_kept hR3 hb; replace hRx := rangeAt_kept hRx hb; replace ho3 := ho3.kept hb; replace hdx := hdx.kept hb; clear hb)
    | (go_at_call 19; (with_reducible refine (HSE.out _ _ _ hdx ho3).mono ?_); rintro x ws ⟨rfl, hb⟩; replace hbt3 := below2 hbt3 hb; clear hb)
    | (go_at_call 11; (with_reducible refine (HA.out _).mono ?_); rintro x w7 ⟨rfl, hb7⟩; replace hbt3 := below2 hbt3 hb7))
  go_ret
  exact ⟨rfl, hbt3⟩

set_option maxRecDepth 100000 in
theorem lawBytes_any (e : Ev) (a : Option Addr) (cap : Nat) (w : World) (he : EvIn w a cap e) :
    Calls Tryz.prog 3 #[evVal e a cap] w fun x w' => x = .returned (.bool true) ∧ Below w.heap.size w w' := by
  cases hl : light e with
  | true =>
    cases hok : evOk e with
    | true => exact lawBytes_yes e a cap w he hl hok
    | false => exact lawBytes_no e a cap w he hl hok
  | false =>
    have HL0 := fun (W : World) => Light_any e a cap W he.over he.name he.domain he.path he.value
    rw [hl] at HL0
    have HL := Lib.hid HL0
    have HA := Lib.hid awake_any
    clear HL0 hl he
    go_enter Tryz.func3, Tryz.ntmps3
    go_upto_region 1 with fail
    refine wp_name (fun W hW => ?_)
    have hbt : Below w.heap.size w W := by rw [hW.out]; go_grown
    have hR : W.rangeAt w.heap.size 0 (evCells e a cap) := by rw [hW.out]; exact evCells_box e a cap w _
    clear hW
    go_wp2_with (first
      | ((with_reducible refine wpList_load_ev _ w.heap.size e a cap hR ?_ rfl ?_); exact rfl)
      | (go_at_call 10; (with_reducible refine (HL.out _).mono ?_); rintro x w1 ⟨rfl, hb⟩; replace hbt := below2 hbt hb)
      | (go_at_call 11; (with_reducible refine (HA.out _).mono ?_); rintro x w2 ⟨rfl, hb2⟩; replace hbt := below2 hbt hb2))
    go_ret
    exact ⟨rfl, hbt⟩
end Go.Proofs.YtnpdfmpjjomhcaaGreat
