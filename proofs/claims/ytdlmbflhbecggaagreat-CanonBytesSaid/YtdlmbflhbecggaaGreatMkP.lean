/- What the references pack: numbers, texts, dots, stamps. Conditions: at most 2^29 bytes. -/
import Derived.Test.YtdlmbflhbecggaaGreatInj
import Derived.Test.YtdlmbflhbecggaaGreatMem
import Derived.Maps.AppendAt
import Derived.Test.YtdlmbflhbecggaaGreatMkB
import Derived.Deep.RegionHeld3
import Derived.Deep.RegionLaw
set_option linter.unusedSimpArgs false
set_option linter.unusedVariables false
set_option linter.unnecessarySimpa false
set_option maxHeartbeats 16000000
set_option maxRecDepth 100000
namespace Go.Proofs.YtdlmbflhbecggaaGreat
open Go.RowKit
theorem jF {w : World} {base : Nat} {v : Value} {l : Bytes} (h : w.ownsRow base 5 1 v l.length (aW l)) (hl : l ≠ []) : ∃ ad cap, v = .slice (some ad) l.length cap ∧ ∀ j u, (aW l)[j]? = some u → w.cell? (ad.add j) = some u := by
 obtain ⟨a, cap, rfl, hb⟩ := dH h
 rcases hb with h0 | ⟨A, off, rfl, hb⟩
 ·exact absurd h0 hl
 ·exact ⟨⟨A, off, none⟩, cap, rfl, hb.news⟩
theorem jb (n : Nat) : aN n ≠ [] := by
 rw [aN]; split <;> simp
theorem own_below {w w1 : World} {base : Nat} {v : Value} {n : Nat} {xs : List Value} (h : w.ownsRow base 5 1 v n xs) (hb : Below w.heap.size w w1) : w1.ownsRow base 5 1 v n xs := ownsRow_below h hb
theorem Ej (n : Nat) (w : World) (hn : n < 18446744073709551616) : Calls Tryz.prog 107 #[.int .u64 n] w (eH (aN n) w) := by
 obtain ⟨i0, hi, hz0, hz1, hz2⟩ := info_parts Tryz.infoByte
 have hlen := aV n hn
 go_enter Tryz.func107, Tryz.ntmps107
 go_wp2
 have hown0 : (w.alloc (Obj.cells #[] 5)).ownsRow w.heap.size 5 1 (.slice (some ⟨w.heap.size, 0, none⟩) 0 0) ([] : Bytes).length (aW []) := World.ownsRow_made _ _ _ (Nat.le_refl _) (by decide) rfl
 have hb0 : Below w.heap.size w (w.alloc (Obj.cells #[] 5)) := (Below.refl _ _).alloc (Nat.le_refl _) _
 go_loopw [0, 3, 4] (fun x out i wr => ∃ (m : Nat) (d : Bytes), x = .int .u64 m ∧ m ≤ n ∧ i = .int .i64 d.length ∧ d.length + (aN m).length = (aN n).length ∧ aN n = d ++ aN m ∧ wr.ownsRow w.heap.size 5 1 out d.length (aW d) ∧ Below w.heap.size w wr) (fun _ _ i _ => 10 - (intOf i).toNat)
 case atStart => exact ⟨n, [], rfl, Nat.le_refl _, rfl, by simp, rfl, hown0, hb0⟩
 case round =>
  obtain ⟨m, d, rfl, hm, rfl, hlen2, hpre, hown2, nJ⟩ := hrel
  have HP := Lib.hid hpre
  clear hpre
  have hzw := nJ.size
  have TJ : 0 < (aN m).length := List.length_pos_iff.2 (jb m)
  have hd9 : d.length < 10 := by omega
  by_cases h1 : m < 128
  ·have hS := Lib.hid (kG m h1)
   have hx : Hid (Value.int .u8 (m : Int) = .int .u8 (UInt8.ofNat m).toNat) := by unfold Hid; congr 1; rw [UInt8.toNat_ofNat']; omega
   clear hlen2
   exact z41
  ·have hS := Lib.hid (oQ m h1)
   have hl0 : (aN m).length = (aN (m / 128)).length + 1 := by rw [hS.out]; simp
   have hl2 : (d ++ [UInt8.ofNat (m % 128 + 128)]).length + (aN (m / 128)).length = (aN n).length := by simp; omega
   have HL2 := Lib.hid hl2
   have hx : Hid (Value.int .u8 ((m : Int) % 128 + 128) = .int .u8 (UInt8.ofNat (m % 128 + 128)).toNat) := by unfold Hid; congr 1; rw [UInt8.toNat_ofNat']; omega
   clear hlen2 hl0 hl2
   go_wp2_with (at_builtin; go_loud (refine wpList_append_own _ rfl _ _ 22 rfl w.heap.size 5 i0 (.int .u8 0) 1 1 Tryz.underlying22 hi hz0 hz1 hz2 rfl (by decide) _ _ _ rfl (hown2.alloc _) ⟨wr.heap.size, 0, none⟩ 1 1 [_] rfl rfl (cell_one_new _ _ _) (by simp [Value.oneCell']) (by unfold maxLen; omega) (by omega) (by simp; omega) ?_))
   intro v' w2 hown3 hgrow _
   have hb3 := (nJ.alloc hzw _).grown hgrow (by simp; omega) (fun k hk => (hown2.lt k hk).1)
   go_wp2
   go_roundw
   case rel => exact ⟨m / 128, d ++ [UInt8.ofNat (m % 128 + 128)], by go_num, by omega, by simp, HL2.out, by rw [HP.out, hS.out]; simp, by rw [hx.out] at hown3; simpa [dF, aW] using hown3, hb3⟩
   case measure => exact z67
theorem fM (n : Nat) (w : World) (hn : n < 18446744073709551616) : Calls Tryz.prog 53 #[.int .u64 n] w (eH (aN n) w) := by
 have HP := Lib.hid (fun (W : World) => Ej n W hn)
 go_enter Tryz.func53, Tryz.ntmps53
 go_wp2_with (go_at_call 107; (with_reducible refine (HP.out _).mono ?_); rintro x w1 ⟨v, rfl, hown, hb⟩)
 go_ret
 exact ⟨_, rfl, hown, hb⟩
theorem GG (n : Int) (w : World) (h0 : -4398046511104 ≤ n) (h1 : n ≤ 4398046511104) : Calls Tryz.prog 178 #[.int .i64 n] w fun x w' => x = .returned (.int .u64 ((Lib.zigzag n : Nat) : Int)) ∧ w = w' := by
 by_cases hp : 0 ≤ n
 ·have HE : Hid (((Lib.zigzag n : Nat) : Int) = n * 2) := by unfold Hid Lib.zigzag; rw [if_pos hp]; omega
  go_enter Tryz.func178, Tryz.ntmps178
  go_wp2
  go_ret
  exact ⟨dR (by rw [HE.out]; try omega), rfl⟩
 ·have HE : Hid (((Lib.zigzag n : Nat) : Int) = -n * 2 - 1) := by unfold Hid Lib.zigzag; rw [if_neg hp]; omega
  have hd : decide (0 ≤ n) = false := decide_eq_false hp
  go_enter Tryz.func178, Tryz.ntmps178
  go_wp2
  go_ret
  exact ⟨dR (by rw [HE.out]; omega), rfl⟩
theorem Em (n : Int) (w : World) (h0 : -4398046511104 ≤ n) (h1 : n ≤ 4398046511104) : Calls Tryz.prog 148 #[.int .i64 n] w (eH (pR n) w) := by
 have hz := Cf n h0 h1
 have HF := Lib.hid (fun (W : World) => GG n W h0 h1)
 have HP := Lib.hid (fun (W : World) => Ej (Lib.zigzag n) W (by omega))
 go_enter Tryz.func148, Tryz.ntmps148
 go_wp2_with (first
  | (go_at_call 178; (with_reducible refine (HF.out _).mono ?_); rintro x w1 ⟨rfl, rfl⟩)
  | (go_at_call 107; (with_reducible refine (HP.out _).mono ?_); rintro x w1 ⟨v, rfl, hown, hb⟩))
 go_ret
 exact ⟨_, rfl, hown, hb⟩
theorem lX (s : ByteArray) (w : World) (hs : s.size ≤ 268435456) : Calls Tryz.prog 147 #[.string s] w (eH (dD (bl s)) w) := by
 obtain ⟨i0, hi, hz0, hz1, hz2⟩ := info_parts Tryz.infoByte
 have hlen := aV s.size (by omega)
 have HP := Lib.hid (fun (W : World) => fM s.size W (by omega))
 have HE : Hid (dD (bl s) = aN s.size ++ bl s) := rfl
 go_enter Tryz.func147, Tryz.ntmps147
 go_upto_region 2 with (go_at_call 53; (with_reducible refine (HP.out _).mono ?_); rintro x W ⟨v, rfl, hown, hbt⟩)
 have hz := hbt.size
 obtain ⟨cap, w1, hrun, hb1, hz1', hcap, hby, _⟩ := Aa (P := Tryz.prog) 9 22 5 Tryz.underlying9 Tryz.underlying22 Tryz.underlying5 W s
 replace hown := own_below hown hb1
 replace hbt := hbt.trans (hb1.mono hz)
 have hnews := hby.news
 replace hz := Nat.le_trans hz hb1.size
 have hsz : (bl s).length = s.size := rfl
 clear hb1 hcap hby
 go_wp2_with (at_builtin; refine wpList_append_own _ rfl _ _ 22 rfl w.heap.size 5 i0 (.int .u8 0) 1 1 Tryz.underlying22 hi hz0 hz1 hz2 rfl (by decide) _ _ _ rfl hown ⟨W.heap.size, 0, none⟩ _ _ (aW (bl s)) rfl (by rw [bJ]; simp) hnews (dw _) (by unfold maxLen; omega) (by omega) (by omega) ?_; intro v2 w2 hown2 hgrow _; have hown3 : w2.ownsRow w.heap.size 5 1 v2 ((aN s.size) ++ (bl s)).length (aW ((aN s.size) ++ (bl s))) := (by rw [dF, List.length_append]; exact hown2); have rD := hbt.grown hgrow (by omega) (fun k hk => (hown.lt k hk).1); have hz3 := Nat.le_trans hz hgrow.size; clear hown2 hgrow; replace hown := hown3; replace hbt := rD; replace hz := hz3; clear hown3 rD hz3)
 go_ret
 rw [HE.out]
 exact ⟨_, rfl, hown, hbt⟩
theorem Ar (B : Nat) (fs : List Bool) (w : World) (hf : fs.length ≤ 8) (hb : mg w B fs) : Calls Tryz.prog 146 #[.slice (some ⟨B, 0, none⟩) fs.length fs.length] w (eH [UInt8.ofNat (dL fs)] w) := by
 go_enter Tryz.func146, Tryz.ntmps146
 go_wp2
 go_loop [3, 4, 5] (fun n b i => ∃ k : Nat, k ≤ fs.length ∧ i = .int .i64 k ∧ b = .int .i64 ((2 ^ k : Nat) : Int) ∧ n = .int .i64 (dL (fs.take k) : Nat)) (fun _ _ i => fs.length - (intOf i).toNat)
 case atStart => exact ⟨0, Nat.zero_le _, rfl, rfl, rfl⟩
 case round =>
  obtain ⟨k, hk, rfl, rfl, rfl⟩ := hrel
  have hn1 := qU (fs.take k)
  have hln : (fs.take k).length = k := by simp; omega
  rw [hln] at hn1
  have hp8 : 2 ^ k ≤ 2 ^ 8 := Nat.pow_le_pow_right (by omega) (by omega)
  have hq8 : (2 : Nat) ^ 8 = 256 := by decide
  rw [hq8] at hp8
  clear hq8
  by_cases hlt : k < fs.length
  ·have hc := hb k hlt
   have hs := qC (fs.take k) fs[k]
   rw [← List.take_succ_eq_append_getElem hlt, hln] at hs
   have hps : Hid (2 ^ (k + 1) = 2 ^ k * 2) := Nat.pow_succ ..
   obtain ⟨p, hp⟩ : ∃ p, p = 2 ^ k := ⟨_, rfl⟩
   rw [← hp] at hs hps hn1 hp8 ⊢
   obtain ⟨q, hq⟩ : ∃ q, q = dL (fs.take k) := ⟨_, rfl⟩
   rw [← hq] at hs hn1 ⊢
   have HS := Lib.hid hs
   clear hs hq hp hln
   cases hbk : fs[k] with
   | true =>
     rw [hbk] at hc HS
     clear hbk
     go_wp2
     go_round
     case rel => exact ⟨k + 1, by omega, by go_num, by rw [hps.out]; go_num, by rw [HS.out, if_pos rfl]; go_num⟩
     case measure => exact z67
   | false =>
     rw [hbk] at hc HS
     clear hbk
     go_wp2
     go_round
     case rel => exact ⟨k + 1, by omega, by go_num, by rw [hps.out]; go_num, by rw [HS.out, if_neg (by decide)]; go_num⟩
     case measure => exact z67
  ·have htk : fs.take k = fs := List.take_of_length_le (by omega)
   rw [htk] at hn1 ⊢
   have hx : Hid ((dL fs : Int) = ((UInt8.ofNat (dL fs)).toNat : Int)) := by unfold Hid; rw [UInt8.toNat_ofNat']; omega
   clear htk hln
   generalize dL fs = q at *
   go_wp2
   go_ret
   refine ⟨_, rfl, ?_, by go_grown⟩
   refine ⟨rfl, Or.inr ⟨w.heap.size, 1, _, rfl, Nat.le_refl _, heap_alloc_last w _, by simp, by decide, rfl, ?_⟩⟩
   simp only [aW, List.map_cons, List.map_nil]
   rw [← hx.out]
   rfl
theorem z12 {p : Prop} (h : p := by
 go_upto_region 1 with fail
 refine aX (fun W0 hW0 => ?_)
 have hb0 : Below w.heap.size w W0 := by rw [hW0.out]; go_grown
 have c0 : W0.cell? ⟨w.heap.size, 0, none⟩ = some (.int .i64 x) := by rw [hW0.out]; go_simp
 have c1 : W0.cell? ⟨w.heap.size, 1, none⟩ = some (.int .i64 y) := by rw [hW0.out]; go_simp
 have c2 : W0.cell? ⟨w.heap.size, 2, none⟩ = some (.int .i64 z) := by rw [hW0.out]; go_simp
 have hz0' : w.heap.size < W0.heap.size := by rw [hW0.out]; simp
 clear hW0
 go_upto_region 2 with (go_at_call 53; (with_reducible refine (H1.out _).mono ?_); rintro e w1 ⟨v, rfl, hown, hbt⟩; have hz := hbt.size)
 replace c1 := kept hbt c1
 have C2 := Lib.hid c2
 clear c2
 go_upto_region 3 with (first
  | (go_at_call 53; (with_reducible refine (H2.out _).mono ?_); rintro e w2 ⟨v2, rfl, hown2, hb⟩; replace hown := own_below hown hb; replace hbt := below2 hbt hb; replace hz := Nat.le_trans hz hb.size; obtain ⟨ad, cp, rfl, hnews⟩ := jF hown2 (jb y); clear hown2 hb)
  | (at_builtin; refine wpList_append_own _ rfl _ _ 22 rfl W0.heap.size 5 i0 (.int .u8 0) 1 1 Tryz.underlying22 hi hz0 hz1 hz2 rfl (by decide) _ _ _ rfl hown ad _ _ (aW (aN y)) rfl (by rw [bJ]; simp) hnews (dw _) (by unfold maxLen; omega) (by omega) (by omega) ?_; intro v2 w2 hown2 hgrow _; have hown3 : w2.ownsRow W0.heap.size 5 1 v2 ((aN x) ++ (aN y)).length (aW ((aN x) ++ (aN y))) := (by rw [dF, List.length_append]; exact hown2); have rD := hbt.grown hgrow (by omega) (fun k hk => (hown.lt k hk).1); have hz3 := Nat.le_trans hz hgrow.size; clear hown2 hgrow; replace hown := hown3; replace hbt := rD; replace hz := hz3; clear hown3 rD hz3)
  )
 have c2 := kept hbt C2.out
 go_wp2_with (first
  | (go_at_call 53; (with_reducible refine (H3.out _).mono ?_); rintro e w3 ⟨v3, rfl, hown2, hb⟩; replace hown := own_below hown hb; replace hbt := below2 hbt hb; replace hz := Nat.le_trans hz hb.size; obtain ⟨ad, cp, rfl, hnews⟩ := jF hown2 (jb z); clear hown2 hb)
  | (at_builtin; refine wpList_append_own _ rfl _ _ 22 rfl W0.heap.size 5 i0 (.int .u8 0) 1 1 Tryz.underlying22 hi hz0 hz1 hz2 rfl (by decide) _ _ _ rfl hown ad _ _ (aW (aN z)) rfl (by rw [bJ]; simp) hnews (dw _) (by unfold maxLen; omega) (by omega) (by omega) ?_; intro v2 w2 hown2 hgrow _; have hown3 : w2.ownsRow W0.heap.size 5 1 v2 ((aN x ++ aN y) ++ (aN z)).length (aW ((aN x ++ aN y) ++ (aN z))) := (by rw [dF, List.length_append]; exact hown2); have rD := hbt.grown hgrow (by omega) (fun k hk => (hown.lt k hk).1); have hz3 := Nat.le_trans hz hgrow.size; clear hown2 hgrow; replace hown := hown3; replace hbt := rD; replace hz := hz3; clear hown3 rD hz3)
  )
 go_ret
 rw [HE.out]
 exact ⟨_, rfl, fH hown (by omega), below2 hb0 hbt⟩) : p := h
theorem y30 {p q : Prop} (k : q) (h : PLift q → p := by
 intro kk
 have hxb : x < 18446744073709551616 := by omega
 have hyb : y < 18446744073709551616 := by omega
 have hzb : z < 18446744073709551616 := by omega
 have hxs : x < 9223372036854775808 := by omega
 have hys : y < 9223372036854775808 := by omega
 have hzs : z < 9223372036854775808 := by omega
 have l1 := aV x hxb
 have l2 := aV y hyb
 have l3 := aV z hzb
 have l12 : (aN x ++ aN y).length ≤ 20 := by rw [List.length_append]; omega
 have H1 := Lib.hid (fun (W : World) => fM x W hxb)
 have H2 := Lib.hid (fun (W : World) => fM y W hyb)
 have H3 := Lib.hid (fun (W : World) => fM z W hzb)
 revert hxb hyb hzb hxs hys hzs l1 l2 l3 l12 H1 H2 H3
 exact kk.down) : p := h ⟨k⟩
theorem nC (d : Dot) (w : World) (hd : bu d = true) : Calls Tryz.prog 54 #[.agg #[.int .i64 d.a.dev, .int .i64 d.a.inc, .int .i64 d.seq]] w (eH (jy d) w) := by
 obtain ⟨i0, hi, hz0, hz1, hz2⟩ := info_parts Tryz.infoByte
 have hq := hd
 unfold bu iW at hq
 simp only [Bool.and_eq_true, decide_eq_true_eq] at hq
 obtain ⟨x, hx⟩ : ∃ x : Nat, d.a.dev = x := ⟨(d.a.dev).toNat, by omega⟩
 obtain ⟨y, hy⟩ : ∃ y : Nat, d.a.inc = y := ⟨(d.a.inc).toNat, by omega⟩
 obtain ⟨z, hz'⟩ : ∃ z : Nat, d.seq = z := ⟨(d.seq).toNat, by omega⟩
 have HE : Hid (jy d = (aN x ++ aN y) ++ aN z) := by unfold Hid jy; rw [if_pos hd, hx, hy, hz']; simp
 rw [hx, hy, hz'] at hq ⊢
 refine y30 ?_
 intro hxb hyb hzb hxs hys hzs l1 l2 l3 l12 H1 H2 H3
 clear hx hy hz' hq hd
 go_enter Tryz.func54, Tryz.ntmps54
 exact z12
theorem Am (d : Stamp) (w : World) (hd : gV d = true) : Calls Tryz.prog 145 #[.agg #[.int .i64 d.wall, .int .i64 d.count, .int .i64 d.dev]] w (eH (fE d) w) := by
 obtain ⟨i0, hi, hz0, hz1, hz2⟩ := info_parts Tryz.infoByte
 have hq := hd
 unfold gV at hq
 simp only [Bool.and_eq_true, decide_eq_true_eq] at hq
 obtain ⟨x, hx⟩ : ∃ x : Nat, d.wall = x := ⟨(d.wall).toNat, by omega⟩
 obtain ⟨y, hy⟩ : ∃ y : Nat, d.count = y := ⟨(d.count).toNat, by omega⟩
 obtain ⟨z, hz'⟩ : ∃ z : Nat, d.dev = z := ⟨(d.dev).toNat, by omega⟩
 have HE : Hid (fE d = (aN x ++ aN y) ++ aN z) := by unfold Hid fE; rw [if_pos hd, hx, hy, hz']; simp
 rw [hx, hy, hz'] at hq ⊢
 refine y30 ?_
 intro hxb hyb hzb hxs hys hzs l1 l2 l3 l12 H1 H2 H3
 clear hx hy hz' hq hd
 go_enter Tryz.func145, Tryz.ntmps145
 exact z12
theorem Eg {w w' : World} {b o : Nat} {cs : List Value} {g : Option Nat} (h : w.rangeAt b o cs) (hg : w.grownBy w' g) (hb : b < w.heap.size) (hne : some b ≠ g) : w'.rangeAt b o cs := fun j v hv => (World.cell?_of_block (hg.block b hb hne)).trans (h j v hv)
theorem KO (W : World) (b0 b1 b2 b3 b4 : Bool) (t : TypeId) : mg (W.alloc (Obj.cells #[.bool b0, .bool b1, .bool b2, .bool b3, .bool b4] t)) W.heap.size [b0, b1, b2, b3, b4] := by
 intro j hj
 rw [World.cell?_alloc_new]
 match j, hj with
 | 0, _ | 1, _ | 2, _ | 3, _ | 4, _ => rfl
theorem own_ne {v v2 : Value} {n b : Nat} (hat : v2.ownBlock = v.ownBlock ∨ v2.ownBlock = some n) (hne : ∀ g, v.ownBlock = some g → g ≠ b) (hb : b < n) : ∀ g, v2.ownBlock = some g → g ≠ b := by
 intro g hg
 rcases hat with h | h
 ·exact hne g (h.symm.trans hg)
 ·rw [h] at hg; cases hg; omega
theorem DK {d : Dot} (h : bu d = true) : jy d ≠ [] := by
 unfold jy; rw [if_pos h]
 intro e
 exact jb _ (List.append_eq_nil_iff.1 (List.append_eq_nil_iff.1 e).1).1
theorem Jm {d : Stamp} (h : gV d = true) : fE d ≠ [] := by
 unfold fE; rw [if_pos h]
 intro e
 exact jb _ (List.append_eq_nil_iff.1 (List.append_eq_nil_iff.1 e).1).1
theorem tu (l : Bytes) : dD l ≠ [] := fun e => jb _ (List.append_eq_nil_iff.1 e).1
/-- what has been packed so far, and the local cookie in block bc -/
structure OutInv (W0 : World) (bc : Nat) (ck : Ck) (v : Value) (L : Bytes) (W : World) : Prop where
 own : W.ownsRow W0.heap.size 5 1 v L.length (aW L)
 bel : Below W0.heap.size W0 W
 K : W.rangeAt bc 0 (qY ck)
 ne : ∀ g, v.ownBlock = some g → g ≠ bc
 lt : bc < W.heap.size
theorem OutInv.step {W0 : World} {bc : Nat} {ck : Ck} {v : Value} {L : Bytes} {w w' : World} (h : OutInv W0 bc ck v L w) (hb : Below w.heap.size w w') : OutInv W0 bc ck v L w' :=
 ⟨own_below h.own hb, below2 h.bel hb, aj h.K hb, h.ne, Nat.lt_of_lt_of_le h.lt hb.size⟩
theorem OutInv.app {W0 : World} {bc : Nat} {ck : Ck} {v v2 : Value} {L M : Bytes} {w w2 : World} (h : OutInv W0 bc ck v L w) (hown2 : w2.ownsRow W0.heap.size 5 1 v2 (L.length + M.length) (aW L ++ aW M))
 (hg : w.grownBy w2 v.ownBlock) (hat : v2.ownBlock = v.ownBlock ∨ v2.ownBlock = some w.heap.size) : OutInv W0 bc ck v2 (L ++ M) w2 :=
 ⟨by rw [dF, List.length_append]; exact hown2, h.bel.grown hg h.bel.size (fun k hk => (h.own.lt k hk).1), Eg h.K hg h.lt (fun e => h.ne _ e.symm rfl), own_ne hat h.ne h.lt, Nat.lt_of_lt_of_le h.lt hg.size⟩
theorem yM (e : Ev) (a : Option Addr) (cap : Nat) (w : World) (ou : DotsIn w a e.over) (ht : EvTiny e) (he : cu e = true) :
 Calls Tryz.prog 106 #[ja e a cap] w (eH (evB e) w) := by
 obtain ⟨i0, hi, hz0, hz1, hz2⟩ := info_parts Tryz.infoByte
 have hfit := oI he
 have hq := he
 unfold cu overOk at hq
 simp only [Bool.and_eq_true, decide_eq_true_eq] at hq
 obtain ⟨x1, x2, hsd, ⟨_, x4⟩, x5⟩ := hq
 clear hsd
 have hall := o6 _ _ _ x4
 have Sj := hfit.over
 have nd := DK x1
 have ns := Jm x2
 have d1 := mQ e.dot
 have d2 := su e.stamp
 have d3 := aV e.over.length (by omega)
 have d4 := eQ e.over
 have Ri : ∃ fb : Bytes, fb = [UInt8.ofNat (dL [e.kind == 1, e.ck.hostOnly, e.ck.secure, e.ck.httpOnly, e.ck.persistent])] := ⟨_, rfl⟩
 obtain ⟨fb, hfb⟩ := Ri
 have hfl : fb.length ≤ 1 := by rw [hfb]; simp
 have SK : fb ≠ [] := by rw [hfb]; simp
 have l12 : (jy e.dot ++ fE e.stamp).length ≤ 60 := by rw [List.length_append]; omega
 have l13 : ((jy e.dot ++ fE e.stamp) ++ fb).length ≤ 61 := by rw [List.length_append]; omega
 have HB : Hid (evB e = ((((jy e.dot ++ fE e.stamp) ++ fb) ++ aN e.over.length) ++ bU e.over) ++ kX e) := by
  rw [hfb]; unfold Hid evB vP; simp
 have HFs := Lib.hid hfb
 have H1 := Lib.hid (fun (W : World) => nC e.dot W x1)
 have H2 := Lib.hid (fun (W : World) => Am e.stamp W x2)
 have h3 : ∀ (W : World) (B : Nat), mg W B [e.kind == 1, e.ck.hostOnly, e.ck.secure, e.ck.httpOnly, e.ck.persistent] → Calls Tryz.prog 146 #[.slice (some ⟨B, 0, none⟩) 5 5] W (eH fb W) := fun W B h => by rw [hfb]; exact Ar B _ W (by simp) h
 have H3 := Lib.hid h3
 have H4 := Lib.hid (fun (W : World) => fM e.over.length W (by omega))
 have HDs := Lib.hid (fun (W : World) (d : Dot) (h : bu d = true) => nC d W h)
 have hkind := hfit.kind
 have HA := Lib.hid hall
 have HIt := Lib.hid hfit.item
 clear h3 hfb he hall x4 x5 hfit
 go_enter Tryz.func106, Tryz.ntmps106
 go_upto_region 1 with fail
 refine aX (fun W0 hW0 => ?_)
 have hb0 : Below w.heap.size w W0 := by rw [hW0.out]; go_grown
 have hR : W0.rangeAt w.heap.size 0 (ah e a cap) := by rw [hW0.out]; exact bY e a cap w _
 have hz0' : w.heap.size < W0.heap.size := by rw [hW0.out]; simp
 have ho := ou.kept hb0
 clear hW0 ou
 have HR := Lib.hid hR
 have q0 := hR 0 _ rfl
 rw [Nat.zero_add] at q0
 have Q0 := Lib.hid q0
 have q1 := hR 1 _ rfl
 rw [Nat.zero_add] at q1
 have Q1 := Lib.hid q1
 have q2 := hR 2 _ rfl
 rw [Nat.zero_add] at q2
 have Q2 := Lib.hid q2
 have q3 := hR 3 _ rfl
 rw [Nat.zero_add] at q3
 have Q3 := Lib.hid q3
 have q4 := hR 4 _ rfl
 rw [Nat.zero_add] at q4
 have Q4 := Lib.hid q4
 have q5 := hR 5 _ rfl
 rw [Nat.zero_add] at q5
 have Q5 := Lib.hid q5
 have q6 := hR 6 _ rfl
 rw [Nat.zero_add] at q6
 have Q6 := Lib.hid q6
 have q7 := hR 7 _ rfl
 rw [Nat.zero_add] at q7
 have Q7 := Lib.hid q7
 have q8 := hR 8 _ rfl
 rw [Nat.zero_add] at q8
 have Q8 := Lib.hid q8
 have q9 := hR 9 _ rfl
 rw [Nat.zero_add] at q9
 have Q9 := Lib.hid q9
 have q10 := hR 10 _ rfl
 rw [Nat.zero_add] at q10
 have Q10 := Lib.hid q10
 have q11 := hR 11 _ rfl
 rw [Nat.zero_add] at q11
 have Q11 := Lib.hid q11
 have q12 := hR 12 _ rfl
 rw [Nat.zero_add] at q12
 have Q12 := Lib.hid q12
 have q13 := hR 13 _ rfl
 rw [Nat.zero_add] at q13
 have Q13 := Lib.hid q13
 have q14 := hR 14 _ rfl
 rw [Nat.zero_add] at q14
 have Q14 := Lib.hid q14
 have q15 := hR 15 _ rfl
 rw [Nat.zero_add] at q15
 have Q15 := Lib.hid q15
 have q16 := hR 16 _ rfl
 rw [Nat.zero_add] at q16
 have Q16 := Lib.hid q16
 have q17 := hR 17 _ rfl
 rw [Nat.zero_add] at q17
 have Q17 := Lib.hid q17
 have q18 := hR 18 _ rfl
 rw [Nat.zero_add] at q18
 have Q18 := Lib.hid q18
 clear hR q0 q1 q2 q3 q4 q5 q6 q7 q8 q9 q10 q11 q12 q13 q14 q15 q16 q17 q18
 have q0 := Q0.out; have q1 := Q1.out; have q2 := Q2.out
 go_upto_region 2 with (go_at_call 54; (with_reducible refine (H1.out _).mono ?_); rintro x w1 ⟨v, rfl, hown, hbt⟩; have hz := hbt.size)
 clear q0 q1 q2
 have q3 := kept hbt Q3.out
 have q4 := kept hbt Q4.out
 have q5 := kept hbt Q5.out
 go_upto_region 3 with (first
  | (go_at_call 145; (with_reducible refine (H2.out _).mono ?_); rintro x w2 ⟨v2, rfl, hown2, hb⟩; replace hown := own_below hown hb; replace hbt := below2 hbt hb; replace hz := Nat.le_trans hz hb.size; obtain ⟨ad, cp, rfl, hnews⟩ := jF hown2 ns; clear hown2 hb)
  | (at_builtin; refine wpList_append_own _ rfl _ _ 22 rfl W0.heap.size 5 i0 (.int .u8 0) 1 1 Tryz.underlying22 hi hz0 hz1 hz2 rfl (by decide) _ _ _ rfl hown ad _ _ (aW (fE e.stamp)) rfl (by rw [bJ]; simp) hnews (dw _) (by unfold maxLen; omega) (by omega) (by omega) ?_; intro v2 w2 hown2 hgrow _; have hown3 : w2.ownsRow W0.heap.size 5 1 v2 ((jy e.dot) ++ (fE e.stamp)).length (aW ((jy e.dot) ++ (fE e.stamp))) := (by rw [dF, List.length_append]; exact hown2); have rD := hbt.grown hgrow (by omega) (fun k hk => (hown.lt k hk).1); have hz3 := Nat.le_trans hz hgrow.size; clear hown2 hgrow; replace hown := hown3; replace hbt := rD; replace hz := hz3; clear hown3 rD hz3)
  )
 refine aX (fun W3 hW3 => ?_)
 rw [← hW3.out] at hown hbt hz
 clear hW3 q3 q4 q5
 have q10 := kept hbt Q10.out
 have q11 := kept hbt Q11.out
 have q12 := kept hbt Q12.out
 have q13 := kept hbt Q13.out
 have q14 := kept hbt Q14.out
 have q15 := kept hbt Q15.out
 have q16 := kept hbt Q16.out
 have q17 := kept hbt Q17.out
 have hltW := hown.lt
 go_upto_region 4 with (refine bQ 62 _ _ _ (qY e.ck).toArray rfl rfl (by kernel_rfl) rfl (by kernel_rfl) ?_)
 clear q10 q11 q12 q13 q14 q15 q16 q17
 refine aX (fun W4 hW4 => ?_)
 have hb4 : Below W3.heap.size W3 W4 := by rw [hW4.out]; exact (Below.refl _ _).alloc (Nat.le_refl _) _
 have hK : W4.rangeAt W3.heap.size 0 (qY e.ck) := by rw [hW4.out]; intro j u hj; rw [Nat.zero_add, World.cell?_alloc_new]; simpa using hj
 have hbc : W3.heap.size < W4.heap.size := by rw [hW4.out]; simp
 have HI : OutInv W0 W3.heap.size e.ck v2 (jy e.dot ++ fE e.stamp) W4 := ⟨own_below hown hb4, below2 hbt hb4, hK, fun g hg => by have := (hltW g hg).2; omega, hbc⟩
 clear hW4 hb4 hltW hown hbt hz hK hbc
 have q6 := kept HI.bel Q6.out
 have k1 := HI.K 1 _ rfl
 rw [Nat.zero_add] at k1
 have k2 := HI.K 2 _ rfl
 rw [Nat.zero_add] at k2
 have k3 := HI.K 3 _ rfl
 rw [Nat.zero_add] at k3
 have k4 := HI.K 4 _ rfl
 rw [Nat.zero_add] at k4
 have hba : ∀ o, Below W4.heap.size W4 (W4.alloc o) := fun o => (Below.refl W4.heap.size W4).alloc (Nat.le_refl _) o
 go_upto_region 5 with (first
  | (go_at_call 146; (with_reducible refine (H3.out _ _ (KO _ _ _ _ _ _ _)).mono ?_); rintro x wj ⟨vj, rfl, hown2, hb⟩; replace HI := (HI.step (hba _)).step hb; obtain ⟨ad, cp, rfl, hnews⟩ := jF hown2 SK; have hzz := HI.bel.size; clear hown2 hb)
  | (at_builtin; refine wpList_append_own_at _ rfl _ _ 22 rfl W0.heap.size 5 i0 (.int .u8 0) 1 1 Tryz.underlying22 hi hz0 hz1 hz2 rfl (by decide) _ _ _ rfl HI.own ad _ _ (aW fb) rfl (by rw [bJ]; simp) hnews (dw _) (by unfold maxLen; omega) (by omega) hzz ?_; intro v2 w2 hown2 hgrow _ hat; replace HI := HI.app hown2 hgrow hat; clear hown2 hgrow hat hnews hzz)
  )
 clear q6 k1 k2 k3 k4 hba
 have q18 := kept HI.bel Q18.out
 go_upto_region 6 with (first
  | (go_at_call 53; (with_reducible refine (H4.out _).mono ?_); rintro x wj ⟨vj, rfl, hown2, hb⟩; replace HI := HI.step hb; obtain ⟨ad, cp, rfl, hnews⟩ := jF hown2 (jb _); have hzz := HI.bel.size; clear hown2 hb)
  | (at_builtin; refine wpList_append_own_at _ rfl _ _ 22 rfl W0.heap.size 5 i0 (.int .u8 0) 1 1 Tryz.underlying22 hi hz0 hz1 hz2 rfl (by decide) _ _ _ rfl HI.own ad _ _ (aW (aN e.over.length)) rfl (by rw [bJ]; simp) hnews (dw _) (by unfold maxLen; omega) (by omega) hzz ?_; intro v2 w2 hown2 hgrow _ hat; replace HI := HI.app hown2 hgrow hat; clear hown2 hgrow hat hnews hzz)
  )
 clear q18
 obtain ⟨LL, hLL⟩ : ∃ LL, LL = ((jy e.dot ++ fE e.stamp) ++ fb) ++ aN e.over.length := ⟨_, rfl⟩
 have hLn : LL.length ≤ 1000 := by rw [hLL]; simp only [List.length_append]; omega
 rw [← hLL] at HI HB
 clear hLL
 have HO := Lib.hid ho
 have hd0 : LL = LL ++ bU (e.over.take 0) := by simp [bU]
 rw [hd0] at HI
 clear ho hd0
 go_wp2
 go_loopw [3, 5] (fun out i wr => ∃ k : Nat, k ≤ e.over.length ∧ i = .int .i64 k ∧ OutInv W0 W3.heap.size e.ck out (LL ++ bU (e.over.take k)) wr) (fun _ i _ => e.over.length - (intOf i).toNat)
 case atStart => exact ⟨0, Nat.zero_le _, rfl, HI⟩
 case round =>
  obtain ⟨k, hk, rfl, HI⟩ := hrel
  have q18 := kept HI.bel Q18.out
  by_cases hlt : k < e.over.length
  ·have hlk := eQ (e.over.take k)
   rw [List.length_take, Nat.min_eq_left hk] at hlk
   have hLk : (LL ++ bU (e.over.take k)).length ≤ 4000 := by rw [List.length_append]; omega
   have hsn := kY (e.over.take k) e.over[k]
   rw [← List.take_succ_eq_append_getElem hlt] at hsn
   have HSn := Lib.hid hsn
   have hok := HA.out _ (List.getElem_mem hlt)
   have hdl := mQ e.over[k]
   rcases HO.out with h0 | ⟨A, off, rfl, hd⟩
   ·rw [h0] at hlt; simp at hlt
   have y0 := kept HI.bel (hd.dev k hlt)
   have y1 := kept HI.bel (hd.inc k hlt)
   have y2 := kept HI.bel (hd.seq k hlt)
   obtain ⟨dk, hdk⟩ : ∃ x, x = e.over[k] := ⟨_, rfl⟩
   rw [← hdk] at y0 y1 y2 hok HSn hdl
   have HDk := Lib.hid (fun (W : World) => HDs.out W dk hok)
   have hdn := DK hok
   clear hsn hdk hok
   go_wp2_with (first
        | (go_at_call 54; (with_reducible refine (HDk.out _).mono ?_); rintro x wj ⟨vj, rfl, hown2, hb⟩; replace HI := HI.step hb; obtain ⟨ad, cp, rfl, hnews⟩ := jF hown2 hdn; have hzz := HI.bel.size; clear hown2 hb)
        | (at_builtin; refine wpList_append_own_at _ rfl _ _ 22 rfl W0.heap.size 5 i0 (.int .u8 0) 1 1 Tryz.underlying22 hi hz0 hz1 hz2 rfl (by decide) _ _ _ rfl HI.own ad _ _ (aW (jy dk)) rfl (by rw [bJ]; simp) hnews (dw _) (by unfold maxLen; omega) (by omega) hzz ?_; intro v2 w2 hown2 hgrow _ hat; replace HI := HI.app hown2 hgrow hat; clear hown2 hgrow hat hnews hzz)
        )
   go_roundw
   case rel => exact ⟨k + 1, by omega, by go_num, by rw [HSn.out, ← List.append_assoc]; exact HI⟩
   case measure => exact z67
  ·have htk : e.over.take k = e.over := List.take_of_length_le (by omega)
   rw [htk] at HI
   clear htk
   obtain ⟨L5, hL5⟩ : ∃ L5, L5 = LL ++ bU e.over := ⟨_, rfl⟩
   have Uf : L5.length ≤ 4000 := by rw [hL5, List.length_append]; omega
   rw [← hL5] at HI HB
   clear hL5
   have q6 := kept HI.bel Q6.out
   by_cases hk1 : e.kind = 1
   ·have e1 : (e.kind != 1) = false := by rw [bne_eq_false_iff_eq]; exact hk1
    obtain ⟨⟨f1, f2⟩, ⟨f3, f4⟩, f5, f6⟩ := HIt.out hk1
    obtain ⟨y, hy⟩ : ∃ y : Nat, e.ck.creation = y := ⟨e.ck.creation.toNat, by omega⟩
    obtain ⟨z, hz'⟩ : ∃ z : Nat, e.ck.access = z := ⟨e.ck.access.toNat, by omega⟩
    have HE : Hid (evB e = ((((((L5 ++ dD (bl e.key.name)) ++ dD (bl e.key.domain)) ++ dD (bl e.key.path)) ++ dD (bl e.ck.value)) ++ pR e.ck.expiry) ++ aN y) ++ aN z) := by
     rw [Hid, HB.out]; unfold kX; rw [if_pos hk1, hy, hz']; simp
    rw [hy] at f1 f2
    rw [hz'] at f3 f4
    have HY := Lib.hid hy
    have HZ := Lib.hid hz'
    obtain ⟨s1, s2, s3, s4⟩ := ht
    refine y32 ?_
    intro t1 t2 t3 t4
    simp only [au] at t1 t2 t3 t4
    have t5 := xW e.ck.expiry (by omega) (by omega)
    have t6 := aV y (by omega)
    have t7 := aV z (by omega)
    have yb : y < 18446744073709551616 := by omega
    have zb : z < 18446744073709551616 := by omega
    have HT1 := Lib.hid (fun (W : World) => lX e.key.name W (by omega))
    have HT2 := Lib.hid (fun (W : World) => lX e.key.domain W (by omega))
    have HT3 := Lib.hid (fun (W : World) => lX e.key.path W (by omega))
    have HT4 := Lib.hid (fun (W : World) => lX e.ck.value W (by omega))
    have HT5 := Lib.hid (fun (W : World) => Em e.ck.expiry W (by omega) (by omega))
    have HT6 := Lib.hid (fun (W : World) => fM y W yb)
    have HT7 := Lib.hid (fun (W : World) => fM z W zb)
    clear hy hz' hk1
    go_upto_region 12 with fail
    clear q6 q18
    have q7 := kept HI.bel Q7.out
    go_upto_region 13 with (first
     | (go_at_call 147; (with_reducible refine (HT1.out _).mono ?_); rintro x wj ⟨vj, rfl, hown2, hb⟩; replace HI := HI.step hb; obtain ⟨ad, cp, rfl, hnews⟩ := jF hown2 (tu _); have hzz := HI.bel.size; clear hown2 hb)
     | (at_builtin; refine wpList_append_own_at _ rfl _ _ 22 rfl W0.heap.size 5 i0 (.int .u8 0) 1 1 Tryz.underlying22 hi hz0 hz1 hz2 rfl (by decide) _ _ _ rfl HI.own ad _ _ (aW (dD (bl e.key.name))) rfl (by rw [bJ]; simp) hnews (dw _) (by unfold maxLen; omega) (by omega) hzz ?_; intro v2 w2 hown2 hgrow _ hat; replace HI := HI.app hown2 hgrow hat; clear hown2 hgrow hat hnews hzz)
     )
    obtain ⟨M0, hM0⟩ : ∃ M, M = L5 ++ (dD (bl e.key.name)) := ⟨_, rfl⟩
    have Uc : M0.length ≤ 20000000 := by rw [hM0, List.length_append]; omega
    rw [← hM0] at HI HE
    clear hM0 q7
    have q8 := kept HI.bel Q8.out
    go_upto_region 14 with (first
     | (go_at_call 147; (with_reducible refine (HT2.out _).mono ?_); rintro x wj ⟨vj, rfl, hown2, hb⟩; replace HI := HI.step hb; obtain ⟨ad, cp, rfl, hnews⟩ := jF hown2 (tu _); have hzz := HI.bel.size; clear hown2 hb)
     | (at_builtin; refine wpList_append_own_at _ rfl _ _ 22 rfl W0.heap.size 5 i0 (.int .u8 0) 1 1 Tryz.underlying22 hi hz0 hz1 hz2 rfl (by decide) _ _ _ rfl HI.own ad _ _ (aW (dD (bl e.key.domain))) rfl (by rw [bJ]; simp) hnews (dw _) (by unfold maxLen; omega) (by omega) hzz ?_; intro v2 w2 hown2 hgrow _ hat; replace HI := HI.app hown2 hgrow hat; clear hown2 hgrow hat hnews hzz)
     )
    obtain ⟨M1, hM1⟩ : ∃ M, M = M0 ++ (dD (bl e.key.domain)) := ⟨_, rfl⟩
    have Ub : M1.length ≤ 40000000 := by rw [hM1, List.length_append]; omega
    rw [← hM1] at HI HE
    clear hM1 q8
    have q9 := kept HI.bel Q9.out
    go_upto_region 15 with (first
     | (go_at_call 147; (with_reducible refine (HT3.out _).mono ?_); rintro x wj ⟨vj, rfl, hown2, hb⟩; replace HI := HI.step hb; obtain ⟨ad, cp, rfl, hnews⟩ := jF hown2 (tu _); have hzz := HI.bel.size; clear hown2 hb)
     | (at_builtin; refine wpList_append_own_at _ rfl _ _ 22 rfl W0.heap.size 5 i0 (.int .u8 0) 1 1 Tryz.underlying22 hi hz0 hz1 hz2 rfl (by decide) _ _ _ rfl HI.own ad _ _ (aW (dD (bl e.key.path))) rfl (by rw [bJ]; simp) hnews (dw _) (by unfold maxLen; omega) (by omega) hzz ?_; intro v2 w2 hown2 hgrow _ hat; replace HI := HI.app hown2 hgrow hat; clear hown2 hgrow hat hnews hzz)
     )
    obtain ⟨M2, hM2⟩ : ∃ M, M = M1 ++ (dD (bl e.key.path)) := ⟨_, rfl⟩
    have Ua : M2.length ≤ 60000000 := by rw [hM2, List.length_append]; omega
    rw [← hM2] at HI HE
    clear hM2 q9
    have k0 := HI.K 0 _ rfl
    rw [Nat.zero_add] at k0
    go_upto_region 16 with (first
     | (go_at_call 147; (with_reducible refine (HT4.out _).mono ?_); rintro x wj ⟨vj, rfl, hown2, hb⟩; replace HI := HI.step hb; obtain ⟨ad, cp, rfl, hnews⟩ := jF hown2 (tu _); have hzz := HI.bel.size; clear hown2 hb)
     | (at_builtin; refine wpList_append_own_at _ rfl _ _ 22 rfl W0.heap.size 5 i0 (.int .u8 0) 1 1 Tryz.underlying22 hi hz0 hz1 hz2 rfl (by decide) _ _ _ rfl HI.own ad _ _ (aW (dD (bl e.ck.value))) rfl (by rw [bJ]; simp) hnews (dw _) (by unfold maxLen; omega) (by omega) hzz ?_; intro v2 w2 hown2 hgrow _ hat; replace HI := HI.app hown2 hgrow hat; clear hown2 hgrow hat hnews hzz)
     )
    obtain ⟨M3, hM3⟩ : ∃ M, M = M2 ++ (dD (bl e.ck.value)) := ⟨_, rfl⟩
    have TZ : M3.length ≤ 80000000 := by rw [hM3, List.length_append]; omega
    rw [← hM3] at HI HE
    clear hM3 k0
    have k5 := HI.K 5 _ rfl
    rw [Nat.zero_add] at k5
    go_upto_region 17 with (first
     | (go_at_call 148; (with_reducible refine (HT5.out _).mono ?_); rintro x wj ⟨vj, rfl, hown2, hb⟩; replace HI := HI.step hb; obtain ⟨ad, cp, rfl, hnews⟩ := jF hown2 (jb _); have hzz := HI.bel.size; clear hown2 hb)
     | (at_builtin; refine wpList_append_own_at _ rfl _ _ 22 rfl W0.heap.size 5 i0 (.int .u8 0) 1 1 Tryz.underlying22 hi hz0 hz1 hz2 rfl (by decide) _ _ _ rfl HI.own ad _ _ (aW (pR e.ck.expiry)) rfl (by rw [bJ]; simp) hnews (dw _) (by unfold maxLen; omega) (by omega) hzz ?_; intro v2 w2 hown2 hgrow _ hat; replace HI := HI.app hown2 hgrow hat; clear hown2 hgrow hat hnews hzz)
     )
    obtain ⟨M4, hM4⟩ : ∃ M, M = M3 ++ (pR e.ck.expiry) := ⟨_, rfl⟩
    have TY : M4.length ≤ 100000000 := by rw [hM4, List.length_append]; omega
    rw [← hM4] at HI HE
    clear hM4 k5
    have k6 := HI.K 6 _ rfl
    rw [Nat.zero_add] at k6
    rw [HY.out] at k6
    go_upto_region 18 with (first
     | (go_at_call 53; (with_reducible refine (HT6.out _).mono ?_); rintro x wj ⟨vj, rfl, hown2, hb⟩; replace HI := HI.step hb; obtain ⟨ad, cp, rfl, hnews⟩ := jF hown2 (jb _); have hzz := HI.bel.size; clear hown2 hb)
     | (at_builtin; refine wpList_append_own_at _ rfl _ _ 22 rfl W0.heap.size 5 i0 (.int .u8 0) 1 1 Tryz.underlying22 hi hz0 hz1 hz2 rfl (by decide) _ _ _ rfl HI.own ad _ _ (aW (aN y)) rfl (by rw [bJ]; simp) hnews (dw _) (by unfold maxLen; omega) (by omega) hzz ?_; intro v2 w2 hown2 hgrow _ hat; replace HI := HI.app hown2 hgrow hat; clear hown2 hgrow hat hnews hzz)
     )
    obtain ⟨M5, hM5⟩ : ∃ M, M = M4 ++ (aN y) := ⟨_, rfl⟩
    have TW : M5.length ≤ 120000000 := by rw [hM5, List.length_append]; omega
    rw [← hM5] at HI HE
    clear hM5 k6
    have k7 := HI.K 7 _ rfl
    rw [Nat.zero_add] at k7
    rw [HZ.out] at k7
    go_wp2_with (first
     | (go_at_call 53; (with_reducible refine (HT7.out _).mono ?_); rintro x wj ⟨vj, rfl, hown2, hb⟩; replace HI := HI.step hb; obtain ⟨ad, cp, rfl, hnews⟩ := jF hown2 (jb _); have hzz := HI.bel.size; clear hown2 hb)
     | (at_builtin; refine wpList_append_own_at _ rfl _ _ 22 rfl W0.heap.size 5 i0 (.int .u8 0) 1 1 Tryz.underlying22 hi hz0 hz1 hz2 rfl (by decide) _ _ _ rfl HI.own ad _ _ (aW (aN z)) rfl (by rw [bJ]; simp) hnews (dw _) (by unfold maxLen; omega) (by omega) hzz ?_; intro v2 w2 hown2 hgrow _ hat; replace HI := HI.app hown2 hgrow hat; clear hown2 hgrow hat hnews hzz)
     )
    go_ret
    rw [HE.out]
    exact ⟨_, rfl, fH HI.own (by omega), below2 hb0 HI.bel⟩
   ·have e1 : (e.kind != 1) = true := by rw [bne_iff_ne]; exact hk1
    have HE : Hid (evB e = L5) := by rw [Hid, HB.out]; unfold kX; rw [if_neg hk1]; simp
    clear hk1
    go_wp2
    go_ret
    rw [HE.out]
    exact ⟨_, rfl, fH HI.own (by omega), below2 hb0 HI.bel⟩
theorem rO (a : Option Addr) (cap : Nat) (mk : List Dot) (w : World) (hm : bf mk = 0) (hd : DotsIn w a mk) :
 Calls Tryz.prog 51 #[.slice a mk.length cap] w (eH (eX mk) w) := by
 obtain ⟨i0, hi, hz0, hz1, hz2⟩ := info_parts Tryz.infoByte
 obtain ⟨hml, hall⟩ := lZ hm
 have hsl := aV mk.length (by omega)
 have HN := Lib.hid (fun (W : World) => fM mk.length W (by omega))
 have HE : Hid (eX mk = aN mk.length ++ bU (mk.take mk.length)) := by unfold Hid eX; rw [List.take_length]
 obtain ⟨M, hM⟩ : ∃ M, M = aN mk.length := ⟨_, rfl⟩
 rw [← hM] at HN HE hsl
 clear hM hm
 go_enter Tryz.func51, Tryz.ntmps51
 go_upto_region 2 with (go_at_call 53; (with_reducible refine (HN.out _).mono ?_); rintro x W ⟨v, rfl, hown, hbt⟩)
 go_wp2
 go_loopw [3, 4] (fun out i wr => ∃ k : Nat, k ≤ mk.length ∧ i = .int .i64 k ∧ wr.ownsRow w.heap.size 5 1 out (M ++ bU (mk.take k)).length (aW (M ++ bU (mk.take k))) ∧ Below w.heap.size w wr) (fun _ i _ => mk.length - (intOf i).toNat)
 case atStart => exact ⟨0, Nat.zero_le _, rfl, by simpa [bU] using hown, hbt⟩
 case round =>
  obtain ⟨k, hk, rfl, hown2, hbw⟩ := hrel
  have hzw := hbw.size
  by_cases hlt : k < mk.length
  ·have hln : (M ++ bU (mk.take k)).length ≤ 200000 := by
        have := eQ (mk.take k)
        rw [List.length_append]; simp at this; omega
   have hsn : mk.take (k + 1) = mk.take k ++ [mk[k]] := List.take_succ_eq_append_getElem hlt
   rcases hd with h0 | ⟨A, off, rfl, hda⟩
   ·rw [h0] at hlt; simp at hlt
   have e0 := hda.dev k hlt
   have e1 := hda.inc k hlt
   have e2 := hda.seq k hlt
   have hok := hall _ (List.getElem_mem hlt)
   have HS : Hid (M ++ bU (mk.take (k + 1)) = M ++ bU (mk.take k) ++ jy mk[k]) := by rw [Hid, hsn, kY, List.append_assoc]
   clear hsn
   generalize mk[k] = x at e0 e1 e2 HS hok
   have hxl := mQ x
   have HP := Lib.hid (fun (W : World) => nC x W hok)
   have hxn := DK hok
   obtain ⟨L, hL⟩ : ∃ L, L = M ++ bU (mk.take k) := ⟨_, rfl⟩
   rw [← hL] at hown2 hln HS
   obtain ⟨X, hX⟩ : ∃ X, X = jy x := ⟨_, rfl⟩
   rw [← hX] at HS hxl HP hxn
   clear hL hown hok hX
   have hB : Below w.heap.size w wr.drew := hbw.drew
   replace hown2 : wr.drew.ownsRow w.heap.size 5 1 _ L.length (aW L) := hown2
   have hix0 : (0 : Int) ≤ (k : Int) := by omega
   have hix1 : (k : Int) < (mk.length : Int) := by omega
   go_wp2_with fail
   go_region_held3 (fun W' => W'.cell? ⟨A, off + k * 3, none⟩ = some (.int .i64 x.a.dev) ∧ W'.cell? ⟨A, off + k * 3 + 1, none⟩ = some (.int .i64 x.a.inc) ∧ W'.cell? ⟨A, off + k * 3 + 2, none⟩ = some (.int .i64 x.seq)) (first | exact ⟨kept2 hB e0, kept2 hB e1, kept2 hB e2⟩ | go_keep)
        (first
         | (go_at_call 54; (with_reducible refine (HP.out _).mono ?_); rintro v w3 ⟨vx, rfl, hown3, hb3⟩; obtain ⟨ax, cx, rfl, Dz⟩ := dH hown3; replace hB := below2 hB hb3; replace hown2 := ownsRow_below hown2 hb3; clear hb3 hown3)
         | (refine kE rfl (.tmp 15) (.tmp 27) rfl rfl w.heap.size _ L rfl hown2 ax X cx rfl Dz (by omega) hB.size ?_; intro v4 w4 hown4 hg4; replace hB := hB.grown hg4 hB.size (fun k hk => (hown2.lt k hk).1); clear hg4 hown2))
   go_wp2
   go_roundw
   case rel => exact ⟨k + 1, by omega, by go_num, by rw [HS.out]; exact hown4, hB⟩
   case measure => exact z67
  ·have hke : k = mk.length := by omega
   subst hke
   go_wp2
   go_ret
   rw [HE.out]
   exact ⟨_, rfl, hown2, hbw⟩
end Go.Proofs.YtdlmbflhbecggaaGreat
