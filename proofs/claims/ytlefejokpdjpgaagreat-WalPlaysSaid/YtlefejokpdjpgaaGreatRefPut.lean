/- What the references pack: numbers, texts, dots, stamps. Conditions: at most 2^29 bytes. -/
import Derived.Test.YtlefejokpdjpgaaGreatRest
import Derived.Test.YtlefejokpdjpgaaGreatInj
import Derived.Test.YtlefejokpdjpgaaGreatEvs
import Derived.Maps.AppendAt
set_option linter.unusedSimpArgs false
set_option linter.unusedVariables false
set_option linter.unnecessarySimpa false
set_option maxHeartbeats 16000000
set_option maxRecDepth 100000
namespace Go.Proofs.YtlefejokpdjpgaaGreat
open Go.RowKit
theorem dh {w : World} {base : Nat} {v : Value} {l : Bytes} (h : w.ownsRow base 5 1 v l.length (byteVals l)) (hl : l ≠ []) : ∃ ad cap, v = .slice (some ad) l.length cap ∧ ∀ j u, (byteVals l)[j]? = some u → w.cell? (ad.add j) = some u := by
 obtain ⟨a, cap, rfl, hb⟩ := own_bytes h
 rcases hb with h0 | ⟨A, off, rfl, hb⟩
 ·exact absurd h0 hl
 ·exact ⟨⟨A, off, none⟩, cap, rfl, hb.news⟩
theorem bY (n : Nat) : shortB n ≠ [] := by
 rw [shortB]; split <;> simp
theorem own_below {w w1 : World} {base : Nat} {v : Value} {n : Nat} {xs : List Value} (h : w.ownsRow base 5 1 v n xs) (hb : Below w.heap.size w w1) : w1.ownsRow base 5 1 v n xs := ownsRow_below h hb
theorem y19 {p q : Prop} (k : q) (h : PLift q → p := by
 intro kk
 have hown0 : (w.alloc (Obj.cells #[] 5)).ownsRow w.heap.size 5 1 (.slice (some ⟨w.heap.size, 0, none⟩) 0 0) ([] : Bytes).length (byteVals []) := World.ownsRow_made _ _ _ (Nat.le_refl _) (by decide) rfl
 have hb0 : Below w.heap.size w (w.alloc (Obj.cells #[] 5)) := (Below.refl _ _).alloc (Nat.le_refl _) _
 revert hown0 hb0
 exact kk.down) : p := h ⟨k⟩
theorem kZ (n : Nat) (w : World) (hn : n < 18446744073709551616) : Calls Tryz.prog 135 #[.int .u64 n] w (RetBytes (shortB n) w) := by
 obtain ⟨i0, hi, hz0, hz1, hz2⟩ := info_parts Tryz.infoByte
 have hlen := shortB_len10 n hn
 go_enter Tryz.func135, Tryz.ntmps135
 go_wp2
 refine y19 ?_
 intro hown0 hb0
 go_loopw [0, 3, 4] (fun x out i wr => ∃ (m : Nat) (d : Bytes), x = .int .u64 m ∧ m ≤ n ∧ i = .int .i64 d.length ∧ d.length + (shortB m).length = (shortB n).length ∧ shortB n = d ++ shortB m ∧ wr.ownsRow w.heap.size 5 1 out d.length (byteVals d) ∧ Below w.heap.size w wr) (fun _ _ i _ => 10 - (intOf i).toNat)
 case atStart => exact ⟨n, [], rfl, Nat.le_refl _, rfl, by simp, rfl, hown0, hb0⟩
 case round =>
  obtain ⟨m, d, rfl, hm, rfl, hlen2, hpre, hown2, hbel2⟩ := hrel
  have HP := Lib.hid hpre
  clear hpre
  have hzw := hbel2.size
  have yY : 0 < (shortB m).length := List.length_pos_iff.2 (bY m)
  have hd9 : d.length < 10 := by omega
  by_cases h1 : m < 128
  ·have hS := Lib.hid (shortB_small m h1)
   have hx : Hid (Value.int .u8 (m : Int) = .int .u8 (UInt8.ofNat m).toNat) := by unfold Hid; congr 1; rw [UInt8.toNat_ofNat']; omega
   clear hlen2
   go_wp2_with (at_builtin; go_loud (refine wpList_append_own _ rfl _ _ 65 rfl w.heap.size 5 i0 (.int .u8 0) 1 1 Tryz.underlying65 hi hz0 hz1 hz2 rfl (by decide) _ _ _ rfl (hown2.alloc _) ⟨wr.heap.size, 0, none⟩ 1 1 [.int .u8 (m : Int)] rfl rfl (cell_one_new _ _ _) (by simp [Value.oneCell']) (by unfold maxLen; omega) (by omega) (by simp; omega) ?_))
   intro v' w2 hown3 hgrow _
   have hb3 := (hbel2.alloc hzw (Obj.cells #[.int .u8 (m : Int)] 5)).grown hgrow (by simp; omega) (fun k hk => (hown2.lt k hk).1)
   go_wp2
   go_ret
   exact ⟨_, rfl, by rw [hx.out] at hown3; rw [HP.out, hS.out]; simpa [byteVals_append, byteVals] using hown3, hb3⟩
  ·have hS := Lib.hid (shortB_big m h1)
   have hl0 : (shortB m).length = (shortB (m / 128)).length + 1 := by rw [hS.out]; simp
   have hl2 : (d ++ [UInt8.ofNat (m % 128 + 128)]).length + (shortB (m / 128)).length = (shortB n).length := by simp; omega
   have HL2 := Lib.hid hl2
   have hx : Hid (Value.int .u8 ((m : Int) % 128 + 128) = .int .u8 (UInt8.ofNat (m % 128 + 128)).toNat) := by unfold Hid; congr 1; rw [UInt8.toNat_ofNat']; omega
   clear hlen2 hl0 hl2
   go_wp2_with (at_builtin; go_loud (refine wpList_append_own _ rfl _ _ 65 rfl w.heap.size 5 i0 (.int .u8 0) 1 1 Tryz.underlying65 hi hz0 hz1 hz2 rfl (by decide) _ _ _ rfl (hown2.alloc _) ⟨wr.heap.size, 0, none⟩ 1 1 [_] rfl rfl (cell_one_new _ _ _) (by simp [Value.oneCell']) (by unfold maxLen; omega) (by omega) (by simp; omega) ?_))
   intro v' w2 hown3 hgrow _
   have hb3 := (hbel2.alloc hzw _).grown hgrow (by simp; omega) (fun k hk => (hown2.lt k hk).1)
   go_wp2
   go_roundw
   case rel => exact ⟨m / 128, d ++ [UInt8.ofNat (m % 128 + 128)], by go_num, by omega, by simp, HL2.out, by rw [HP.out, hS.out]; simp, by rw [hx.out] at hown3; simpa [byteVals_append, byteVals] using hown3, hb3⟩
   case measure => exact z39
theorem bQ (n : Nat) (w : World) (hn : n < 18446744073709551616) : Calls Tryz.prog 138 #[.int .u64 n] w (RetBytes (shortB n) w) := by
 have HP := Lib.hid (fun (W : World) => kZ n W hn)
 go_enter Tryz.func138, Tryz.ntmps138
 go_wp2_with (go_at_call 135; (with_reducible refine (HP.out _).mono ?_); rintro x w1 ⟨v, rfl, hown, hb⟩)
 go_ret
 exact ⟨_, rfl, hown, hb⟩
theorem qG (n : Int) (w : World) (h0 : -4398046511104 ≤ n) (h1 : n ≤ 4398046511104) : Calls Tryz.prog 199 #[.int .i64 n] w fun x w' => x = .returned (.int .u64 ((Lib.zigzag n : Nat) : Int)) ∧ w = w' := by
 by_cases hp : 0 ≤ n
 ·have HE : Hid (((Lib.zigzag n : Nat) : Int) = n * 2) := by unfold Hid Lib.zigzag; rw [if_pos hp]; omega
  go_enter Tryz.func199, Tryz.ntmps199
  go_wp2
  go_ret
  exact ⟨ret_int (by rw [HE.out]; try omega), rfl⟩
 ·have HE : Hid (((Lib.zigzag n : Nat) : Int) = -n * 2 - 1) := by unfold Hid Lib.zigzag; rw [if_neg hp]; omega
  have hd : decide (0 ≤ n) = false := decide_eq_false hp
  go_enter Tryz.func199, Tryz.ntmps199
  go_wp2
  go_ret
  exact ⟨ret_int (by rw [HE.out]; omega), rfl⟩
theorem o6 (n : Int) (w : World) (h0 : -4398046511104 ≤ n) (h1 : n ≤ 4398046511104) : Calls Tryz.prog 174 #[.int .i64 n] w (RetBytes (zigB n) w) := by
 have hz := zig_lt n h0 h1
 have HF := Lib.hid (fun (W : World) => qG n W h0 h1)
 have HP := Lib.hid (fun (W : World) => kZ (Lib.zigzag n) W (by omega))
 go_enter Tryz.func174, Tryz.ntmps174
 go_wp2_with (first
  | (go_at_call 199; (with_reducible refine (HF.out _).mono ?_); rintro x w1 ⟨rfl, rfl⟩)
  | (go_at_call 135; (with_reducible refine (HP.out _).mono ?_); rintro x w1 ⟨v, rfl, hown, hb⟩))
 go_ret
 exact ⟨_, rfl, hown, hb⟩
theorem eX (s : ByteArray) (w : World) (hs : s.size ≤ 268435456) : Calls Tryz.prog 173 #[.string s] w (RetBytes (textB (bl s)) w) := by
 obtain ⟨i0, hi, hz0, hz1, hz2⟩ := info_parts Tryz.infoByte
 have hlen := shortB_len10 s.size (by omega)
 have HP := Lib.hid (fun (W : World) => bQ s.size W (by omega))
 have HE : Hid (textB (bl s) = shortB s.size ++ bl s) := rfl
 go_enter Tryz.func173, Tryz.ntmps173
 go_upto_region 2 with (go_at_call 138; (with_reducible refine (HP.out _).mono ?_); rintro x W ⟨v, rfl, hown, hbt⟩)
 have hz := hbt.size
 obtain ⟨cap, w1, hrun, hb1, hz1', hcap, hby, _⟩ := conv_str (P := Tryz.prog) 9 65 5 Tryz.underlying9 Tryz.underlying65 Tryz.underlying5 W s
 replace hown := own_below hown hb1
 replace hbt := hbt.trans (hb1.mono hz)
 have hnews := hby.news
 replace hz := Nat.le_trans hz hb1.size
 have hsz : (bl s).length = s.size := rfl
 clear hb1 hcap hby
 go_wp2_with (at_builtin; refine wpList_append_own _ rfl _ _ 65 rfl w.heap.size 5 i0 (.int .u8 0) 1 1 Tryz.underlying65 hi hz0 hz1 hz2 rfl (by decide) _ _ _ rfl hown ⟨W.heap.size, 0, none⟩ _ _ (byteVals (bl s)) rfl (by rw [byteVals_length]; simp) hnews (byteVals_one _) (by unfold maxLen; omega) (by omega) (by omega) ?_; intro v2 w2 hown2 hgrow _; have hown3 : w2.ownsRow w.heap.size 5 1 v2 ((shortB s.size) ++ (bl s)).length (byteVals ((shortB s.size) ++ (bl s))) := (by rw [byteVals_append, List.length_append]; exact hown2); have dV := hbt.grown hgrow (by omega) (fun k hk => (hown.lt k hk).1); have hz3 := Nat.le_trans hz hgrow.size; clear hown2 hgrow; replace hown := hown3; replace hbt := dV; replace hz := hz3; clear hown3 dV hz3)
 go_ret
 rw [HE.out]
 exact ⟨_, rfl, hown, hbt⟩
theorem lX (B : Nat) (fs : List Bool) (w : World) (hf : fs.length ≤ 8) (hb : BoolsAt w B fs) : Calls Tryz.prog 172 #[.slice (some ⟨B, 0, none⟩) fs.length fs.length] w (RetBytes [UInt8.ofNat (flagsN fs)] w) := by
 go_enter Tryz.func172, Tryz.ntmps172
 go_wp2
 go_loop [3, 4, 5] (fun n b i => ∃ k : Nat, k ≤ fs.length ∧ i = .int .i64 k ∧ b = .int .i64 ((2 ^ k : Nat) : Int) ∧ n = .int .i64 (flagsN (fs.take k) : Nat)) (fun _ _ i => fs.length - (intOf i).toNat)
 case atStart => exact ⟨0, Nat.zero_le _, rfl, rfl, rfl⟩
 case round =>
  obtain ⟨k, hk, rfl, rfl, rfl⟩ := hrel
  have hn1 := flagsN_lt (fs.take k)
  have hln : (fs.take k).length = k := by simp; omega
  rw [hln] at hn1
  have hp8 : 2 ^ k ≤ 2 ^ 8 := Nat.pow_le_pow_right (by omega) (by omega)
  have hq8 : (2 : Nat) ^ 8 = 256 := by decide
  rw [hq8] at hp8
  clear hq8
  by_cases hlt : k < fs.length
  ·have hc := hb k hlt
   have hs := flagsN_snoc (fs.take k) fs[k]
   rw [← List.take_succ_eq_append_getElem hlt, hln] at hs
   have hps : Hid (2 ^ (k + 1) = 2 ^ k * 2) := Nat.pow_succ ..
   obtain ⟨p, hp⟩ : ∃ p, p = 2 ^ k := ⟨_, rfl⟩
   rw [← hp] at hs hps hn1 hp8 ⊢
   obtain ⟨q, hq⟩ : ∃ q, q = flagsN (fs.take k) := ⟨_, rfl⟩
   rw [← hq] at hs hn1 ⊢
   have HS := Lib.hid hs
   clear hs hq hp hln
   cases hbk : fs[k] with
   | true =>
     rw [hbk] at hc HS
     clear hbk
     go_wp2
     go_round
     case rel => exact ⟨k + 1, by omega, by go_num, by rw [hps.out]; go_num, by rw [HS.out, if_pos rfl]; go_num⟩
     case measure => exact z39
   | false =>
     rw [hbk] at hc HS
     clear hbk
     go_wp2
     go_round
     case rel => exact ⟨k + 1, by omega, by go_num, by rw [hps.out]; go_num, by rw [HS.out, if_neg (by decide)]; go_num⟩
     case measure => exact z39
  ·have htk : fs.take k = fs := List.take_of_length_le (by omega)
   rw [htk] at hn1 ⊢
   have hx : Hid ((flagsN fs : Int) = ((UInt8.ofNat (flagsN fs)).toNat : Int)) := by unfold Hid; rw [UInt8.toNat_ofNat']; omega
   clear htk hln
   generalize flagsN fs = q at *
   go_wp2
   go_ret
   refine ⟨_, rfl, ?_, by go_grown⟩
   refine ⟨rfl, Or.inr ⟨w.heap.size, 1, _, rfl, Nat.le_refl _, heap_alloc_last w _, by simp, by decide, rfl, ?_⟩⟩
   simp only [byteVals, List.map_cons, List.map_nil]
   rw [← hx.out]
   rfl
theorem z3 {p : Prop} (h : p := by
 go_upto_region 1 with fail
 refine wp_name (fun W0 hW0 => ?_)
 have hb0 : Below w.heap.size w W0 := by rw [hW0.out]; go_grown
 have c0 : W0.cell? ⟨w.heap.size, 0, none⟩ = some (.int .i64 x) := by rw [hW0.out]; go_simp
 have c1 : W0.cell? ⟨w.heap.size, 1, none⟩ = some (.int .i64 y) := by rw [hW0.out]; go_simp
 have c2 : W0.cell? ⟨w.heap.size, 2, none⟩ = some (.int .i64 z) := by rw [hW0.out]; go_simp
 have hz0' : w.heap.size < W0.heap.size := by rw [hW0.out]; simp
 clear hW0
 go_upto_region 2 with (go_at_call 138; (with_reducible refine (H1.out _).mono ?_); rintro e w1 ⟨v, rfl, hown, hbt⟩; have hz := hbt.size)
 replace c1 := kept hbt c1
 have C2 := Lib.hid c2
 clear c2
 go_upto_region 3 with (first
  | (go_at_call 138; (with_reducible refine (H2.out _).mono ?_); rintro e w2 ⟨v2, rfl, hown2, hb⟩; replace hown := own_below hown hb; replace hbt := below2 hbt hb; replace hz := Nat.le_trans hz hb.size; obtain ⟨ad, cp, rfl, hnews⟩ := dh hown2 (bY y); clear hown2 hb)
  | (at_builtin; refine wpList_append_own _ rfl _ _ 65 rfl W0.heap.size 5 i0 (.int .u8 0) 1 1 Tryz.underlying65 hi hz0 hz1 hz2 rfl (by decide) _ _ _ rfl hown ad _ _ (byteVals (shortB y)) rfl (by rw [byteVals_length]; simp) hnews (byteVals_one _) (by unfold maxLen; omega) (by omega) (by omega) ?_; intro v2 w2 hown2 hgrow _; have hown3 : w2.ownsRow W0.heap.size 5 1 v2 ((shortB x) ++ (shortB y)).length (byteVals ((shortB x) ++ (shortB y))) := (by rw [byteVals_append, List.length_append]; exact hown2); have dV := hbt.grown hgrow (by omega) (fun k hk => (hown.lt k hk).1); have hz3 := Nat.le_trans hz hgrow.size; clear hown2 hgrow; replace hown := hown3; replace hbt := dV; replace hz := hz3; clear hown3 dV hz3)
  )
 have c2 := kept hbt C2.out
 go_wp2_with (first
  | (go_at_call 138; (with_reducible refine (H3.out _).mono ?_); rintro e w3 ⟨v3, rfl, hown2, hb⟩; replace hown := own_below hown hb; replace hbt := below2 hbt hb; replace hz := Nat.le_trans hz hb.size; obtain ⟨ad, cp, rfl, hnews⟩ := dh hown2 (bY z); clear hown2 hb)
  | (at_builtin; refine wpList_append_own _ rfl _ _ 65 rfl W0.heap.size 5 i0 (.int .u8 0) 1 1 Tryz.underlying65 hi hz0 hz1 hz2 rfl (by decide) _ _ _ rfl hown ad _ _ (byteVals (shortB z)) rfl (by rw [byteVals_length]; simp) hnews (byteVals_one _) (by unfold maxLen; omega) (by omega) (by omega) ?_; intro v2 w2 hown2 hgrow _; have hown3 : w2.ownsRow W0.heap.size 5 1 v2 ((shortB x ++ shortB y) ++ (shortB z)).length (byteVals ((shortB x ++ shortB y) ++ (shortB z))) := (by rw [byteVals_append, List.length_append]; exact hown2); have dV := hbt.grown hgrow (by omega) (fun k hk => (hown.lt k hk).1); have hz3 := Nat.le_trans hz hgrow.size; clear hown2 hgrow; replace hown := hown3; replace hbt := dV; replace hz := hz3; clear hown3 dV hz3)
  )
 go_ret
 rw [HE.out]
 exact ⟨_, rfl, own_low hown (by omega), below2 hb0 hbt⟩) : p := h
theorem y7 {p q : Prop} (k : q) (h : PLift q → p := by
 intro kk
 have hxb : x < 18446744073709551616 := by omega
 have hyb : y < 18446744073709551616 := by omega
 have hzb : z < 18446744073709551616 := by omega
 have hxs : x < 9223372036854775808 := by omega
 have hys : y < 9223372036854775808 := by omega
 have hzs : z < 9223372036854775808 := by omega
 have l1 := shortB_len10 x hxb
 have l2 := shortB_len10 y hyb
 have l3 := shortB_len10 z hzb
 have l12 : (shortB x ++ shortB y).length ≤ 20 := by rw [List.length_append]; omega
 have H1 := Lib.hid (fun (W : World) => bQ x W hxb)
 have H2 := Lib.hid (fun (W : World) => bQ y W hyb)
 have H3 := Lib.hid (fun (W : World) => bQ z W hzb)
 revert hxb hyb hzb hxs hys hzs l1 l2 l3 l12 H1 H2 H3
 exact kk.down) : p := h ⟨k⟩
theorem jS (d : Dot) (w : World) (hd : dotOk d = true) : Calls Tryz.prog 170 #[.agg #[.int .i64 d.a.dev, .int .i64 d.a.inc, .int .i64 d.seq]] w (RetBytes (dotB d) w) := by
 obtain ⟨i0, hi, hz0, hz1, hz2⟩ := info_parts Tryz.infoByte
 have hq := hd
 unfold dotOk actorOk at hq
 simp only [Bool.and_eq_true, decide_eq_true_eq] at hq
 obtain ⟨x, hx⟩ : ∃ x : Nat, d.a.dev = x := ⟨(d.a.dev).toNat, by omega⟩
 obtain ⟨y, hy⟩ : ∃ y : Nat, d.a.inc = y := ⟨(d.a.inc).toNat, by omega⟩
 obtain ⟨z, hz'⟩ : ∃ z : Nat, d.seq = z := ⟨(d.seq).toNat, by omega⟩
 have HE : Hid (dotB d = (shortB x ++ shortB y) ++ shortB z) := by unfold Hid dotB; rw [if_pos hd, hx, hy, hz']; simp
 rw [hx, hy, hz'] at hq ⊢
 refine y7 ?_
 intro hxb hyb hzb hxs hys hzs l1 l2 l3 l12 H1 H2 H3
 clear hx hy hz' hq hd
 go_enter Tryz.func170, Tryz.ntmps170
 exact z3
theorem lL (d : Stamp) (w : World) (hd : stampOk d = true) : Calls Tryz.prog 171 #[.agg #[.int .i64 d.wall, .int .i64 d.count, .int .i64 d.dev]] w (RetBytes (stampB d) w) := by
 obtain ⟨i0, hi, hz0, hz1, hz2⟩ := info_parts Tryz.infoByte
 have hq := hd
 unfold stampOk at hq
 simp only [Bool.and_eq_true, decide_eq_true_eq] at hq
 obtain ⟨x, hx⟩ : ∃ x : Nat, d.wall = x := ⟨(d.wall).toNat, by omega⟩
 obtain ⟨y, hy⟩ : ∃ y : Nat, d.count = y := ⟨(d.count).toNat, by omega⟩
 obtain ⟨z, hz'⟩ : ∃ z : Nat, d.dev = z := ⟨(d.dev).toNat, by omega⟩
 have HE : Hid (stampB d = (shortB x ++ shortB y) ++ shortB z) := by unfold Hid stampB; rw [if_pos hd, hx, hy, hz']; simp
 rw [hx, hy, hz'] at hq ⊢
 refine y7 ?_
 intro hxb hyb hzb hxs hys hzs l1 l2 l3 l12 H1 H2 H3
 clear hx hy hz' hq hd
 go_enter Tryz.func171, Tryz.ntmps171
 exact z3
theorem oW {w w' : World} {b o : Nat} {cs : List Value} {g : Option Nat} (h : w.rangeAt b o cs) (hg : w.grownBy w' g) (hb : b < w.heap.size) (hne : some b ≠ g) : w'.rangeAt b o cs := fun j v hv => (World.cell?_of_block (hg.block b hb hne)).trans (h j v hv)
theorem uy (W : World) (b0 b1 b2 b3 b4 : Bool) (t : TypeId) : BoolsAt (W.alloc (Obj.cells #[.bool b0, .bool b1, .bool b2, .bool b3, .bool b4] t)) W.heap.size [b0, b1, b2, b3, b4] := by
 intro j hj
 rw [World.cell?_alloc_new]
 match j, hj with
 | 0, _ | 1, _ | 2, _ | 3, _ | 4, _ => rfl
theorem own_ne {v v2 : Value} {n b : Nat} (hat : v2.ownBlock = v.ownBlock ∨ v2.ownBlock = some n) (hne : ∀ g, v.ownBlock = some g → g ≠ b) (hb : b < n) : ∀ g, v2.ownBlock = some g → g ≠ b := by
 intro g hg
 rcases hat with h | h
 ·exact hne g (h.symm.trans hg)
 ·rw [h] at hg; cases hg; omega
theorem sD {d : Dot} (h : dotOk d = true) : dotB d ≠ [] := by
 unfold dotB; rw [if_pos h]
 intro e
 exact bY _ (List.append_eq_nil_iff.1 (List.append_eq_nil_iff.1 e).1).1
theorem sQ {d : Stamp} (h : stampOk d = true) : stampB d ≠ [] := by
 unfold stampB; rw [if_pos h]
 intro e
 exact bY _ (List.append_eq_nil_iff.1 (List.append_eq_nil_iff.1 e).1).1
theorem ji (l : Bytes) : textB l ≠ [] := fun e => bY _ (List.append_eq_nil_iff.1 e).1
/-- what has been packed so far, and the local cookie in block bc -/
structure OutInv (W0 : World) (bc : Nat) (ck : Ck) (v : Value) (L : Bytes) (W : World) : Prop where
 own : W.ownsRow W0.heap.size 5 1 v L.length (byteVals L)
 bel : Below W0.heap.size W0 W
 K : W.rangeAt bc 0 (ckCells ck)
 ne : ∀ g, v.ownBlock = some g → g ≠ bc
 lt : bc < W.heap.size
theorem OutInv.step {W0 : World} {bc : Nat} {ck : Ck} {v : Value} {L : Bytes} {w w' : World} (h : OutInv W0 bc ck v L w) (hb : Below w.heap.size w w') : OutInv W0 bc ck v L w' :=
 ⟨own_below h.own hb, below2 h.bel hb, rangeAt_kept h.K hb, h.ne, Nat.lt_of_lt_of_le h.lt hb.size⟩
theorem OutInv.app {W0 : World} {bc : Nat} {ck : Ck} {v v2 : Value} {L M : Bytes} {w w2 : World} (h : OutInv W0 bc ck v L w) (hown2 : w2.ownsRow W0.heap.size 5 1 v2 (L.length + M.length) (byteVals L ++ byteVals M))
 (hg : w.grownBy w2 v.ownBlock) (hat : v2.ownBlock = v.ownBlock ∨ v2.ownBlock = some w.heap.size) : OutInv W0 bc ck v2 (L ++ M) w2 :=
 ⟨by rw [byteVals_append, List.length_append]; exact hown2, h.bel.grown hg h.bel.size (fun k hk => (h.own.lt k hk).1), oW h.K hg h.lt (fun e => h.ne _ e.symm rfl), own_ne hat h.ne h.lt, Nat.lt_of_lt_of_le h.lt hg.size⟩
theorem y25 {p q : Prop} (k : q) (h : PLift q → p := by
 intro kk
 have t1 := textB_len (bl e.key.name) (by rw [bl_length]; omega)
 have t2 := textB_len (bl e.key.domain) (by rw [bl_length]; omega)
 have t3 := textB_len (bl e.key.path) (by rw [bl_length]; omega)
 have t4 := textB_len (bl e.ck.value) (by rw [bl_length]; omega)
 revert t1 t2 t3 t4
 exact kk.down) : p := h ⟨k⟩
theorem qJ (e : Ev) (a : Option Addr) (cap : Nat) (w : World) (hover : DotsIn w a e.over) (ht : EvTiny e) (he : evOk e = true) :
 Calls Tryz.prog 139 #[evVal e a cap] w (RetBytes (evB e) w) := by
 obtain ⟨i0, hi, hz0, hz1, hz2⟩ := info_parts Tryz.infoByte
 have hfit := evOk_fit he
 have hq := he
 unfold evOk overOk at hq
 simp only [Bool.and_eq_true, decide_eq_true_eq] at hq
 obtain ⟨x1, x2, hsd, ⟨_, x4⟩, x5⟩ := hq
 clear hsd
 have hall := overFrom_all _ _ _ x4
 have yz := hfit.over
 have nd := sD x1
 have ns := sQ x2
 have d1 := dotB_len e.dot
 have d2 := stampB_len e.stamp
 have d3 := shortB_len10 e.over.length (by omega)
 have d4 := dotsB_len e.over
 have yc : ∃ fb : Bytes, fb = [UInt8.ofNat (flagsN [e.kind == 1, e.ck.hostOnly, e.ck.secure, e.ck.httpOnly, e.ck.persistent])] := ⟨_, rfl⟩
 obtain ⟨fb, hfb⟩ := yc
 have hfl : fb.length ≤ 1 := by rw [hfb]; simp
 have yN : fb ≠ [] := by rw [hfb]; simp
 have l12 : (dotB e.dot ++ stampB e.stamp).length ≤ 60 := by rw [List.length_append]; omega
 have l13 : ((dotB e.dot ++ stampB e.stamp) ++ fb).length ≤ 61 := by rw [List.length_append]; omega
 have HB : Hid (evB e = ((((dotB e.dot ++ stampB e.stamp) ++ fb) ++ shortB e.over.length) ++ dotsB e.over) ++ evTail e) := by
  rw [hfb]; unfold Hid evB evHead; simp
 have HFs := Lib.hid hfb
 have H1 := Lib.hid (fun (W : World) => jS e.dot W x1)
 have H2 := Lib.hid (fun (W : World) => lL e.stamp W x2)
 have h3 : ∀ (W : World) (B : Nat), BoolsAt W B [e.kind == 1, e.ck.hostOnly, e.ck.secure, e.ck.httpOnly, e.ck.persistent] → Calls Tryz.prog 172 #[.slice (some ⟨B, 0, none⟩) 5 5] W (RetBytes fb W) := fun W B h => by rw [hfb]; exact lX B _ W (by simp) h
 have H3 := Lib.hid h3
 have H4 := Lib.hid (fun (W : World) => bQ e.over.length W (by omega))
 have HDs := Lib.hid (fun (W : World) (d : Dot) (h : dotOk d = true) => jS d W h)
 have hkind := hfit.kind
 have HA := Lib.hid hall
 have HIt := Lib.hid hfit.item
 clear h3 hfb he hall x4 x5 hfit
 go_enter Tryz.func139, Tryz.ntmps139
 go_upto_region 1 with fail
 refine wp_name (fun W0 hW0 => ?_)
 have hb0 : Below w.heap.size w W0 := by rw [hW0.out]; go_grown
 have hR : W0.rangeAt w.heap.size 0 (evCells e a cap) := by rw [hW0.out]; exact evCells_box e a cap w _
 have hz0' : w.heap.size < W0.heap.size := by rw [hW0.out]; simp
 have ho := hover.kept hb0
 clear hW0 hover
 have HR := Lib.hid hR
 have q0 := hR 0 _ rfl
 rw [Nat.zero_add] at q0
 have Q0 := Lib.hid q0
 have q1 := hR 1 _ rfl
 rw [Nat.zero_add] at q1
 have Q1 := Lib.hid q1
 have q2 := hR 2 _ rfl
 rw [Nat.zero_add] at q2
 have Q2 := Lib.hid q2
 have q3 := hR 3 _ rfl
 rw [Nat.zero_add] at q3
 have Q3 := Lib.hid q3
 have q4 := hR 4 _ rfl
 rw [Nat.zero_add] at q4
 have Q4 := Lib.hid q4
 have q5 := hR 5 _ rfl
 rw [Nat.zero_add] at q5
 have Q5 := Lib.hid q5
 have q6 := hR 6 _ rfl
 rw [Nat.zero_add] at q6
 have Q6 := Lib.hid q6
 have q7 := hR 7 _ rfl
 rw [Nat.zero_add] at q7
 have Q7 := Lib.hid q7
 have q8 := hR 8 _ rfl
 rw [Nat.zero_add] at q8
 have Q8 := Lib.hid q8
 have q9 := hR 9 _ rfl
 rw [Nat.zero_add] at q9
 have Q9 := Lib.hid q9
 have q10 := hR 10 _ rfl
 rw [Nat.zero_add] at q10
 have Q10 := Lib.hid q10
 have q11 := hR 11 _ rfl
 rw [Nat.zero_add] at q11
 have Q11 := Lib.hid q11
 have q12 := hR 12 _ rfl
 rw [Nat.zero_add] at q12
 have Q12 := Lib.hid q12
 have q13 := hR 13 _ rfl
 rw [Nat.zero_add] at q13
 have Q13 := Lib.hid q13
 have q14 := hR 14 _ rfl
 rw [Nat.zero_add] at q14
 have Q14 := Lib.hid q14
 have q15 := hR 15 _ rfl
 rw [Nat.zero_add] at q15
 have Q15 := Lib.hid q15
 have q16 := hR 16 _ rfl
 rw [Nat.zero_add] at q16
 have Q16 := Lib.hid q16
 have q17 := hR 17 _ rfl
 rw [Nat.zero_add] at q17
 have Q17 := Lib.hid q17
 have q18 := hR 18 _ rfl
 rw [Nat.zero_add] at q18
 have Q18 := Lib.hid q18
 clear hR q0 q1 q2 q3 q4 q5 q6 q7 q8 q9 q10 q11 q12 q13 q14 q15 q16 q17 q18
 have q0 := Q0.out; have q1 := Q1.out; have q2 := Q2.out
 go_upto_region 2 with (go_at_call 170; (with_reducible refine (H1.out _).mono ?_); rintro x w1 ⟨v, rfl, hown, hbt⟩; have hz := hbt.size)
 clear q0 q1 q2
 have q3 := kept hbt Q3.out
 have q4 := kept hbt Q4.out
 have q5 := kept hbt Q5.out
 go_upto_region 3 with (first
  | (go_at_call 171; (with_reducible refine (H2.out _).mono ?_); rintro x w2 ⟨v2, rfl, hown2, hb⟩; replace hown := own_below hown hb; replace hbt := below2 hbt hb; replace hz := Nat.le_trans hz hb.size; obtain ⟨ad, cp, rfl, hnews⟩ := dh hown2 ns; clear hown2 hb)
  | (at_builtin; refine wpList_append_own _ rfl _ _ 65 rfl W0.heap.size 5 i0 (.int .u8 0) 1 1 Tryz.underlying65 hi hz0 hz1 hz2 rfl (by decide) _ _ _ rfl hown ad _ _ (byteVals (stampB e.stamp)) rfl (by rw [byteVals_length]; simp) hnews (byteVals_one _) (by unfold maxLen; omega) (by omega) (by omega) ?_; intro v2 w2 hown2 hgrow _; have hown3 : w2.ownsRow W0.heap.size 5 1 v2 ((dotB e.dot) ++ (stampB e.stamp)).length (byteVals ((dotB e.dot) ++ (stampB e.stamp))) := (by rw [byteVals_append, List.length_append]; exact hown2); have dV := hbt.grown hgrow (by omega) (fun k hk => (hown.lt k hk).1); have hz3 := Nat.le_trans hz hgrow.size; clear hown2 hgrow; replace hown := hown3; replace hbt := dV; replace hz := hz3; clear hown3 dV hz3)
  )
 refine wp_name (fun W3 hW3 => ?_)
 rw [← hW3.out] at hown hbt hz
 clear hW3 q3 q4 q5
 have q10 := kept hbt Q10.out
 have q11 := kept hbt Q11.out
 have q12 := kept hbt Q12.out
 have q13 := kept hbt Q13.out
 have q14 := kept hbt Q14.out
 have q15 := kept hbt Q15.out
 have q16 := kept hbt Q16.out
 have q17 := kept hbt Q17.out
 have hltW := hown.lt
 go_upto_region 4 with (refine wpList_store_new 36 _ _ _ (ckCells e.ck).toArray rfl rfl (by kernel_rfl) rfl (by kernel_rfl) ?_)
 clear q10 q11 q12 q13 q14 q15 q16 q17
 refine wp_name (fun W4 hW4 => ?_)
 have hb4 : Below W3.heap.size W3 W4 := by rw [hW4.out]; exact (Below.refl _ _).alloc (Nat.le_refl _) _
 have hK : W4.rangeAt W3.heap.size 0 (ckCells e.ck) := by rw [hW4.out]; intro j u hj; rw [Nat.zero_add, World.cell?_alloc_new]; simpa using hj
 have hbc : W3.heap.size < W4.heap.size := by rw [hW4.out]; simp
 have HI : OutInv W0 W3.heap.size e.ck v2 (dotB e.dot ++ stampB e.stamp) W4 := ⟨own_below hown hb4, below2 hbt hb4, hK, fun g hg => by have := (hltW g hg).2; omega, hbc⟩
 clear hW4 hb4 hltW hown hbt hz hK hbc
 have q6 := kept HI.bel Q6.out
 have k1 := HI.K 1 _ rfl
 rw [Nat.zero_add] at k1
 have k2 := HI.K 2 _ rfl
 rw [Nat.zero_add] at k2
 have k3 := HI.K 3 _ rfl
 rw [Nat.zero_add] at k3
 have k4 := HI.K 4 _ rfl
 rw [Nat.zero_add] at k4
 have hba : ∀ o, Below W4.heap.size W4 (W4.alloc o) := fun o => (Below.refl W4.heap.size W4).alloc (Nat.le_refl _) o
 go_upto_region 5 with (first
  | (go_at_call 172; (with_reducible refine (H3.out _ _ (uy _ _ _ _ _ _ _)).mono ?_); rintro x wj ⟨vj, rfl, hown2, hb⟩; replace HI := (HI.step (hba _)).step hb; obtain ⟨ad, cp, rfl, hnews⟩ := dh hown2 yN; have hzz := HI.bel.size; clear hown2 hb)
  | (at_builtin; refine wpList_append_own_at _ rfl _ _ 65 rfl W0.heap.size 5 i0 (.int .u8 0) 1 1 Tryz.underlying65 hi hz0 hz1 hz2 rfl (by decide) _ _ _ rfl HI.own ad _ _ (byteVals fb) rfl (by rw [byteVals_length]; simp) hnews (byteVals_one _) (by unfold maxLen; omega) (by omega) hzz ?_; intro v2 w2 hown2 hgrow _ hat; replace HI := HI.app hown2 hgrow hat; clear hown2 hgrow hat hnews hzz)
  )
 clear q6 k1 k2 k3 k4 hba
 have q18 := kept HI.bel Q18.out
 go_upto_region 6 with (first
  | (go_at_call 138; (with_reducible refine (H4.out _).mono ?_); rintro x wj ⟨vj, rfl, hown2, hb⟩; replace HI := HI.step hb; obtain ⟨ad, cp, rfl, hnews⟩ := dh hown2 (bY _); have hzz := HI.bel.size; clear hown2 hb)
  | (at_builtin; refine wpList_append_own_at _ rfl _ _ 65 rfl W0.heap.size 5 i0 (.int .u8 0) 1 1 Tryz.underlying65 hi hz0 hz1 hz2 rfl (by decide) _ _ _ rfl HI.own ad _ _ (byteVals (shortB e.over.length)) rfl (by rw [byteVals_length]; simp) hnews (byteVals_one _) (by unfold maxLen; omega) (by omega) hzz ?_; intro v2 w2 hown2 hgrow _ hat; replace HI := HI.app hown2 hgrow hat; clear hown2 hgrow hat hnews hzz)
  )
 clear q18
 obtain ⟨LL, hLL⟩ : ∃ LL, LL = ((dotB e.dot ++ stampB e.stamp) ++ fb) ++ shortB e.over.length := ⟨_, rfl⟩
 have hLn : LL.length ≤ 1000 := by rw [hLL]; simp only [List.length_append]; omega
 rw [← hLL] at HI HB
 clear hLL
 have HO := Lib.hid ho
 have hd0 : LL = LL ++ dotsB (e.over.take 0) := by simp [dotsB]
 rw [hd0] at HI
 clear ho hd0
 go_wp2
 go_loopw [3, 5] (fun out i wr => ∃ k : Nat, k ≤ e.over.length ∧ i = .int .i64 k ∧ OutInv W0 W3.heap.size e.ck out (LL ++ dotsB (e.over.take k)) wr) (fun _ i _ => e.over.length - (intOf i).toNat)
 case atStart => exact ⟨0, Nat.zero_le _, rfl, HI⟩
 case round =>
  obtain ⟨k, hk, rfl, HI⟩ := hrel
  have q18 := kept HI.bel Q18.out
  by_cases hlt : k < e.over.length
  ·have hlk := dotsB_len (e.over.take k)
   rw [List.length_take, Nat.min_eq_left hk] at hlk
   have hLk : (LL ++ dotsB (e.over.take k)).length ≤ 4000 := by rw [List.length_append]; omega
   have hsn := dotsB_snoc (e.over.take k) e.over[k]
   rw [← List.take_succ_eq_append_getElem hlt] at hsn
   have HSn := Lib.hid hsn
   have hok := HA.out _ (List.getElem_mem hlt)
   have hdl := dotB_len e.over[k]
   rcases HO.out with h0 | ⟨A, off, rfl, hd⟩
   ·rw [h0] at hlt; simp at hlt
   have y0 := kept HI.bel (hd.dev k hlt)
   have y1 := kept HI.bel (hd.inc k hlt)
   have y2 := kept HI.bel (hd.seq k hlt)
   obtain ⟨dk, hdk⟩ : ∃ x, x = e.over[k] := ⟨_, rfl⟩
   rw [← hdk] at y0 y1 y2 hok HSn hdl
   have HDk := Lib.hid (fun (W : World) => HDs.out W dk hok)
   have hdn := sD hok
   clear hsn hdk hok
   go_wp2_with (first
        | (go_at_call 170; (with_reducible refine (HDk.out _).mono ?_); rintro x wj ⟨vj, rfl, hown2, hb⟩; replace HI := HI.step hb; obtain ⟨ad, cp, rfl, hnews⟩ := dh hown2 hdn; have hzz := HI.bel.size; clear hown2 hb)
        | (at_builtin; refine wpList_append_own_at _ rfl _ _ 65 rfl W0.heap.size 5 i0 (.int .u8 0) 1 1 Tryz.underlying65 hi hz0 hz1 hz2 rfl (by decide) _ _ _ rfl HI.own ad _ _ (byteVals (dotB dk)) rfl (by rw [byteVals_length]; simp) hnews (byteVals_one _) (by unfold maxLen; omega) (by omega) hzz ?_; intro v2 w2 hown2 hgrow _ hat; replace HI := HI.app hown2 hgrow hat; clear hown2 hgrow hat hnews hzz)
        )
   go_roundw
   case rel => exact ⟨k + 1, by omega, by go_num, by rw [HSn.out, ← List.append_assoc]; exact HI⟩
   case measure => exact z39
  ·have htk : e.over.take k = e.over := List.take_of_length_le (by omega)
   rw [htk] at HI
   clear htk
   obtain ⟨L5, hL5⟩ : ∃ L5, L5 = LL ++ dotsB e.over := ⟨_, rfl⟩
   have zD : L5.length ≤ 4000 := by rw [hL5, List.length_append]; omega
   rw [← hL5] at HI HB
   clear hL5
   have q6 := kept HI.bel Q6.out
   by_cases hk1 : e.kind = 1
   ·have e1 : (e.kind != 1) = false := by rw [bne_eq_false_iff_eq]; exact hk1
    obtain ⟨⟨f1, f2⟩, ⟨f3, f4⟩, f5, f6⟩ := HIt.out hk1
    obtain ⟨y, hy⟩ : ∃ y : Nat, e.ck.creation = y := ⟨e.ck.creation.toNat, by omega⟩
    obtain ⟨z, hz'⟩ : ∃ z : Nat, e.ck.access = z := ⟨e.ck.access.toNat, by omega⟩
    have HE : Hid (evB e = ((((((L5 ++ textB (bl e.key.name)) ++ textB (bl e.key.domain)) ++ textB (bl e.key.path)) ++ textB (bl e.ck.value)) ++ zigB e.ck.expiry) ++ shortB y) ++ shortB z) := by
     rw [Hid, HB.out]; unfold evTail; rw [if_pos hk1, hy, hz']; simp
    rw [hy] at f1 f2
    rw [hz'] at f3 f4
    have HY := Lib.hid hy
    have HZ := Lib.hid hz'
    obtain ⟨s1, s2, s3, s4⟩ := ht
    refine y25 ?_
    intro t1 t2 t3 t4
    simp only [bl_length] at t1 t2 t3 t4
    have t5 := zigB_len e.ck.expiry (by omega) (by omega)
    have t6 := shortB_len10 y (by omega)
    have t7 := shortB_len10 z (by omega)
    have yb : y < 18446744073709551616 := by omega
    have zb : z < 18446744073709551616 := by omega
    have HT1 := Lib.hid (fun (W : World) => eX e.key.name W (by omega))
    have HT2 := Lib.hid (fun (W : World) => eX e.key.domain W (by omega))
    have HT3 := Lib.hid (fun (W : World) => eX e.key.path W (by omega))
    have HT4 := Lib.hid (fun (W : World) => eX e.ck.value W (by omega))
    have HT5 := Lib.hid (fun (W : World) => o6 e.ck.expiry W (by omega) (by omega))
    have HT6 := Lib.hid (fun (W : World) => bQ y W yb)
    have HT7 := Lib.hid (fun (W : World) => bQ z W zb)
    clear hy hz' hk1
    go_upto_region 12 with fail
    clear q6 q18
    have q7 := kept HI.bel Q7.out
    go_upto_region 13 with (first
     | (go_at_call 173; (with_reducible refine (HT1.out _).mono ?_); rintro x wj ⟨vj, rfl, hown2, hb⟩; replace HI := HI.step hb; obtain ⟨ad, cp, rfl, hnews⟩ := dh hown2 (ji _); have hzz := HI.bel.size; clear hown2 hb)
     | (at_builtin; refine wpList_append_own_at _ rfl _ _ 65 rfl W0.heap.size 5 i0 (.int .u8 0) 1 1 Tryz.underlying65 hi hz0 hz1 hz2 rfl (by decide) _ _ _ rfl HI.own ad _ _ (byteVals (textB (bl e.key.name))) rfl (by rw [byteVals_length]; simp) hnews (byteVals_one _) (by unfold maxLen; omega) (by omega) hzz ?_; intro v2 w2 hown2 hgrow _ hat; replace HI := HI.app hown2 hgrow hat; clear hown2 hgrow hat hnews hzz)
     )
    obtain ⟨M0, hM0⟩ : ∃ M, M = L5 ++ (textB (bl e.key.name)) := ⟨_, rfl⟩
    have zC : M0.length ≤ 20000000 := by rw [hM0, List.length_append]; omega
    rw [← hM0] at HI HE
    clear hM0 q7
    have q8 := kept HI.bel Q8.out
    go_upto_region 14 with (first
     | (go_at_call 173; (with_reducible refine (HT2.out _).mono ?_); rintro x wj ⟨vj, rfl, hown2, hb⟩; replace HI := HI.step hb; obtain ⟨ad, cp, rfl, hnews⟩ := dh hown2 (ji _); have hzz := HI.bel.size; clear hown2 hb)
     | (at_builtin; refine wpList_append_own_at _ rfl _ _ 65 rfl W0.heap.size 5 i0 (.int .u8 0) 1 1 Tryz.underlying65 hi hz0 hz1 hz2 rfl (by decide) _ _ _ rfl HI.own ad _ _ (byteVals (textB (bl e.key.domain))) rfl (by rw [byteVals_length]; simp) hnews (byteVals_one _) (by unfold maxLen; omega) (by omega) hzz ?_; intro v2 w2 hown2 hgrow _ hat; replace HI := HI.app hown2 hgrow hat; clear hown2 hgrow hat hnews hzz)
     )
    obtain ⟨M1, hM1⟩ : ∃ M, M = M0 ++ (textB (bl e.key.domain)) := ⟨_, rfl⟩
    have zB : M1.length ≤ 40000000 := by rw [hM1, List.length_append]; omega
    rw [← hM1] at HI HE
    clear hM1 q8
    have q9 := kept HI.bel Q9.out
    go_upto_region 15 with (first
     | (go_at_call 173; (with_reducible refine (HT3.out _).mono ?_); rintro x wj ⟨vj, rfl, hown2, hb⟩; replace HI := HI.step hb; obtain ⟨ad, cp, rfl, hnews⟩ := dh hown2 (ji _); have hzz := HI.bel.size; clear hown2 hb)
     | (at_builtin; refine wpList_append_own_at _ rfl _ _ 65 rfl W0.heap.size 5 i0 (.int .u8 0) 1 1 Tryz.underlying65 hi hz0 hz1 hz2 rfl (by decide) _ _ _ rfl HI.own ad _ _ (byteVals (textB (bl e.key.path))) rfl (by rw [byteVals_length]; simp) hnews (byteVals_one _) (by unfold maxLen; omega) (by omega) hzz ?_; intro v2 w2 hown2 hgrow _ hat; replace HI := HI.app hown2 hgrow hat; clear hown2 hgrow hat hnews hzz)
     )
    obtain ⟨M2, hM2⟩ : ∃ M, M = M1 ++ (textB (bl e.key.path)) := ⟨_, rfl⟩
    have zA : M2.length ≤ 60000000 := by rw [hM2, List.length_append]; omega
    rw [← hM2] at HI HE
    clear hM2 q9
    have k0 := HI.K 0 _ rfl
    rw [Nat.zero_add] at k0
    go_upto_region 16 with (first
     | (go_at_call 173; (with_reducible refine (HT4.out _).mono ?_); rintro x wj ⟨vj, rfl, hown2, hb⟩; replace HI := HI.step hb; obtain ⟨ad, cp, rfl, hnews⟩ := dh hown2 (ji _); have hzz := HI.bel.size; clear hown2 hb)
     | (at_builtin; refine wpList_append_own_at _ rfl _ _ 65 rfl W0.heap.size 5 i0 (.int .u8 0) 1 1 Tryz.underlying65 hi hz0 hz1 hz2 rfl (by decide) _ _ _ rfl HI.own ad _ _ (byteVals (textB (bl e.ck.value))) rfl (by rw [byteVals_length]; simp) hnews (byteVals_one _) (by unfold maxLen; omega) (by omega) hzz ?_; intro v2 w2 hown2 hgrow _ hat; replace HI := HI.app hown2 hgrow hat; clear hown2 hgrow hat hnews hzz)
     )
    obtain ⟨M3, hM3⟩ : ∃ M, M = M2 ++ (textB (bl e.ck.value)) := ⟨_, rfl⟩
    have zy : M3.length ≤ 80000000 := by rw [hM3, List.length_append]; omega
    rw [← hM3] at HI HE
    clear hM3 k0
    have k5 := HI.K 5 _ rfl
    rw [Nat.zero_add] at k5
    go_upto_region 17 with (first
     | (go_at_call 174; (with_reducible refine (HT5.out _).mono ?_); rintro x wj ⟨vj, rfl, hown2, hb⟩; replace HI := HI.step hb; obtain ⟨ad, cp, rfl, hnews⟩ := dh hown2 (bY _); have hzz := HI.bel.size; clear hown2 hb)
     | (at_builtin; refine wpList_append_own_at _ rfl _ _ 65 rfl W0.heap.size 5 i0 (.int .u8 0) 1 1 Tryz.underlying65 hi hz0 hz1 hz2 rfl (by decide) _ _ _ rfl HI.own ad _ _ (byteVals (zigB e.ck.expiry)) rfl (by rw [byteVals_length]; simp) hnews (byteVals_one _) (by unfold maxLen; omega) (by omega) hzz ?_; intro v2 w2 hown2 hgrow _ hat; replace HI := HI.app hown2 hgrow hat; clear hown2 hgrow hat hnews hzz)
     )
    obtain ⟨M4, hM4⟩ : ∃ M, M = M3 ++ (zigB e.ck.expiry) := ⟨_, rfl⟩
    have zx : M4.length ≤ 100000000 := by rw [hM4, List.length_append]; omega
    rw [← hM4] at HI HE
    clear hM4 k5
    have k6 := HI.K 6 _ rfl
    rw [Nat.zero_add] at k6
    rw [HY.out] at k6
    go_upto_region 18 with (first
     | (go_at_call 138; (with_reducible refine (HT6.out _).mono ?_); rintro x wj ⟨vj, rfl, hown2, hb⟩; replace HI := HI.step hb; obtain ⟨ad, cp, rfl, hnews⟩ := dh hown2 (bY _); have hzz := HI.bel.size; clear hown2 hb)
     | (at_builtin; refine wpList_append_own_at _ rfl _ _ 65 rfl W0.heap.size 5 i0 (.int .u8 0) 1 1 Tryz.underlying65 hi hz0 hz1 hz2 rfl (by decide) _ _ _ rfl HI.own ad _ _ (byteVals (shortB y)) rfl (by rw [byteVals_length]; simp) hnews (byteVals_one _) (by unfold maxLen; omega) (by omega) hzz ?_; intro v2 w2 hown2 hgrow _ hat; replace HI := HI.app hown2 hgrow hat; clear hown2 hgrow hat hnews hzz)
     )
    obtain ⟨M5, hM5⟩ : ∃ M, M = M4 ++ (shortB y) := ⟨_, rfl⟩
    have zu : M5.length ≤ 120000000 := by rw [hM5, List.length_append]; omega
    rw [← hM5] at HI HE
    clear hM5 k6
    have k7 := HI.K 7 _ rfl
    rw [Nat.zero_add] at k7
    rw [HZ.out] at k7
    go_wp2_with (first
     | (go_at_call 138; (with_reducible refine (HT7.out _).mono ?_); rintro x wj ⟨vj, rfl, hown2, hb⟩; replace HI := HI.step hb; obtain ⟨ad, cp, rfl, hnews⟩ := dh hown2 (bY _); have hzz := HI.bel.size; clear hown2 hb)
     | (at_builtin; refine wpList_append_own_at _ rfl _ _ 65 rfl W0.heap.size 5 i0 (.int .u8 0) 1 1 Tryz.underlying65 hi hz0 hz1 hz2 rfl (by decide) _ _ _ rfl HI.own ad _ _ (byteVals (shortB z)) rfl (by rw [byteVals_length]; simp) hnews (byteVals_one _) (by unfold maxLen; omega) (by omega) hzz ?_; intro v2 w2 hown2 hgrow _ hat; replace HI := HI.app hown2 hgrow hat; clear hown2 hgrow hat hnews hzz)
     )
    go_ret
    rw [HE.out]
    exact ⟨_, rfl, own_low HI.own (by omega), below2 hb0 HI.bel⟩
   ·have e1 : (e.kind != 1) = true := by rw [bne_iff_ne]; exact hk1
    have HE : Hid (evB e = L5) := by rw [Hid, HB.out]; unfold evTail; rw [if_neg hk1]; simp
    clear hk1
    go_wp2
    go_ret
    rw [HE.out]
    exact ⟨_, rfl, own_low HI.own (by omega), below2 hb0 HI.bel⟩
end Go.Proofs.YtlefejokpdjpgaaGreat
