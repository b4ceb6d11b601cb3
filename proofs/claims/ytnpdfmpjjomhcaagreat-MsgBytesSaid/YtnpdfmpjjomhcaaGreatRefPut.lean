/- What the references pack: numbers, texts, dots, stamps. Conditions: at most 2^29 bytes. -/
import Derived.Test.YtnpdfmpjjomhcaaGreatBytes
import Derived.Test.YtnpdfmpjjomhcaaGreatMem
set_option linter.unusedSimpArgs false
set_option linter.unusedVariables false
set_option linter.unnecessarySimpa false
namespace Go.Proofs.YtnpdfmpjjomhcaaGreat
open Go.RowKit

theorem own_src {w : World} {base : Nat} {v : Value} {l : Bytes} (h : w.ownsRow base 5 1 v l.length (byteVals l)) (hl : l ≠ []) : ∃ ad cap, v = .slice (some ad) l.length cap ∧ ∀ j u, (byteVals l)[j]? = some u → w.cell? (ad.add j) = some u := by
  obtain ⟨a, cap, rfl, hb⟩ := own_bytes h
  rcases hb with h0 | ⟨A, off, rfl, hb⟩
  · exact absurd h0 hl
  · exact ⟨⟨A, off, none⟩, cap, rfl, hb.news⟩
theorem shortB_ne (n : Nat) : shortB n ≠ [] := by
  rw [shortB]; split <;> simp
theorem own_below {w w1 : World} {base : Nat} {v : Value} {n : Nat} {xs : List Value} (h : w.ownsRow base 5 1 v n xs) (hb : Below w.heap.size w w1) : w1.ownsRow base 5 1 v n xs := ownsRow_below h hb

set_option maxRecDepth 100000 in
set_option maxHeartbeats 1000000 in
theorem rPut_any (n : Nat) (w : World) (hn : n < 18446744073709551616) : Calls Tryz.prog 110 #[.int .u64 n] w (RetBytes (shortB n) w) := by
  obtain ⟨i0, hi, hz0, hz1, hz2⟩ := info_parts Tryz.infoByte
  have hlen := shortB_len10 n hn
  go_enter Tryz.func110, Tryz.ntmps110
  go_wp2
  have hown0 : (w.alloc (Obj.cells #[] 5)).ownsRow w.heap.size 5 1 (.slice (some ⟨w.heap.size, 0, none⟩) 0 0) ([] : Bytes).length (byteVals []) := World.ownsRow_made _ _ _ (Nat.le_refl _) (by decide) rfl
  have hb0 : Below w.heap.size w (w.alloc (Obj.cells #[] 5)) := (Below.refl _ _).alloc (Nat.le_refl _) _
  go_loopw [0, 3, 4] (fun x out i wr => ∃ (m : Nat) (d : Bytes), x = .int .u64 m ∧ m ≤ n ∧ i = .int .i64 d.length ∧ d.length + (shortB m).length = (shortB n).length ∧ shortB n = d ++ shortB m ∧ wr.ownsRow w.heap.size 5 1 out d.length (byteVals d) ∧ Below w.heap.size w wr) (fun _ _ i _ => 10 - (intOf i).toNat)
  case atStart => exact ⟨n, [], rfl, Nat.le_refl _, rfl, by simp, rfl, hown0, hb0⟩
  case round =>
    obtain ⟨m, d, rfl, hm, rfl, hlen2, hpre, hown2, hbel2⟩ := hrel
    have HP := Lib.hid hpre
    clear hpre
    have hzw := hbel2.size
    have hsne : 0 < (shortB m).length := List.length_pos_iff.2 (shortB_ne m)
    have hd9 : d.length < 10 := by omega
    by_cases h1 : m < 128
    · have hS := Lib.hid (shortB_small m h1)
      have hx : Hid (Value.int .u8 (m : Int) = .int .u8 (UInt8.ofNat m).toNat) := by unfold Hid; congr 1; rw [UInt8.toNat_ofNat']; omega
      clear hlen2
      go_wp2_with (at_builtin; go_loud (refine wpList_append_own _ rfl _ _ 37 rfl w.heap.size 5 i0 (.int .u8 0) 1 1 Tryz.underlying37 hi hz0 hz1 hz2 rfl (by decide) _ _ _ rfl (hown2.alloc _) ⟨wr.heap.size, 0, none⟩ 1 1 [.int .u8 (m : Int)] rfl rfl (cell_one_new _ _ _) (by simp [Value.oneCell']) (by unfold maxLen; omega) (by omega) (by simp; omega) ?_))
      intro v' w2 hown3 hgrow _
      have hb3 := (hbel2.alloc hzw (Obj.cells #[.int .u8 (m : Int)] 5)).grown hgrow (by simp; omega) (fun k hk => (hown2.lt k hk).1)
      go_wp2
      go_ret
      exact ⟨_, rfl, by rw [hx.out] at hown3; rw [HP.out, hS.out]; simpa [byteVals_append, byteVals] using hown3, hb3⟩
    · have hS := Lib.hid (shortB_big m h1)
      have hl0 : (shortB m).length = (shortB (m / 128)).length + 1 := by rw [hS.out]; simp
      have hl2 : (d ++ [UInt8.ofNat (m % 128 + 128)]).length + (shortB (m / 128)).length = (shortB n).length := by simp; omega
      have HL2 := Lib.hid hl2
      have hx : Hid (Value.int .u8 ((m : Int) % 128 + 128) = .int .u8 (UInt8.ofNat (m % 128 + 128)).toNat) := by unfold Hid; congr 1; rw [UInt8.toNat_ofNat']; omega
      clear hlen2 hl0 hl2
      go_wp2_with (at_builtin; go_loud (refine wpList_append_own _ rfl _ _ 37 rfl w.heap.size 5 i0 (.int .u8 0) 1 1 Tryz.underlying37 hi hz0 hz1 hz2 rfl (by decide) _ _ _ rfl (hown2.alloc _) ⟨wr.heap.size, 0, none⟩ 1 1 [_] rfl rfl (cell_one_new _ _ _) (by simp [Value.oneCell']) (by unfold maxLen; omega) (by omega) (by simp; omega) ?_))
      intro v' w2 hown3 hgrow _
      have hb3 := (hbel2.alloc hzw _).grown hgrow (by simp; omega) (fun k hk => (hown2.lt k hk).1)
      go_wp2
      go_roundw
      case rel => exact ⟨m / 128, d ++ [UInt8.ofNat (m % 128 + 128)], by go_num, by omega, by simp, HL2.out, by rw [HP.out, hS.out]; simp, by rw [hx.out] at hown3; simpa [byteVals_append, byteVals] using hown3, hb3⟩
      case measure => simp [intOf] <;> omega
theorem rNumPut_any (n : Nat) (w : World) (hn : n < 18446744073709551616) : Calls Tryz.prog 61 #[.int .u64 n] w (RetBytes (shortB n) w) := by
  have HP := Lib.hid (fun (W : World) => rPut_any n W hn)
  go_enter Tryz.func61, Tryz.ntmps61
  go_wp2_with (go_at_call 110; (with_reducible refine (HP.out _).mono ?_); rintro x w1 ⟨v, rfl, hown, hb⟩)
  go_ret
  exact ⟨_, rfl, hown, hb⟩
theorem rFold_any (n : Int) (w : World) (h0 : -4398046511104 ≤ n) (h1 : n ≤ 4398046511104) : Calls Tryz.prog 111 #[.int .i64 n] w fun x w' => x = .returned (.int .u64 ((Lib.zigzag n : Nat) : Int)) ∧ w = w' := by
  by_cases hp : 0 ≤ n
  · have HE : Hid (((Lib.zigzag n : Nat) : Int) = n * 2) := by unfold Hid Lib.zigzag; rw [if_pos hp]; omega
    go_enter Tryz.func111, Tryz.ntmps111
    go_wp2
    go_ret
    exact ⟨ret_int (by rw [HE.out]; try omega), rfl⟩
  · have HE : Hid (((Lib.zigzag n : Nat) : Int) = -n * 2 - 1) := by unfold Hid Lib.zigzag; rw [if_neg hp]; omega
    have hd : decide (0 ≤ n) = false := decide_eq_false hp
    go_enter Tryz.func111, Tryz.ntmps111
    go_wp2
    go_ret
    exact ⟨ret_int (by rw [HE.out]; omega), rfl⟩
theorem rPutInt_any (n : Int) (w : World) (h0 : -4398046511104 ≤ n) (h1 : n ≤ 4398046511104) : Calls Tryz.prog 63 #[.int .i64 n] w (RetBytes (zigB n) w) := by
  have hz := zig_lt n h0 h1
  have HF := Lib.hid (fun (W : World) => rFold_any n W h0 h1)
  have HP := Lib.hid (fun (W : World) => rPut_any (Lib.zigzag n) W (by omega))
  go_enter Tryz.func63, Tryz.ntmps63
  go_wp2_with (first
    | (go_at_call 111; (with_reducible refine (HF.out _).mono ?_); rintro x w1 ⟨rfl, rfl⟩)
    | (go_at_call 110; (with_reducible refine (HP.out _).mono ?_); rintro x w1 ⟨v, rfl, hown, hb⟩))
  go_ret
  exact ⟨_, rfl, hown, hb⟩
end Go.Proofs.YtnpdfmpjjomhcaaGreat

/- What the references pack: texts, flags, dots, stamps. Conditions: at most 2^29 bytes. -/
namespace Go.Proofs.YtnpdfmpjjomhcaaGreat
open Go.RowKit

set_option maxRecDepth 100000 in
set_option maxHeartbeats 1000000 in
theorem rTextPut_any (s : ByteArray) (w : World) (hs : s.size ≤ 268435456) : Calls Tryz.prog 62 #[.string s] w (RetBytes (textB (bl s)) w) := by
  obtain ⟨i0, hi, hz0, hz1, hz2⟩ := info_parts Tryz.infoByte
  have hlen := shortB_len10 s.size (by omega)
  have HP := Lib.hid (fun (W : World) => rNumPut_any s.size W (by omega))
  have HE : Hid (textB (bl s) = shortB s.size ++ bl s) := rfl
  go_enter Tryz.func62, Tryz.ntmps62
  go_upto_region 2 with (go_at_call 61; (with_reducible refine (HP.out _).mono ?_); rintro x W ⟨v, rfl, hown, hbt⟩)
  have hz := hbt.size
  obtain ⟨cap, w1, hrun, hb1, hz1', hcap, hby, _⟩ := conv_str (P := Tryz.prog) 9 37 5 Tryz.underlying9 Tryz.underlying37 Tryz.underlying5 W s
  replace hown := own_below hown hb1
  replace hbt := hbt.trans (hb1.mono hz)
  have hnews := hby.news
  replace hz := Nat.le_trans hz hb1.size
  have hsz : (bl s).length = s.size := rfl
  clear hb1 hcap hby
  go_wp2_with (at_builtin; refine wpList_append_own _ rfl _ _ 37 rfl w.heap.size 5 i0 (.int .u8 0) 1 1 Tryz.underlying37 hi hz0 hz1 hz2 rfl (by decide) _ _ _ rfl hown ⟨W.heap.size, 0, none⟩ _ _ (byteVals (bl s)) rfl (by rw [byteVals_length]; simp) hnews (byteVals_one _) (by unfold maxLen; omega) (by omega) (by omega) ?_; intro v2 w2 hown2 hgrow _; have hown3 : w2.ownsRow w.heap.size 5 1 v2 ((shortB s.size) ++ (bl s)).length (byteVals ((shortB s.size) ++ (bl s))) := (by rw [byteVals_append, List.length_append]; exact hown2); have hbt3 := hbt.grown hgrow (by omega) (fun k hk => (hown.lt k hk).1); have hz3 := Nat.le_trans hz hgrow.size; clear hown2 hgrow; replace hown := hown3; replace hbt := hbt3; replace hz := hz3; clear hown3 hbt3 hz3)
  go_ret
  rw [HE.out]
  exact ⟨_, rfl, hown, hbt⟩
set_option maxRecDepth 100000 in
set_option maxHeartbeats 1000000 in
theorem rFlagsPut_any (B : Nat) (fs : List Bool) (w : World) (hf : fs.length ≤ 8) (hb : BoolsAt w B fs) : Calls Tryz.prog 60 #[.slice (some ⟨B, 0, none⟩) fs.length fs.length] w (RetBytes [UInt8.ofNat (flagsN fs)] w) := by
  go_enter Tryz.func60, Tryz.ntmps60
  go_wp2
  go_loop [3, 4, 5] (fun n b i => ∃ k : Nat, k ≤ fs.length ∧ i = .int .i64 k ∧ b = .int .i64 ((2 ^ k : Nat) : Int) ∧ n = .int .i64 (flagsN (fs.take k) : Nat)) (fun _ _ i => fs.length - (intOf i).toNat)
  case atStart => exact ⟨0, Nat.zero_le _, rfl, rfl, rfl⟩
  case round =>
    obtain ⟨k, hk, rfl, rfl, rfl⟩ := hrel
    have hn1 := flagsN_lt (fs.take k)
    have hln : (fs.take k).length = k := by simp; omega
    rw [hln] at hn1
    have hp8 : 2 ^ k ≤ 2 ^ 8 := Nat.pow_le_pow_right (by omega) (by omega)
    have hq8 : (2 : Nat) ^ 8 = 256 := by decide
    rw [hq8] at hp8
    clear hq8
    by_cases hlt : k < fs.length
    · have hc := hb k hlt
      have hs := flagsN_snoc (fs.take k) fs[k]
      rw [← List.take_succ_eq_append_getElem hlt, hln] at hs
      have hps : Hid (2 ^ (k + 1) = 2 ^ k * 2) := Nat.pow_succ ..
      obtain ⟨p, hp⟩ : ∃ p, p = 2 ^ k := ⟨_, rfl⟩
      rw [← hp] at hs hps hn1 hp8 ⊢
      obtain ⟨q, hq⟩ : ∃ q, q = flagsN (fs.take k) := ⟨_, rfl⟩
      rw [← hq] at hs hn1 ⊢
      have HS := Lib.hid hs
      clear hs hq hp hln
      cases hbk : fs[k] with
      | true =>
        rw [hbk] at hc HS
        clear hbk
        go_wp2
        go_round
        case rel => exact ⟨k + 1, by omega, by go_num, by rw [hps.out]; go_num, by rw [HS.out, if_pos rfl]; go_num⟩
        case measure => simp [intOf] <;> omega
      | false =>
        rw [hbk] at hc HS
        clear hbk
        go_wp2
        go_round
        case rel => exact ⟨k + 1, by omega, by go_num, by rw [hps.out]; go_num, by rw [HS.out, if_neg (by decide)]; go_num⟩
        case measure => simp [intOf] <;> omega
    · have htk : fs.take k = fs := List.take_of_length_le (by omega)
      rw [htk] at hn1 ⊢
      have hx : Hid ((flagsN fs : Int) = ((UInt8.ofNat (flagsN fs)).toNat : Int)) := by unfold Hid; rw [UInt8.toNat_ofNat']; omega
      clear htk hln
      generalize flagsN fs = q at *
      go_wp2
      go_ret
      refine ⟨_, rfl, ?_, by go_grown⟩
      refine ⟨rfl, Or.inr ⟨w.heap.size, 1, _, rfl, Nat.le_refl _, heap_alloc_last w _, by simp, by decide, rfl, ?_⟩⟩
      simp only [byteVals, List.map_cons, List.map_nil]
      rw [← hx.out]
      rfl
set_option maxRecDepth 100000 in
set_option maxHeartbeats 1000000 in
theorem rdotPut_any (d : Dot) (w : World) (hd : dotOk d = true) : Calls Tryz.prog 58 #[.agg #[.int .i64 d.a.dev, .int .i64 d.a.inc, .int .i64 d.seq]] w (RetBytes (dotB d) w) := by
  obtain ⟨i0, hi, hz0, hz1, hz2⟩ := info_parts Tryz.infoByte
  have hq := hd
  unfold dotOk actorOk at hq
  simp only [Bool.and_eq_true, decide_eq_true_eq] at hq
  obtain ⟨x, hx⟩ : ∃ x : Nat, d.a.dev = x := ⟨(d.a.dev).toNat, by omega⟩
  obtain ⟨y, hy⟩ : ∃ y : Nat, d.a.inc = y := ⟨(d.a.inc).toNat, by omega⟩
  obtain ⟨z, hz'⟩ : ∃ z : Nat, d.seq = z := ⟨(d.seq).toNat, by omega⟩
  have HE : Hid (dotB d = (shortB x ++ shortB y) ++ shortB z) := by unfold Hid dotB; rw [if_pos hd, hx, hy, hz']; simp
  rw [hx, hy, hz'] at hq ⊢
  have hxb : x < 18446744073709551616 := by omega
  have hyb : y < 18446744073709551616 := by omega
  have hzb : z < 18446744073709551616 := by omega
  have hxs : x < 9223372036854775808 := by omega
  have hys : y < 9223372036854775808 := by omega
  have hzs : z < 9223372036854775808 := by omega
  have l1 := shortB_len10 x hxb
  have l2 := shortB_len10 y hyb
  have l3 := shortB_len10 z hzb
  have l12 : (shortB x ++ shortB y).length ≤ 20 := by rw [List.length_append]; omega
  have H1 := Lib.hid (fun (W : World) => rNumPut_any x W hxb)
  have H2 := Lib.hid (fun (W : World) => rNumPut_any y W hyb)
  have H3 := Lib.hid (fun (W : World) => rNumPut_any z W hzb)
  clear hx hy hz' hq hd
  go_enter Tryz.func58, Tryz.ntmps58
  go_upto_region 1 with fail
  refine wp_name (fun W0 hW0 => ?_)
  have hb0 : Below w.heap.size w W0 := by rw [hW0.out]; go_grown
  have c0 : W0.cell? ⟨w.heap.size, 0, none⟩ = some (.int .i64 x) := by rw [hW0.out]; go_simp
  have c1 : W0.cell? ⟨w.heap.size, 1, none⟩ = some (.int .i64 y) := by rw [hW0.out]; go_simp
  have c2 : W0.cell? ⟨w.heap.size, 2, none⟩ = some (.int .i64 z) := by rw [hW0.out]; go_simp
  have hz0' : w.heap.size < W0.heap.size := by rw [hW0.out]; simp
  clear hW0
  go_upto_region 2 with (go_at_call 61; (with_reducible refine (H1.out _).mono ?_); rintro e w1 ⟨v, rfl, hown, hbt⟩; have hz := hbt.size)
  replace c1 := kept hbt c1
  have C2 := Lib.hid c2
  clear c2
  go_upto_region 3 with (first
    | (go_at_call 61; (with_reducible refine (H2.out _).mono ?_); rintro e w2 ⟨v2, rfl, hown2, hb⟩; replace hown := own_below hown hb; replace hbt := below2 hbt hb; replace hz := Nat.le_trans hz hb.size; obtain ⟨ad, cp, rfl, hnews⟩ := own_src hown2 (shortB_ne y); clear hown2 hb)
    | (at_builtin; refine wpList_append_own _ rfl _ _ 37 rfl W0.heap.size 5 i0 (.int .u8 0) 1 1 Tryz.underlying37 hi hz0 hz1 hz2 rfl (by decide) _ _ _ rfl hown ad _ _ (byteVals (shortB y)) rfl (by rw [byteVals_length]; simp) hnews (byteVals_one _) (by unfold maxLen; omega) (by omega) (by omega) ?_; intro v2 w2 hown2 hgrow _; have hown3 : w2.ownsRow W0.heap.size 5 1 v2 ((shortB x) ++ (shortB y)).length (byteVals ((shortB x) ++ (shortB y))) := (by rw [byteVals_append, List.length_append]; exact hown2); have hbt3 := hbt.grown hgrow (by omega) (fun k hk => (hown.lt k hk).1); have hz3 := Nat.le_trans hz hgrow.size; clear hown2 hgrow; replace hown := hown3; replace hbt := hbt3; replace hz := hz3; clear hown3 hbt3 hz3)
    )
  have c2 := kept hbt C2.out
  go_wp2_with (first
    | (go_at_call 61; (with_reducible refine (H3.out _).mono ?_); rintro e w3 ⟨v3, rfl, hown2, hb⟩; replace hown := own_below hown hb; replace hbt := below2 hbt hb; replace hz := Nat.le_trans hz hb.size; obtain ⟨ad, cp, rfl, hnews⟩ := own_src hown2 (shortB_ne z); clear hown2 hb)
    | (at_builtin; refine wpList_append_own _ rfl _ _ 37 rfl W0.heap.size 5 i0 (.int .u8 0) 1 1 Tryz.underlying37 hi hz0 hz1 hz2 rfl (by decide) _ _ _ rfl hown ad _ _ (byteVals (shortB z)) rfl (by rw [byteVals_length]; simp) hnews (byteVals_one _) (by unfold maxLen; omega) (by omega) (by omega) ?_; intro v2 w2 hown2 hgrow _; have hown3 : w2.ownsRow W0.heap.size 5 1 v2 ((shortB x ++ shortB y) ++ (shortB z)).length (byteVals ((shortB x ++ shortB y) ++ (shortB z))) := (by rw [byteVals_append, List.length_append]; exact hown2); have hbt3 := hbt.grown hgrow (by omega) (fun k hk => (hown.lt k hk).1); have hz3 := Nat.le_trans hz hgrow.size; clear hown2 hgrow; replace hown := hown3; replace hbt := hbt3; replace hz := hz3; clear hown3 hbt3 hz3)
    )
  go_ret
  rw [HE.out]
  exact ⟨_, rfl, own_low hown (by omega), below2 hb0 hbt⟩
set_option maxRecDepth 100000 in
set_option maxHeartbeats 1000000 in
theorem rstampPut_any (d : Stamp) (w : World) (hd : stampOk d = true) : Calls Tryz.prog 59 #[.agg #[.int .i64 d.wall, .int .i64 d.count, .int .i64 d.dev]] w (RetBytes (stampB d) w) := by
  obtain ⟨i0, hi, hz0, hz1, hz2⟩ := info_parts Tryz.infoByte
  have hq := hd
  unfold stampOk at hq
  simp only [Bool.and_eq_true, decide_eq_true_eq] at hq
  obtain ⟨x, hx⟩ : ∃ x : Nat, d.wall = x := ⟨(d.wall).toNat, by omega⟩
  obtain ⟨y, hy⟩ : ∃ y : Nat, d.count = y := ⟨(d.count).toNat, by omega⟩
  obtain ⟨z, hz'⟩ : ∃ z : Nat, d.dev = z := ⟨(d.dev).toNat, by omega⟩
  have HE : Hid (stampB d = (shortB x ++ shortB y) ++ shortB z) := by unfold Hid stampB; rw [if_pos hd, hx, hy, hz']; simp
  rw [hx, hy, hz'] at hq ⊢
  have hxb : x < 18446744073709551616 := by omega
  have hyb : y < 18446744073709551616 := by omega
  have hzb : z < 18446744073709551616 := by omega
  have hxs : x < 9223372036854775808 := by omega
  have hys : y < 9223372036854775808 := by omega
  have hzs : z < 9223372036854775808 := by omega
  have l1 := shortB_len10 x hxb
  have l2 := shortB_len10 y hyb
  have l3 := shortB_len10 z hzb
  have l12 : (shortB x ++ shortB y).length ≤ 20 := by rw [List.length_append]; omega
  have H1 := Lib.hid (fun (W : World) => rNumPut_any x W hxb)
  have H2 := Lib.hid (fun (W : World) => rNumPut_any y W hyb)
  have H3 := Lib.hid (fun (W : World) => rNumPut_any z W hzb)
  clear hx hy hz' hq hd
  go_enter Tryz.func59, Tryz.ntmps59
  go_upto_region 1 with fail
  refine wp_name (fun W0 hW0 => ?_)
  have hb0 : Below w.heap.size w W0 := by rw [hW0.out]; go_grown
  have c0 : W0.cell? ⟨w.heap.size, 0, none⟩ = some (.int .i64 x) := by rw [hW0.out]; go_simp
  have c1 : W0.cell? ⟨w.heap.size, 1, none⟩ = some (.int .i64 y) := by rw [hW0.out]; go_simp
  have c2 : W0.cell? ⟨w.heap.size, 2, none⟩ = some (.int .i64 z) := by rw [hW0.out]; go_simp
  have hz0' : w.heap.size < W0.heap.size := by rw [hW0.out]; simp
  clear hW0
  go_upto_region 2 with (go_at_call 61; (with_reducible refine (H1.out _).mono ?_); rintro e w1 ⟨v, rfl, hown, hbt⟩; have hz := hbt.size)
  replace c1 := kept hbt c1
  have C2 := Lib.hid c2
  clear c2
  go_upto_region 3 with (first
    | (go_at_call 61; (with_reducible refine (H2.out _).mono ?_); rintro e w2 ⟨v2, rfl, hown2, hb⟩; replace hown := own_below hown hb; replace hbt := below2 hbt hb; replace hz := Nat.le_trans hz hb.size; obtain ⟨ad, cp, rfl, hnews⟩ := own_src hown2 (shortB_ne y); clear hown2 hb)
    | (at_builtin; refine wpList_append_own _ rfl _ _ 37 rfl W0.heap.size 5 i0 (.int .u8 0) 1 1 Tryz.underlying37 hi hz0 hz1 hz2 rfl (by decide) _ _ _ rfl hown ad _ _ (byteVals (shortB y)) rfl (by rw [byteVals_length]; simp) hnews (byteVals_one _) (by unfold maxLen; omega) (by omega) (by omega) ?_; intro v2 w2 hown2 hgrow _; have hown3 : w2.ownsRow W0.heap.size 5 1 v2 ((shortB x) ++ (shortB y)).length (byteVals ((shortB x) ++ (shortB y))) := (by rw [byteVals_append, List.length_append]; exact hown2); have hbt3 := hbt.grown hgrow (by omega) (fun k hk => (hown.lt k hk).1); have hz3 := Nat.le_trans hz hgrow.size; clear hown2 hgrow; replace hown := hown3; replace hbt := hbt3; replace hz := hz3; clear hown3 hbt3 hz3)
    )
  have c2 := kept hbt C2.out
  go_wp2_with (first
    | (go_at_call 61; (with_reducible refine (H3.out _).mono ?_); rintro e w3 ⟨v3, rfl, hown2, hb⟩; replace hown := own_below hown hb; replace hbt := below2 hbt hb; replace hz := Nat.le_trans hz hb.size; obtain ⟨ad, cp, rfl, hnews⟩ := own_src hown2 (shortB_ne z); clear hown2 hb)
    | (at_builtin; refine wpList_append_own _ rfl _ _ 37 rfl W0.heap.size 5 i0 (.int .u8 0) 1 1 Tryz.underlying37 hi hz0 hz1 hz2 rfl (by decide) _ _ _ rfl hown ad _ _ (byteVals (shortB z)) rfl (by rw [byteVals_length]; simp) hnews (byteVals_one _) (by unfold maxLen; omega) (by omega) (by omega) ?_; intro v2 w2 hown2 hgrow _; have hown3 : w2.ownsRow W0.heap.size 5 1 v2 ((shortB x ++ shortB y) ++ (shortB z)).length (byteVals ((shortB x ++ shortB y) ++ (shortB z))) := (by rw [byteVals_append, List.length_append]; exact hown2); have hbt3 := hbt.grown hgrow (by omega) (fun k hk => (hown.lt k hk).1); have hz3 := Nat.le_trans hz hgrow.size; clear hown2 hgrow; replace hown := hown3; replace hbt := hbt3; replace hz := hz3; clear hown3 hbt3 hz3)
    )
  go_ret
  rw [HE.out]
  exact ⟨_, rfl, own_low hown (by omega), below2 hb0 hbt⟩
end Go.Proofs.YtnpdfmpjjomhcaaGreat
