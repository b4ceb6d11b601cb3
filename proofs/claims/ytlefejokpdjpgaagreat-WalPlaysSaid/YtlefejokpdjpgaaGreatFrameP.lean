/- Frames, plainly: what they are, how they are scanned, cut off anywhere; the reference's frame. Conditions: a body of at most 2^20 bytes. -/
import Derived.Test.YtlefejokpdjpgaaGreatRest
import Derived.Test.YtlefejokpdjpgaaGreatCrc
import Derived.Test.YtlefejokpdjpgaaGreatEvs
import Derived.Test.YtlefejokpdjpgaaGreatReadK
import Derived.Test.YtlefejokpdjpgaaGreatRefPut
import Derived.Test.YtlefejokpdjpgaaGreatInj
set_option linter.unusedSimpArgs false
set_option linter.unusedVariables false
set_option linter.unnecessarySimpa false
set_option maxHeartbeats 16000000
set_option maxRecDepth 100000
namespace Go.Proofs.YtlefejokpdjpgaaGreat
open Go.RowKit
theorem pq {w : World} {base : Nat} {a : Option Addr} {n cap : Nat} {xs : List Value} (h : w.ownsRow base 5 1 (.slice a n cap) n xs) : n ≤ cap := by
 rcases h.2 with ⟨h0, hn⟩ | ⟨g, c, cur, he, _, _, hc, _⟩
 ·omega
 ·cases he; exact hc
theorem tZ (n : Nat) (h : n < 4294967296) : bU (le4 n) = n := by
 have e : ∀ k, (UInt8.ofNat (k % 256)).toNat = k % 256 := fun k => by rw [UInt8.toNat_ofNat']; omega
 unfold le4 bU bU bU bU bU
 rw [e, e, e, e]; omega
theorem gY (b : Bytes) : (bG b).length = dY b.length := by
 unfold bG dY le4; simp; omega
theorem pG (b s : Bytes) (hb : b.length ≤ 1048576) : aS (bG b ++ s) = (b, dY b.length, 0) := by
 have e : bG b ++ s = shortB b.length ++ (b ++ (le4 (aX b) ++ s)) := by unfold bG; simp
 have hg : getS (bG b ++ s) = (b.length, (shortB b.length).length, 0) := by rw [e]; exact gX _ _ (by omega)
 have hl : (bG b ++ s).length = (shortB b.length).length + (b.length + (4 + s.length)) := by rw [e]; simp [le4]; omega
 have hd : (bG b ++ s).drop (shortB b.length).length = b ++ (le4 (aX b) ++ s) := by rw [e]; simp
 have hd2 : (bG b ++ s).drop ((shortB b.length).length + b.length) = le4 (aX b) ++ s := by rw [← List.drop_drop, hd]; simp
 unfold aS
 rw [hg]
 simp only
 rw [if_pos trivial, if_neg (by omega), if_neg (by omega), hd2, hd, List.take_left' (by rfl), List.take_left' (by rfl), if_pos (tZ _ (fC b))]
 rfl
theorem jr : ∀ (l : Bytes) (k n : Nat), (∀ c ∈ l, 128 ≤ c.toNat) → (getFrom k n l).2.2 ≠ 0
 | [], _, _, _ => by simp [getFrom]
 | c :: r, k, n, h => by
   have hc := h c (by simp)
   unfold getFrom
   split
   ·simp
   ·rw [if_neg (by omega)]
    exact jr r _ _ (fun d hd => h d (by simp [hd]))
theorem oN (n : Nat) : ∀ k, k < (shortB n).length → ∀ c ∈ (shortB n).take k, 128 ≤ c.toNat := by
 induction n using Nat.strongRecOn with
 | _ n ih =>
   intro k hk c hc
   by_cases h : n < 128
   ·rw [shortB_small n h] at hk hc
    simp at hk
    subst hk
    simp at hc
   ·rw [shortB_big n h] at hk hc
    cases k with
    | zero => simp at hc
    | succ k =>
      simp only [List.take_succ_cons, List.mem_cons] at hc
      rcases hc with rfl | hc
      ·rw [UInt8.toNat_ofNat']; omega
      ·exact ih (n / 128) (by omega) k (by simpa using hk) c hc
/-- a frame that is cut off is none -/
theorem um (b s : Bytes) (hb : b.length ≤ 1048576) (k : Nat) (hk : k < (bG b).length) : (aS ((bG b ++ s).take k)).2.2 ≠ 0 := by
 rw [List.take_append_of_le_length (by omega)]
 by_cases h : k < (shortB b.length).length
 ·have e : (bG b).take k = (shortB b.length).take k := by
   unfold bG; rw [List.append_assoc, List.take_append_of_le_length (by omega)]
  rw [e]
  have h2 : (getS ((shortB b.length).take k)).2.2 ≠ 0 := jr _ _ _ (oN _ k h)
  unfold aS
  rw [if_neg h2]
  exact h2
 ·have e : (bG b).take k = shortB b.length ++ (b ++ le4 (aX b)).take (k - (shortB b.length).length) := by
   unfold bG; rw [List.append_assoc, List.take_append, List.take_of_length_le (by omega)]
  have hg : getS ((bG b).take k) = (b.length, (shortB b.length).length, 0) := by rw [e]; exact gX _ _ (by omega)
  have hl : ((bG b).take k).length = k := by simp; omega
  have h3 := gY b
  unfold dY at h3
  unfold aS
  rw [hg]
  simp only
  rw [if_pos trivial, if_neg (by omega), if_pos (by omega)]
  simp
theorem fZ : (aS []).2.2 ≠ 0 := by simp [aS, getS, getFrom]
theorem lG (n : Nat) : ∀ l : Bytes, l.length ≤ n → (∀ b ∈ (bM l).1, b.length ≤ 1048576) ∧ (bM l).1.length ≤ l.length := by
 induction n with
 | zero =>
   intro l hl
   have : l = [] := List.length_eq_zero_iff.1 (by omega)
   subst this
   rw [iV (m := (aS []).1) (n := (aS []).2.1) (e := (aS []).2.2) rfl fZ]; simp
 | succ n ih =>
   intro l hl
   have hf := gm l
   obtain ⟨m, k, e, hx⟩ : ∃ m k e, aS l = (m, k, e) := ⟨_, _, _, rfl⟩
   rw [hx] at hf
   simp only at hf
   rcases hf with ⟨rfl, h5, h6, h7, _⟩ | ⟨he, _⟩
   ·rw [fV hx]
    have := ih (l.drop k) (by simp; omega)
    simp only [List.length_drop] at this
    refine ⟨fun b hb => ?_, by simp only [List.length_cons]; omega⟩
    simp only [List.mem_cons] at hb
    rcases hb with rfl | hb
    ·exact h7
    ·exact this.1 b hb
   ·rw [iV hx he]; simp
theorem uM {n : Nat} (h : n ≤ 1048576) : dY n ≤ 1048590 := by
 have := shortB_len10 n (by omega)
 unfold dY; omega
def leK : Nat → Nat → Bytes
 | 0, _ => []
 | k + 1, n => UInt8.ofNat (n % 256) :: leK k (n / 256)
theorem uV (n : Nat) : leK 4 n = le4 n := by
 simp only [leK, le4, Nat.div_div_eq_div_mul]
theorem pg (n : Nat) (w : World) (hn : n < 4294967296) : Calls Tryz.prog 136 #[.int .u64 n, .int .i64 4] w (RetBytes (le4 n) w) := by
 obtain ⟨i0, hi, hz0, hz1, hz2⟩ := info_parts Tryz.infoByte
 go_enter Tryz.func136, Tryz.ntmps136
 go_wp2
 refine y19 ?_
 intro hown0 hb0
 go_loopw [0, 5, 6] (fun x out i wr => ∃ (m : Nat) (d : Bytes), x = .int .u64 m ∧ m ≤ n ∧ i = .int .i64 d.length ∧ d.length ≤ 4 ∧ le4 n = d ++ leK (4 - d.length) m ∧ wr.ownsRow w.heap.size 5 1 out d.length (byteVals d) ∧ Below w.heap.size w wr) (fun _ _ i _ => 4 - (intOf i).toNat)
 case atStart => exact ⟨n, [], rfl, Nat.le_refl _, rfl, by simp, (uV n).symm, hown0, hb0⟩
 case round =>
  obtain ⟨m, d, rfl, hm, rfl, hd, hpre, hown2, hbel2⟩ := hrel
  have HP := Lib.hid hpre
  clear hpre
  have hzw := hbel2.size
  by_cases h1 : d.length < 4
  ·have hS : leK (4 - d.length) m = UInt8.ofNat (m % 256) :: leK (4 - (d.length + 1)) (m / 256) := by
        rw [show 4 - d.length = (4 - (d.length + 1)) + 1 by omega]; rfl
   have HS := Lib.hid hS
   have hx : Hid (Value.int .u8 ((m : Int) % 256) = .int .u8 (UInt8.ofNat (m % 256)).toNat) := by unfold Hid; congr 1; rw [UInt8.toNat_ofNat']; omega
   clear hS
   go_wp2_with (at_builtin; go_loud (refine wpList_append_own _ rfl _ _ 65 rfl w.heap.size 5 i0 (.int .u8 0) 1 1 Tryz.underlying65 hi hz0 hz1 hz2 rfl (by decide) _ _ _ rfl (hown2.alloc _) ⟨wr.heap.size, 0, none⟩ 1 1 [_] rfl rfl (cell_one_new _ _ _) (by simp [Value.oneCell']) (by unfold maxLen; omega) (by omega) (by simp; omega) ?_))
   intro v' w2 hown3 hgrow _
   have hb3 := (hbel2.alloc hzw _).grown hgrow (by simp; omega) (fun k hk => (hown2.lt k hk).1)
   go_wp2
   go_roundw
   case rel => exact ⟨m / 256, d ++ [UInt8.ofNat (m % 256)], by go_num, by omega, by simp, by simp; omega, by rw [HP.out, HS.out]; simp, by rw [hx.out] at hown3; simpa [byteVals_append, byteVals] using hown3, hb3⟩
   case measure => exact z39
  ·have HE : Hid (le4 n = d) := by rw [Hid, HP.out, show 4 - d.length = 0 by omega]; simp [leK]
   clear HP
   go_wp2
   go_ret
   rw [HE.out]
   exact ⟨_, rfl, hown2, hbel2⟩
theorem xu (n : Nat) : le4 n ≠ [] := by simp [le4]
theorem lW (a : Option Addr) (cap : Nat) (body : Bytes) (w : World) (hl : body.length ≤ 1048576) (hne : body ≠ []) (h : BytesIn w a body) :
 Calls Tryz.prog 101 #[.slice a body.length cap] w (RetBytes (bG body) w) := by
 obtain ⟨i0, hi, hz0, hz1, hz2⟩ := info_parts Tryz.infoByte
 have hlen := shortB_len10 body.length (by omega)
 have hsl := fC body
 have HP := Lib.hid (fun (W : World) => kZ body.length W (by omega))
 have HS := Lib.hid (fun (W : World) (h : BytesIn W a body) => o5 a cap body W (by omega) h)
 have HB := Lib.hid (fun (W : World) => pg (aX body) W hsl)
 have HE : Hid (bG body = (shortB body.length ++ body) ++ le4 (aX body)) := rfl
 have HL := Lib.hid (show (le4 (aX body)).length = 4 from rfl)
 rcases h with h0 | ⟨A, off, rfl, hb0⟩
 ·exact absurd h0 hne
 have hin0 : BytesIn w (some ⟨A, off, none⟩) body := Or.inr ⟨A, off, rfl, hb0⟩
 have hpos := List.length_pos_iff.2 hne
 have zG : A < w.heap.size := hb0.block hpos
 have l12 : (shortB body.length ++ body).length ≤ 1048590 := by rw [List.length_append]; omega
 have hwr : IntKind.u64.wrap ((aX body : Nat) : Int) = ((aX body : Nat) : Int) := IntWalk.u64_in _ (by omega)
 clear hb0 hne
 go_enter Tryz.func101, Tryz.ntmps101
 go_upto_region 2 with (go_at_call 135; (with_reducible refine (HP.out _).mono ?_); rintro x W ⟨v, rfl, hown, hbt⟩; have hz := hbt.size)
 obtain ⟨hin, hnews⟩ : BytesIn W (some ⟨A, off, none⟩) body ∧ (∀ j u, (byteVals body)[j]? = some u → W.cell? ((⟨A, off, none⟩ : Addr).add j) = some u) := by
  have h1 := hin0.kept hbt
  refine ⟨h1, ?_⟩
  rcases h1 with h2 | ⟨A2, off2, h2, h3⟩
  ·rw [h2] at hpos; simp at hpos
  ·cases h2; exact h3.news
 go_upto_region 3 with (at_builtin; refine wpList_append_own _ rfl _ _ 65 rfl w.heap.size 5 i0 (.int .u8 0) 1 1 Tryz.underlying65 hi hz0 hz1 hz2 rfl (by decide) _ _ _ rfl hown ⟨A, off, none⟩ _ _ (byteVals body) rfl (by rw [byteVals_length]; simp) hnews (byteVals_one _) (by unfold maxLen; omega) (by omega) (by omega) ?_; intro v2 w2 hown2 hgrow _; have hown3 : w2.ownsRow w.heap.size 5 1 v2 ((shortB body.length) ++ body).length (byteVals ((shortB body.length) ++ body)) := (by rw [byteVals_append, List.length_append]; exact hown2); have dV := hbt.grown hgrow (by omega) (fun k hk => (hown.lt k hk).1); have hz3 := Nat.le_trans hz hgrow.size; clear hown2 hgrow; replace hown := hown3; replace hbt := dV; replace hz := hz3; clear hown3 dV hz3)
 have ed := hin0.kept hbt
 have hL4 : (le4 (aX body)).length ≤ 4 := Nat.le_of_eq HL.out
 clear hin hnews
 go_wp2_with (first
  | (go_at_call 137; (with_reducible refine (HS.out _ ed).mono ?_); rintro e w3 ⟨rfl, rfl⟩)
  | (go_at_call 136; (with_reducible refine (HB.out _).mono ?_); rintro e w4 ⟨v4, rfl, hown2, hb⟩; replace hown := own_below hown hb; replace hbt := hbt.trans (hb.mono hz); replace hz := Nat.le_trans hz hb.size; obtain ⟨ad, cp, rfl, hnews⟩ := dh hown2 (xu _); clear hown2 hb)
  | (at_builtin; refine wpList_append_own _ rfl _ _ 65 rfl w.heap.size 5 i0 (.int .u8 0) 1 1 Tryz.underlying65 hi hz0 hz1 hz2 rfl (by decide) _ _ _ rfl hown ad _ _ (byteVals (le4 (aX body))) rfl (by rw [byteVals_length]; simp) hnews (byteVals_one _) (by unfold maxLen; omega) (by omega) (by omega) ?_; intro v2 w2 hown2 hgrow _; have hown3 : w2.ownsRow w.heap.size 5 1 v2 ((shortB body.length ++ body) ++ (le4 (aX body))).length (byteVals ((shortB body.length ++ body) ++ (le4 (aX body)))) := (by rw [byteVals_append, List.length_append]; exact hown2); have dV := hbt.grown hgrow (by omega) (fun k hk => (hown.lt k hk).1); have hz3 := Nat.le_trans hz hgrow.size; clear hown2 hgrow; replace hown := hown3; replace hbt := dV; replace hz := hz3; clear hown3 dV hz3)
  )
 go_ret
 rw [HE.out]
 exact ⟨_, rfl, hown, hbt⟩
/-- an event that may be has short texts -/
theorem jH {e : Ev} (h : evOk e = true) : (evB e).length ≤ 8192 := by
 have hf := evOk_fit h
 have h64 := hf.over
 have d1 := dotB_len e.dot
 have d2 := stampB_len e.stamp
 have d3 := shortB_len10 e.over.length (by omega)
 have d4 := dotsB_len e.over
 obtain ⟨s1, s2, s3, s4⟩ := evOk_short h
 refine y25 ?_
 intro t1 t2 t3 t4
 simp only [bl_length] at t1 t2 t3 t4
 unfold evB evHead evTail
 split
 ·rename_i h1
  obtain ⟨⟨f1, f2⟩, ⟨f3, f4⟩, f5, f6⟩ := hf.item h1
  have t5 := zigB_len e.ck.expiry (by omega) (by omega)
  have t6 := shortB_len10 e.ck.creation.toNat (by omega)
  have t7 := shortB_len10 e.ck.access.toNat (by omega)
  simp only [List.length_append, List.length_singleton]; omega
 ·simp only [List.length_append, List.length_singleton, List.length_nil]; omega
theorem xI {e : Ev} (h : evOk e = true) : evB e ≠ [] := by
 unfold evB evHead; simp
end Go.Proofs.YtlefejokpdjpgaaGreat
