/- Frames, plainly: what they are, how they are scanned, cut off anywhere; the reference's frame. Conditions: a body of at most 2^20 bytes. -/
import Derived.Test.YtnpdfmpjjomhcaaGreatCrc
import Derived.Test.YtnpdfmpjjomhcaaGreatReadJ
import Derived.Test.YtnpdfmpjjomhcaaGreatRefPut
import Derived.Test.YtnpdfmpjjomhcaaGreatBytes
set_option linter.unusedSimpArgs false
set_option linter.unusedVariables false
set_option linter.unnecessarySimpa false
namespace Go.Proofs.YtnpdfmpjjomhcaaGreat
open Go.RowKit

theorem own_cap2 {w : World} {base : Nat} {a : Option Addr} {n cap : Nat} {xs : List Value} (h : w.ownsRow base 5 1 (.slice a n cap) n xs) : n ≤ cap := by
  rcases h.2 with ⟨h0, hn⟩ | ⟨g, c, cur, he, _, _, hc, _⟩
  · omega
  · cases he; exact hc

theorem numLE_le4 (n : Nat) (h : n < 4294967296) : numLE (le4 n) = n := by
  have e : ∀ k, (UInt8.ofNat (k % 256)).toNat = k % 256 := fun k => by rw [UInt8.toNat_ofNat']; omega
  unfold le4 numLE numLE numLE numLE numLE
  rw [e, e, e, e]; omega
theorem frameB_len (b : Bytes) : (frameB b).length = sizeN b.length := by
  unfold frameB sizeN le4; simp; omega
theorem frGet_frame (b s : Bytes) (hb : b.length ≤ 1048576) : frGet (frameB b ++ s) = (b, sizeN b.length, 0) := by
  have e : frameB b ++ s = shortB b.length ++ (b ++ (le4 (crcSum b) ++ s)) := by unfold frameB; simp
  have hg : getS (frameB b ++ s) = (b.length, (shortB b.length).length, 0) := by rw [e]; exact getS_short _ _ (by omega)
  have hl : (frameB b ++ s).length = (shortB b.length).length + (b.length + (4 + s.length)) := by rw [e]; simp [le4]; omega
  have hd : (frameB b ++ s).drop (shortB b.length).length = b ++ (le4 (crcSum b) ++ s) := by rw [e]; simp
  have hd2 : (frameB b ++ s).drop ((shortB b.length).length + b.length) = le4 (crcSum b) ++ s := by rw [← List.drop_drop, hd]; simp
  unfold frGet
  rw [hg]
  simp only
  rw [if_pos trivial, if_neg (by omega), if_neg (by omega), hd2, hd, List.take_left' (by rfl), List.take_left' (by rfl), if_pos (numLE_le4 _ (crcSum_lt b))]
  rfl
theorem getFrom_high : ∀ (l : Bytes) (k n : Nat), (∀ c ∈ l, 128 ≤ c.toNat) → (getFrom k n l).2.2 ≠ 0
  | [], _, _, _ => by simp [getFrom]
  | c :: r, k, n, h => by
    have hc := h c (by simp)
    unfold getFrom
    split
    · simp
    · rw [if_neg (by omega)]
      exact getFrom_high r _ _ (fun d hd => h d (by simp [hd]))
theorem shortB_high (n : Nat) : ∀ k, k < (shortB n).length → ∀ c ∈ (shortB n).take k, 128 ≤ c.toNat := by
  induction n using Nat.strongRecOn with
  | _ n ih =>
    intro k hk c hc
    by_cases h : n < 128
    · rw [shortB_small n h] at hk hc
      simp at hk
      subst hk
      simp at hc
    · rw [shortB_big n h] at hk hc
      cases k with
      | zero => simp at hc
      | succ k =>
        simp only [List.take_succ_cons, List.mem_cons] at hc
        rcases hc with rfl | hc
        · rw [UInt8.toNat_ofNat']; omega
        · exact ih (n / 128) (by omega) k (by simpa using hk) c hc
/-- a frame that is cut off is none -/
theorem frGet_cut (b s : Bytes) (hb : b.length ≤ 1048576) (k : Nat) (hk : k < (frameB b).length) : (frGet ((frameB b ++ s).take k)).2.2 ≠ 0 := by
  rw [List.take_append_of_le_length (by omega)]
  by_cases h : k < (shortB b.length).length
  · have e : (frameB b).take k = (shortB b.length).take k := by
      unfold frameB; rw [List.append_assoc, List.take_append_of_le_length (by omega)]
    rw [e]
    have h2 : (getS ((shortB b.length).take k)).2.2 ≠ 0 := getFrom_high _ _ _ (shortB_high _ k h)
    unfold frGet
    rw [if_neg h2]
    exact h2
  · have e : (frameB b).take k = shortB b.length ++ (b ++ le4 (crcSum b)).take (k - (shortB b.length).length) := by
      unfold frameB; rw [List.append_assoc, List.take_append, List.take_of_length_le (by omega)]
    have hg : getS ((frameB b).take k) = (b.length, (shortB b.length).length, 0) := by rw [e]; exact getS_short _ _ (by omega)
    have hl : ((frameB b).take k).length = k := by simp; omega
    have h3 := frameB_len b
    unfold sizeN at h3
    unfold frGet
    rw [hg]
    simp only
    rw [if_pos trivial, if_neg (by omega), if_pos (by omega)]
    simp
theorem frGet_nil : (frGet []).2.2 ≠ 0 := by simp [frGet, getS, getFrom]

theorem frScan_fit (n : Nat) : ∀ l : Bytes, l.length ≤ n → (∀ b ∈ (frScan l).1, b.length ≤ 1048576) ∧ (frScan l).1.length ≤ l.length := by
  induction n with
  | zero =>
    intro l hl
    have : l = [] := List.length_eq_zero_iff.1 (by omega)
    subst this
    rw [frScan_no (m := (frGet []).1) (n := (frGet []).2.1) (e := (frGet []).2.2) rfl frGet_nil]; simp
  | succ n ih =>
    intro l hl
    have hf := frGet_fit l
    obtain ⟨m, k, e, hx⟩ : ∃ m k e, frGet l = (m, k, e) := ⟨_, _, _, rfl⟩
    rw [hx] at hf
    simp only at hf
    rcases hf with ⟨rfl, h5, h6, h7, _⟩ | ⟨he, _⟩
    · rw [frScan_ok hx]
      have := ih (l.drop k) (by simp; omega)
      simp only [List.length_drop] at this
      refine ⟨fun b hb => ?_, by simp only [List.length_cons]; omega⟩
      simp only [List.mem_cons] at hb
      rcases hb with rfl | hb
      · exact h7
      · exact this.1 b hb
    · rw [frScan_no hx he]; simp
theorem sizeN_le {n : Nat} (h : n ≤ 1048576) : sizeN n ≤ 1048590 := by
  have := shortB_len10 n (by omega)
  unfold sizeN; omega
def leK : Nat → Nat → Bytes
  | 0, _ => []
  | k + 1, n => UInt8.ofNat (n % 256) :: leK k (n / 256)
theorem leK_four (n : Nat) : leK 4 n = le4 n := by
  simp only [leK, le4, Nat.div_div_eq_div_mul]
theorem leK_len : ∀ k n, (leK k n).length = k
  | 0, _ => rfl
  | k + 1, n => by simp [leK, leK_len k]
set_option maxRecDepth 100000 in
set_option maxHeartbeats 1000000 in
theorem rBytes4_any (n : Nat) (w : World) (hn : n < 4294967296) : Calls Tryz.prog 121 #[.int .u64 n, .int .i64 4] w (RetBytes (le4 n) w) := by
  obtain ⟨i0, hi, hz0, hz1, hz2⟩ := info_parts Tryz.infoByte
  go_enter Tryz.func121, Tryz.ntmps121
  go_wp2
  have hown0 : (w.alloc (Obj.cells #[] 5)).ownsRow w.heap.size 5 1 (.slice (some ⟨w.heap.size, 0, none⟩) 0 0) ([] : Bytes).length (byteVals []) := World.ownsRow_made _ _ _ (Nat.le_refl _) (by decide) rfl
  have hb0 : Below w.heap.size w (w.alloc (Obj.cells #[] 5)) := (Below.refl _ _).alloc (Nat.le_refl _) _
  go_loopw [0, 5, 6] (fun x out i wr => ∃ (m : Nat) (d : Bytes), x = .int .u64 m ∧ m ≤ n ∧ i = .int .i64 d.length ∧ d.length ≤ 4 ∧ le4 n = d ++ leK (4 - d.length) m ∧ wr.ownsRow w.heap.size 5 1 out d.length (byteVals d) ∧ Below w.heap.size w wr) (fun _ _ i _ => 4 - (intOf i).toNat)
  case atStart => exact ⟨n, [], rfl, Nat.le_refl _, rfl, by simp, (leK_four n).symm, hown0, hb0⟩
  case round =>
    obtain ⟨m, d, rfl, hm, rfl, hd, hpre, hown2, hbel2⟩ := hrel
    have HP := Lib.hid hpre
    clear hpre
    have hzw := hbel2.size
    by_cases h1 : d.length < 4
    · have hS : leK (4 - d.length) m = UInt8.ofNat (m % 256) :: leK (4 - (d.length + 1)) (m / 256) := by
        rw [show 4 - d.length = (4 - (d.length + 1)) + 1 by omega]; rfl
      have HS := Lib.hid hS
      have hx : Hid (Value.int .u8 ((m : Int) % 256) = .int .u8 (UInt8.ofNat (m % 256)).toNat) := by unfold Hid; congr 1; rw [UInt8.toNat_ofNat']; omega
      clear hS
      go_wp2_with (at_builtin; go_loud (refine wpList_append_own _ rfl _ _ 37 rfl w.heap.size 5 i0 (.int .u8 0) 1 1 Tryz.underlying37 hi hz0 hz1 hz2 rfl (by decide) _ _ _ rfl (hown2.alloc _) ⟨wr.heap.size, 0, none⟩ 1 1 [_] rfl rfl (cell_one_new _ _ _) (by simp [Value.oneCell']) (by unfold maxLen; omega) (by omega) (by simp; omega) ?_))
      intro v' w2 hown3 hgrow _
      have hb3 := (hbel2.alloc hzw _).grown hgrow (by simp; omega) (fun k hk => (hown2.lt k hk).1)
      go_wp2
      go_roundw
      case rel => exact ⟨m / 256, d ++ [UInt8.ofNat (m % 256)], by go_num, by omega, by simp, by simp; omega, by rw [HP.out, HS.out]; simp, by rw [hx.out] at hown3; simpa [byteVals_append, byteVals] using hown3, hb3⟩
      case measure => simp [intOf] <;> omega
    · have HE : Hid (le4 n = d) := by rw [Hid, HP.out, show 4 - d.length = 0 by omega]; simp [leK]
      clear HP
      go_wp2
      go_ret
      rw [HE.out]
      exact ⟨_, rfl, hown2, hbel2⟩
theorem le4_ne (n : Nat) : le4 n ≠ [] := by simp [le4]
set_option maxRecDepth 100000 in
set_option maxHeartbeats 1000000 in
theorem rFramePut_any (a : Option Addr) (cap : Nat) (body : Bytes) (w : World) (hl : body.length ≤ 1048576) (hne : body ≠ []) (h : BytesIn w a body) :
    Calls Tryz.prog 72 #[.slice a body.length cap] w (RetBytes (frameB body) w) := by
  obtain ⟨i0, hi, hz0, hz1, hz2⟩ := info_parts Tryz.infoByte
  have hlen := shortB_len10 body.length (by omega)
  have hsl := crcSum_lt body
  have HP := Lib.hid (fun (W : World) => rPut_any body.length W (by omega))
  have HS := Lib.hid (fun (W : World) (h : BytesIn W a body) => rSum_any a cap body W (by omega) h)
  have HB := Lib.hid (fun (W : World) => rBytes4_any (crcSum body) W hsl)
  have HE : Hid (frameB body = (shortB body.length ++ body) ++ le4 (crcSum body)) := rfl
  have HL := Lib.hid (show (le4 (crcSum body)).length = 4 from rfl)
  rcases h with h0 | ⟨A, off, rfl, hb0⟩
  · exact absurd h0 hne
  have hin0 : BytesIn w (some ⟨A, off, none⟩) body := Or.inr ⟨A, off, rfl, hb0⟩
  have hpos := List.length_pos_iff.2 hne
  have hAlt : A < w.heap.size := hb0.block hpos
  have l12 : (shortB body.length ++ body).length ≤ 1048590 := by rw [List.length_append]; omega
  have hwr : IntKind.u64.wrap ((crcSum body : Nat) : Int) = ((crcSum body : Nat) : Int) := IntWalk.u64_in _ (by omega)
  clear hb0 hne
  go_enter Tryz.func72, Tryz.ntmps72
  go_upto_region 2 with (go_at_call 110; (with_reducible refine (HP.out _).mono ?_); rintro x W ⟨v, rfl, hown, hbt⟩; have hz := hbt.size)
  obtain ⟨hin, hnews⟩ : BytesIn W (some ⟨A, off, none⟩) body ∧ (∀ j u, (byteVals body)[j]? = some u → W.cell? ((⟨A, off, none⟩ : Addr).add j) = some u) := by
    have h1 := hin0.kept hbt
    refine ⟨h1, ?_⟩
    rcases h1 with h2 | ⟨A2, off2, h2, h3⟩
    · rw [h2] at hpos; simp at hpos
    · cases h2; exact h3.news
  go_upto_region 3 with (at_builtin; refine wpList_append_own _ rfl _ _ 37 rfl w.heap.size 5 i0 (.int .u8 0) 1 1 Tryz.underlying37 hi hz0 hz1 hz2 rfl (by decide) _ _ _ rfl hown ⟨A, off, none⟩ _ _ (byteVals body) rfl (by rw [byteVals_length]; simp) hnews (byteVals_one _) (by unfold maxLen; omega) (by omega) (by omega) ?_; intro v2 w2 hown2 hgrow _; have hown3 : w2.ownsRow w.heap.size 5 1 v2 ((shortB body.length) ++ body).length (byteVals ((shortB body.length) ++ body)) := (by rw [byteVals_append, List.length_append]; exact hown2); have hbt3 := hbt.grown hgrow (by omega) (fun k hk => (hown.lt k hk).1); have hz3 := Nat.le_trans hz hgrow.size; clear hown2 hgrow; replace hown := hown3; replace hbt := hbt3; replace hz := hz3; clear hown3 hbt3 hz3)
  have hin3 := hin0.kept hbt
  have hL4 : (le4 (crcSum body)).length ≤ 4 := Nat.le_of_eq HL.out
  clear hin hnews
  go_wp2_with (first
    | (go_at_call 116; (with_reducible refine (HS.out _ hin3).mono ?_); rintro e w3 ⟨rfl, rfl⟩)
    | (go_at_call 121; (with_reducible refine (HB.out _).mono ?_); rintro e w4 ⟨v4, rfl, hown2, hb⟩; replace hown := own_below hown hb; replace hbt := hbt.trans (hb.mono hz); replace hz := Nat.le_trans hz hb.size; obtain ⟨ad, cp, rfl, hnews⟩ := own_src hown2 (le4_ne _); clear hown2 hb)
    | (at_builtin; refine wpList_append_own _ rfl _ _ 37 rfl w.heap.size 5 i0 (.int .u8 0) 1 1 Tryz.underlying37 hi hz0 hz1 hz2 rfl (by decide) _ _ _ rfl hown ad _ _ (byteVals (le4 (crcSum body))) rfl (by rw [byteVals_length]; simp) hnews (byteVals_one _) (by unfold maxLen; omega) (by omega) (by omega) ?_; intro v2 w2 hown2 hgrow _; have hown3 : w2.ownsRow w.heap.size 5 1 v2 ((shortB body.length ++ body) ++ (le4 (crcSum body))).length (byteVals ((shortB body.length ++ body) ++ (le4 (crcSum body)))) := (by rw [byteVals_append, List.length_append]; exact hown2); have hbt3 := hbt.grown hgrow (by omega) (fun k hk => (hown.lt k hk).1); have hz3 := Nat.le_trans hz hgrow.size; clear hown2 hgrow; replace hown := hown3; replace hbt := hbt3; replace hz := hz3; clear hown3 hbt3 hz3)
    )
  go_ret
  rw [HE.out]
  exact ⟨_, rfl, hown, hbt⟩
/-- an event that may be has short texts -/
structure EvShort (e : Ev) : Prop where
  name : e.key.name.size ≤ 256
  domain : e.key.domain.size ≤ 256
  path : e.key.path.size ≤ 256
  value : e.ck.value.size ≤ 1024
theorem evOk_short {e : Ev} (h : evOk e = true) : EvShort e := by
  have hfit := evOk_fit h
  unfold evOk at h
  simp only [Bool.and_eq_true, decide_eq_true_eq] at h
  obtain ⟨_, _, _, _, h5⟩ := h
  unfold kindOk at h5
  rcases hfit.kind with hk | hk
  · rw [if_neg (by omega), if_pos hk] at h5
    unfold itemOk pathOk plainOk canonical at h5
    simp only [Bool.and_eq_true, decide_eq_true_eq] at h5
    obtain ⟨_, ⟨hn, _⟩, ⟨hv, _⟩, ⟨hd, _⟩, ⟨_, _, hp⟩, _⟩ := h5
    exact ⟨hn, hd, hp, hv⟩
  · rw [if_pos hk] at h5
    simp only [Bool.and_eq_true, decide_eq_true_eq] at h5
    obtain ⟨⟨h1, h2⟩, _⟩ := h5
    exact ⟨by rw [h1]; exact Nat.zero_le _, by rw [h1]; exact Nat.zero_le _, by rw [h1]; exact Nat.zero_le _, by rw [h2]; exact Nat.zero_le _⟩
theorem EvShort.tiny {e : Ev} (h : EvShort e) : EvTiny e := ⟨by have := h.name; omega, by have := h.domain; omega, by have := h.path; omega, by have := h.value; omega⟩
theorem evOk_small {e : Ev} (h : evOk e = true) : EvSmall e := by
  have s := evOk_short h
  have f := evOk_fit h
  exact ⟨by have := s.name; omega, by have := s.domain; omega, by have := s.path; omega, by have := s.value; omega, by have := f.over; omega⟩
theorem evB_short {e : Ev} (h : evOk e = true) : (evB e).length ≤ 8192 := by
  have hf := evOk_fit h
  have h64 := hf.over
  have d1 := dotB_len e.dot
  have d2 := stampB_len e.stamp
  have d3 := shortB_len10 e.over.length (by omega)
  have d4 := dotsB_len e.over
  obtain ⟨s1, s2, s3, s4⟩ := evOk_short h
  have t1 := textB_len (bl e.key.name) (by rw [bl_length]; omega)
  have t2 := textB_len (bl e.key.domain) (by rw [bl_length]; omega)
  have t3 := textB_len (bl e.key.path) (by rw [bl_length]; omega)
  have t4 := textB_len (bl e.ck.value) (by rw [bl_length]; omega)
  simp only [bl_length] at t1 t2 t3 t4
  unfold evB evHead evTail
  split
  · rename_i h1
    obtain ⟨⟨f1, f2⟩, ⟨f3, f4⟩, f5, f6⟩ := hf.item h1
    have t5 := zigB_len e.ck.expiry (by omega) (by omega)
    have t6 := shortB_len10 e.ck.creation.toNat (by omega)
    have t7 := shortB_len10 e.ck.access.toNat (by omega)
    simp only [List.length_append, List.length_singleton]; omega
  · simp only [List.length_append, List.length_singleton, List.length_nil]; omega
theorem evB_ne {e : Ev} (h : evOk e = true) : evB e ≠ [] := by
  unfold evB evHead; simp
end Go.Proofs.YtnpdfmpjjomhcaaGreat
