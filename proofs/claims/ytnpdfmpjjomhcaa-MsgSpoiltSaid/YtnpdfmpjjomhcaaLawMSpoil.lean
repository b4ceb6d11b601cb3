/- The law MsgSpoilt, walked. Conditions: none. -/
import Derived.Test.YtnpdfmpjjomhcaaMsgP
import Derived.Laws.OwnMore
set_option linter.unusedSimpArgs false
set_option linter.unusedVariables false
set_option linter.unnecessarySimpa false
namespace Go.Proofs.Ytnpdfmpjjomhcaa

/-- the bytes of a number are the only ones that are read as it -/
theorem getFrom_form : ∀ (l : Bytes) (j m n k : Nat), j ≤ 9 → getFrom j m l = (n, k, 0) → ∃ q, n = m + q * 128 ^ j ∧ k = j + (shortB q).length ∧ l.take (k - j) = shortB q ∧ (0 < j → 0 < q)
  | [], j, m, n, k, _, h => by simp [getFrom] at h
  | c :: r, j, m, n, k, hj, h => by
    unfold getFrom at h
    split at h
    · simp at h
    · rename_i h1
      have hc := c.toNat_lt
      split at h
      · rename_i h2
        simp only [Prod.mk.injEq, and_true] at h
        obtain ⟨hn, hk⟩ := h
        refine ⟨c.toNat, ?_, ?_, ?_, fun h0 => ?_⟩
        · rw [← hn, Nat.mod_eq_of_lt h2]
        · rw [shortB_small _ h2, ← hk]; rfl
        · rw [shortB_small _ h2, ← hk, show j + 1 - j = 1 by omega]; simp
        · by_cases hz : c.toNat = 0
          · exact absurd (Or.inl ⟨h0, hz⟩) h1
          · omega
      · rename_i h2
        have hj9 : j ≠ 9 := fun e => h1 (Or.inr ⟨e, by omega⟩)
        obtain ⟨q, hn, hk, ht, hq⟩ := getFrom_form r (j + 1) _ n k (by omega) h
        have hq0 := hq (by omega)
        have hb : ¬ (c.toNat % 128 + 128 * q) < 128 := by omega
        have e1 : (c.toNat % 128 + 128 * q) % 128 = c.toNat % 128 := by omega
        have e2 : (c.toNat % 128 + 128 * q) / 128 = q := by omega
        have e3 : UInt8.ofNat (c.toNat % 128 + 128) = c := by
          apply UInt8.toNat_inj.1
          rw [UInt8.toNat_ofNat']; omega
        refine ⟨c.toNat % 128 + 128 * q, ?_, ?_, ?_, fun _ => by omega⟩
        · rw [hn, Nat.pow_succ, Nat.add_mul, ← Nat.add_assoc]
          congr 1
          rw [Nat.mul_comm 128 q, Nat.mul_assoc, Nat.mul_comm 128]
        · rw [shortB_big _ hb, e2, List.length_cons, hk]; omega
        · have e4 : k - j = (k - (j + 1)) + 1 := by omega
          rw [shortB_big _ hb, e1, e2, e3, e4, List.take_succ_cons, ht]
theorem getS_form {l : Bytes} {n k : Nat} (h : getS l = (n, k, 0)) : k = (shortB n).length ∧ l.take k = shortB n := by
  obtain ⟨q, hn, hk, ht, _⟩ := getFrom_form l 0 0 n k (by omega) h
  simp at hn hk ht
  subst hn
  exact ⟨hk, ht⟩
theorem crcL_append : ∀ (l m : Bytes) (s : Nat), crcL s (l ++ m) = crcL (crcL s l) m
  | [], _, _ => rfl
  | c :: r, m, s => crcL_append r m (crcByte s c.toNat)
theorem xor_zero_eq {a b : Nat} (h : a ^^^ b = 0) : a = b := Nat.eq_of_testBit_eq (fun i => by
  have := congrArg (fun n => n.testBit i) h
  simp [Nat.testBit_xor] at this
  exact this)
theorem crcByte_ne {t c d : Nat} (hc : c < 256) (hd : d < 256) (h : crcByte t c = crcByte t d) : c = d := by
  have h2 := crcByte_xor t t c d
  rw [h, Nat.xor_self, Nat.xor_self] at h2
  unfold crcByte at h2
  rw [Nat.zero_xor] at h2
  have h3 : c ^^^ d < 4294967296 := Nat.lt_of_lt_of_le (Nat.xor_lt_two_pow (n := 8) hc hd) (by omega)
  exact xor_zero_eq (step4_inj0 h3 (step4_inj0 (step4_lt h3) h2))
theorem crcSum_set (l : Bytes) (i : Nat) (y : UInt8) (hi : i < l.length) (hy : y ≠ l[i]) : crcSum (l.set i y) ≠ crcSum l := by
  intro h
  unfold crcSum at h
  have a1 := crcL_lt (l.set i y) (s := 4294967295) (by omega)
  have a2 := crcL_lt l (s := 4294967295) (by omega)
  have h2 : crcL 4294967295 (l.set i y) = crcL 4294967295 l := by omega
  have e1 : l.set i y = l.take i ++ y :: l.drop (i + 1) := List.set_eq_take_append_cons_drop.trans (by rw [if_pos hi])
  have e2 : l = l.take i ++ l[i] :: l.drop (i + 1) := by
    rw [← List.drop_eq_getElem_cons hi]; simp
  rw [e1] at h2
  have h3 : crcL 4294967295 (l.take i ++ y :: l.drop (i + 1)) = crcL 4294967295 (l.take i ++ l[i] :: l.drop (i + 1)) := h2.trans (congrArg (crcL 4294967295) e2)
  rw [crcL_append, crcL_append] at h3
  have ht := crcL_lt (l.take i) (s := 4294967295) (by omega)
  have c1 := y.toNat_lt
  have c2 := l[i].toNat_lt
  have h4 := crcL_inj (l.drop (i + 1)) (crcByte_lt ht (by omega)) (crcByte_lt ht (by omega)) h3
  exact hy (UInt8.toNat_inj.1 (crcByte_ne (by omega) (by omega) h4))
theorem numLE_inj : ∀ (l m : Bytes), l.length = m.length → numLE l = numLE m → l = m
  | [], [], _, _ => rfl
  | [], _ :: _, h, _ => by simp at h
  | _ :: _, [], h, _ => by simp at h
  | a :: l, b :: m, h, h2 => by
    simp only [numLE] at h2
    have ha := a.toNat_lt
    have hb := b.toNat_lt
    have e1 : a.toNat = b.toNat := by omega
    have e2 := numLE_inj l m (by simpa using h) (by omega)
    rw [UInt8.toNat_inj.1 e1, e2]
theorem frOne_ok {c : Bytes} (h : (frOne c).2 = 0) : ∃ n k, getS c = (n, k, 0) ∧ k + n + 4 = c.length ∧ n ≤ 1048576 ∧ numLE ((c.drop (k + n)).take 4) = crcSum ((c.drop k).take n) := by
  obtain ⟨n, k, e, hg⟩ : ∃ n k e, getS c = (n, k, e) := ⟨_, _, _, rfl⟩
  unfold frOne frGet at h
  rw [hg] at h
  simp only at h
  by_cases he : e = 0
  · subst he
    simp only [if_true] at h
    by_cases h1 : 1048576 < n
    · rw [if_pos h1] at h; simp at h
    · rw [if_neg h1] at h
      by_cases h2 : c.length < k + n + 4
      · rw [if_pos h2] at h; simp at h
      · rw [if_neg h2] at h
        by_cases h3 : numLE ((c.drop (k + n)).take 4) = crcSum ((c.drop k).take n)
        · rw [if_pos h3] at h
          simp only [if_true] at h
          by_cases h4 : k + n + 4 < c.length
          · rw [if_pos h4] at h; simp at h
          · exact ⟨n, k, hg, by omega, by omega, h3⟩
        · rw [if_neg h3] at h; simp at h
  · rw [if_neg he] at h
    simp [he] at h
/-- one byte of a frame changed: no frame -/
theorem frOne_spoilt (body : Bytes) (hb : body.length ≤ 1048576) (i : Nat) (y : UInt8) (hi : i < (frameB body).length) (hy : y ≠ (frameB body)[i]) : (frOne ((frameB body).set i y)).2 ≠ 0 := by
  intro h
  obtain ⟨n, k, hg, hlen, hn, hsum⟩ := frOne_ok h
  obtain ⟨hk, htk⟩ := getS_form hg
  have hl := frameB_len body
  rw [List.length_set, hl] at hlen
  unfold sizeN at hlen
  have hk0 := List.length_pos_iff.2 (shortB_ne2 n)
  have hkb := List.length_pos_iff.2 (shortB_ne2 body.length)
  obtain ⟨kb, hkbe⟩ : ∃ kb, kb = (shortB body.length).length := ⟨_, rfl⟩
  have s1 := short_le n kb (by omega)
  have s2 := short_le body.length k (by omega)
  have s3 := short_le n k (by omega)
  have s4 := short_le body.length kb (by omega)
  have hkk : k = kb := by
    rcases Nat.lt_trichotomy k kb with hlt | heq | hgt
    · have : body.length < 128 ^ k := Nat.lt_of_le_of_lt (by omega) (s3.1 (by omega))
      have := s2.2 this
      omega
    · exact heq
    · have : n < 128 ^ kb := Nat.lt_of_le_of_lt (by omega) (s4.1 (by omega))
      have := s1.2 this
      omega
  have hnn : n = body.length := by omega
  subst hnn
  have hfr : frameB body = shortB body.length ++ (body ++ le4 (crcSum body)) := by unfold frameB; rw [List.append_assoc]
  have hik : k ≤ i := by
    by_cases hlt : i < k
    · exfalso
      have h1 : ((frameB body).set i y)[i]? = some y := by rw [List.getElem?_set_self hi]
      have h2 : (((frameB body).set i y).take k)[i]? = some y := by rw [List.getElem?_take, if_pos hlt, h1]
      rw [htk] at h2
      have h3 : (frameB body)[i]? = (shortB body.length)[i]? := by rw [hfr, List.getElem?_append_left (by omega)]
      rw [List.getElem?_eq_getElem hi, h2] at h3
      exact hy (Option.some.inj h3).symm
    · omega
  have hd : ((frameB body).set i y).drop k = (body ++ le4 (crcSum body)).set (i - k) y := by
    rw [List.drop_set, if_neg (by omega), hfr, hkk, hkbe, List.drop_left]
  have hd2 : ((frameB body).set i y).drop (k + body.length) = ((body ++ le4 (crcSum body)).set (i - k) y).drop body.length := by rw [← List.drop_drop, hd]
  rw [hd2, hd] at hsum
  have hs4 := numLE_le4 (crcSum body) (crcSum_lt body)
  have h4l : (le4 (crcSum body)).length = 4 := rfl
  have hfl : (frameB body).length = kb + body.length + 4 := by rw [hl]; unfold sizeN; omega
  by_cases hin : i - k < body.length
  · rw [List.set_append_left _ _ hin, List.drop_left' (by simp), List.take_left' (by simp), List.take_of_length_le (by omega), hs4] at hsum
    refine crcSum_set body (i - k) y hin ?_ hsum.symm
    intro e
    apply hy
    rw [e]
    have : (frameB body)[i]? = body[i - k]? := by rw [hfr, List.getElem?_append_right (by omega), List.getElem?_append_left (by omega)]; congr 1; omega
    rw [List.getElem?_eq_getElem hi, List.getElem?_eq_getElem hin] at this
    exact (Option.some.inj this).symm
  · have hj : i - k - body.length < 4 := by omega
    rw [List.set_append_right _ _ (by omega), List.drop_left' rfl, List.take_left' rfl, List.take_of_length_le (by simp [h4l])] at hsum
    have hq := numLE_inj ((le4 (crcSum body)).set (i - k - body.length) y) (le4 (crcSum body)) (by simp) (by rw [hsum, hs4])
    apply hy
    have h1 : ((le4 (crcSum body)).set (i - k - body.length) y)[i - k - body.length]? = some y := by rw [List.getElem?_set_self (by omega)]
    rw [hq] at h1
    have : (frameB body)[i]? = (le4 (crcSum body))[i - k - body.length]? := by
      rw [hfr, List.getElem?_append_right (by omega), List.getElem?_append_right (by omega)]; congr 1; omega
    rw [List.getElem?_eq_getElem hi, h1] at this
    exact (Option.some.inj this).symm

open Go.RowKit

set_option maxRecDepth 100000 in
set_option maxHeartbeats 4000000 in
theorem lawMSpoil_heavy (x : MsgIt) (n : Int) (y : UInt8) (w : World) (hx : MsgArg w x) (h1 : mlight x.msg = false) :
    Calls Try.prog 3 #[msgVal x, .int .i64 n, .int .u8 y.toNat] w fun v w' => v = .returned (.bool true) ∧ Below w.heap.size w w' := by
  have HA := Lib.hid awake35_any
  have HX0 := fun (W : World) (hb : Below w.heap.size w W) => mlight_any x W (hx.marks.kept hb) (hx.evs.evs.kept hb) hx.evs.len hx.len hx.sizes
  rw [h1] at HX0
  have HX := Lib.hid HX0
  clear HX0 h1 hx
  go_enter Try.func3, Try.ntmps3
  go_upto_region 1 with fail
  refine wp_name (fun W hW => ?_)
  have hbt : Below w.heap.size w W := by rw [hW.out]; go_grown
  have p0 : W.cell? ⟨w.heap.size, 0, none⟩ = some (.int .i64 x.kind) := by rw [hW.out]; go_simp
  have p1 : W.cell? ⟨w.heap.size, 1, none⟩ = some (.int .i64 x.frm) := by rw [hW.out]; go_simp
  have p2 : W.cell? ⟨w.heap.size, 2, none⟩ = some (.int .i64 x.dst) := by rw [hW.out]; go_simp
  have p3 : W.cell? ⟨w.heap.size, 3, none⟩ = some (.slice x.am x.marks.length x.cm) := by rw [hW.out]; go_simp
  have p4 : W.cell? ⟨w.heap.size, 4, none⟩ = some (.slice x.ae x.evs.length x.ce) := by rw [hW.out]; go_simp
  clear hW
  go_wp2_with (first
    | (go_at_call 4; (with_reducible refine (HX.out _ hbt).mono ?_); rintro v w1 ⟨rfl, hb⟩; replace hbt := below2 hbt hb; replace p0 := kept hb p0; replace p1 := kept hb p1; replace p2 := kept hb p2; replace p3 := kept hb p3; replace p4 := kept hb p4
      )
    | (go_at_call 5; (with_reducible refine (HA.out _).mono ?_); rintro v w7 ⟨rfl, hb7⟩; replace hbt := below2 hbt hb7))
  go_ret
  exact ⟨rfl, hbt⟩
set_option maxRecDepth 100000 in
set_option maxHeartbeats 4000000 in
theorem lawMSpoil_no (x : MsgIt) (n : Int) (y : UInt8) (w : World) (hx : MsgArg w x) (h1 : mlight x.msg = true) (hok : msgOk x.msg = false) :
    Calls Try.prog 3 #[msgVal x, .int .i64 n, .int .u8 y.toNat] w fun v w' => v = .returned (.bool true) ∧ Below w.heap.size w w' := by
  have HA := Lib.hid awake35_any
  have HX0 := fun (W : World) (hb : Below w.heap.size w W) => mlight_any x W (hx.marks.kept hb) (hx.evs.evs.kept hb) hx.evs.len hx.len hx.sizes
  rw [h1] at HX0
  have HX := Lib.hid HX0
  have sx := mlight_small h1
  have HB := Lib.hid (fun (W : World) (hb : Below w.heap.size w W) => MsgBytes_no x W sx (hx.inn.kept hb) hok)
  clear HX0 h1 hok hx sx
  go_enter Try.func3, Try.ntmps3
  go_upto_region 1 with fail
  refine wp_name (fun W hW => ?_)
  have hbt : Below w.heap.size w W := by rw [hW.out]; go_grown
  have p0 : W.cell? ⟨w.heap.size, 0, none⟩ = some (.int .i64 x.kind) := by rw [hW.out]; go_simp
  have p1 : W.cell? ⟨w.heap.size, 1, none⟩ = some (.int .i64 x.frm) := by rw [hW.out]; go_simp
  have p2 : W.cell? ⟨w.heap.size, 2, none⟩ = some (.int .i64 x.dst) := by rw [hW.out]; go_simp
  have p3 : W.cell? ⟨w.heap.size, 3, none⟩ = some (.slice x.am x.marks.length x.cm) := by rw [hW.out]; go_simp
  have p4 : W.cell? ⟨w.heap.size, 4, none⟩ = some (.slice x.ae x.evs.length x.ce) := by rw [hW.out]; go_simp
  clear hW
  go_wp2_with (first
    | (go_at_call 4; (with_reducible refine (HX.out _ hbt).mono ?_); rintro v w1 ⟨rfl, hb⟩; replace hbt := below2 hbt hb; replace p0 := kept hb p0; replace p1 := kept hb p1; replace p2 := kept hb p2; replace p3 := kept hb p3; replace p4 := kept hb p4
      )
    | (go_at_call 6; (with_reducible refine (HB.out _ hbt).mono ?_); rintro v w1 ⟨rfl, hb⟩; replace hbt := below2 hbt hb; replace p0 := kept hb p0; replace p1 := kept hb p1; replace p2 := kept hb p2; replace p3 := kept hb p3; replace p4 := kept hb p4
      )
    | (go_at_call 5; (with_reducible refine (HA.out _).mono ?_); rintro v w7 ⟨rfl, hb7⟩; replace hbt := below2 hbt hb7))
  go_ret
  exact ⟨rfl, hbt⟩
set_option maxRecDepth 100000 in
set_option maxHeartbeats 4000000 in
theorem lawMSpoil_out (x : MsgIt) (n : Int) (y : UInt8) (w : World) (hx : MsgArg w x) (h1 : mlight x.msg = true) (hok : msgOk x.msg = true) (hno : n < 0 ∨ ((frameB (msgB x.msg)).length : Int) ≤ n ∨ y.toNat = 0) :
    Calls Try.prog 3 #[msgVal x, .int .i64 n, .int .u8 y.toNat] w fun v w' => v = .returned (.bool true) ∧ Below w.heap.size w w' := by
  have HA := Lib.hid awake35_any
  have HX0 := fun (W : World) (hb : Below w.heap.size w W) => mlight_any x W (hx.marks.kept hb) (hx.evs.evs.kept hb) hx.evs.len hx.len hx.sizes
  rw [h1] at HX0
  have HX := Lib.hid HX0
  have sx := mlight_small h1
  have hlen := msgB_len hok h1
  have HB0 := fun (W : World) (hb : Below w.heap.size w W) => MsgBytes_yes x W sx (hx.olds.later hb (fun _ _ _ e => e)) hok hlen
  obtain ⟨LX, hLX⟩ : ∃ LX, LX = frameB (msgB x.msg) := ⟨_, rfl⟩
  have hLXl : LX.length ≤ 1073741824 := by rw [hLX, frameB_len]; have := sizeN_le hlen; omega
  rw [← hLX] at HB0
  unfold RetOk at HB0
  have HB := Lib.hid HB0
  rw [← hLX] at hno
  clear HX0 HB0 hLX hlen h1 hok sx hx
  generalize y.toNat = yn at *
  by_cases hn : n < 0
  · have q1 : decide (n < 0) = true := decide_eq_true hn
    clear hno
    go_enter Try.func3, Try.ntmps3
    go_upto_region 1 with fail
    refine wp_name (fun W hW => ?_)
    have hbt : Below w.heap.size w W := by rw [hW.out]; go_grown
    have p0 : W.cell? ⟨w.heap.size, 0, none⟩ = some (.int .i64 x.kind) := by rw [hW.out]; go_simp
    have p1 : W.cell? ⟨w.heap.size, 1, none⟩ = some (.int .i64 x.frm) := by rw [hW.out]; go_simp
    have p2 : W.cell? ⟨w.heap.size, 2, none⟩ = some (.int .i64 x.dst) := by rw [hW.out]; go_simp
    have p3 : W.cell? ⟨w.heap.size, 3, none⟩ = some (.slice x.am x.marks.length x.cm) := by rw [hW.out]; go_simp
    have p4 : W.cell? ⟨w.heap.size, 4, none⟩ = some (.slice x.ae x.evs.length x.ce) := by rw [hW.out]; go_simp
    clear hW
    go_wp2_with (first
      | (go_at_call 4; (with_reducible refine (HX.out _ hbt).mono ?_); rintro v w1 ⟨rfl, hb⟩; replace hbt := below2 hbt hb; replace p0 := kept hb p0; replace p1 := kept hb p1; replace p2 := kept hb p2; replace p3 := kept hb p3; replace p4 := kept hb p4
        )
      | (go_at_call 6; (with_reducible refine (HB.out _ hbt).mono ?_); rintro v w2 ⟨vb, rfl, hown, hb⟩; obtain ⟨ab, cb, rfl, hinb⟩ := own_bytes hown; replace hbt := below2 hbt hb; replace p0 := kept hb p0; replace p1 := kept hb p1; replace p2 := kept hb p2; replace p3 := kept hb p3; replace p4 := kept hb p4
        )
      | (go_at_call 5; (with_reducible refine (HA.out _).mono ?_); rintro v w7 ⟨rfl, hb7⟩; replace hbt := below2 hbt hb7))
    go_ret
    exact ⟨rfl, hbt⟩
  · have q1 : decide (n < 0) = false := decide_eq_false hn
    by_cases hm : (LX.length : Int) ≤ n
    · have q2 : decide ((LX.length : Int) ≤ n) = true := decide_eq_true hm
      clear hno
      go_enter Try.func3, Try.ntmps3
      go_upto_region 1 with fail
      refine wp_name (fun W hW => ?_)
      have hbt : Below w.heap.size w W := by rw [hW.out]; go_grown
      have p0 : W.cell? ⟨w.heap.size, 0, none⟩ = some (.int .i64 x.kind) := by rw [hW.out]; go_simp
      have p1 : W.cell? ⟨w.heap.size, 1, none⟩ = some (.int .i64 x.frm) := by rw [hW.out]; go_simp
      have p2 : W.cell? ⟨w.heap.size, 2, none⟩ = some (.int .i64 x.dst) := by rw [hW.out]; go_simp
      have p3 : W.cell? ⟨w.heap.size, 3, none⟩ = some (.slice x.am x.marks.length x.cm) := by rw [hW.out]; go_simp
      have p4 : W.cell? ⟨w.heap.size, 4, none⟩ = some (.slice x.ae x.evs.length x.ce) := by rw [hW.out]; go_simp
      clear hW
      go_wp2_with (first
        | (go_at_call 4; (with_reducible refine (HX.out _ hbt).mono ?_); rintro v w1 ⟨rfl, hb⟩; replace hbt := below2 hbt hb; replace p0 := kept hb p0; replace p1 := kept hb p1; replace p2 := kept hb p2; replace p3 := kept hb p3; replace p4 := kept hb p4
          )
        | (go_at_call 6; (with_reducible refine (HB.out _ hbt).mono ?_); rintro v w2 ⟨vb, rfl, hown, hb⟩; obtain ⟨ab, cb, rfl, hinb⟩ := own_bytes hown; replace hbt := below2 hbt hb; replace p0 := kept hb p0; replace p1 := kept hb p1; replace p2 := kept hb p2; replace p3 := kept hb p3; replace p4 := kept hb p4
          )
        | (go_at_call 5; (with_reducible refine (HA.out _).mono ?_); rintro v w7 ⟨rfl, hb7⟩; replace hbt := below2 hbt hb7))
      go_ret
      exact ⟨rfl, hbt⟩
    · have q2 : decide ((LX.length : Int) ≤ n) = false := decide_eq_false hm
      obtain rfl : yn = 0 := by rcases hno with h | h | h; exact absurd h hn; exact absurd h hm; exact h
      clear hno
      go_enter Try.func3, Try.ntmps3
      go_upto_region 1 with fail
      refine wp_name (fun W hW => ?_)
      have hbt : Below w.heap.size w W := by rw [hW.out]; go_grown
      have p0 : W.cell? ⟨w.heap.size, 0, none⟩ = some (.int .i64 x.kind) := by rw [hW.out]; go_simp
      have p1 : W.cell? ⟨w.heap.size, 1, none⟩ = some (.int .i64 x.frm) := by rw [hW.out]; go_simp
      have p2 : W.cell? ⟨w.heap.size, 2, none⟩ = some (.int .i64 x.dst) := by rw [hW.out]; go_simp
      have p3 : W.cell? ⟨w.heap.size, 3, none⟩ = some (.slice x.am x.marks.length x.cm) := by rw [hW.out]; go_simp
      have p4 : W.cell? ⟨w.heap.size, 4, none⟩ = some (.slice x.ae x.evs.length x.ce) := by rw [hW.out]; go_simp
      clear hW
      go_wp2_with (first
        | (go_at_call 4; (with_reducible refine (HX.out _ hbt).mono ?_); rintro v w1 ⟨rfl, hb⟩; replace hbt := below2 hbt hb; replace p0 := kept hb p0; replace p1 := kept hb p1; replace p2 := kept hb p2; replace p3 := kept hb p3; replace p4 := kept hb p4
          )
        | (go_at_call 6; (with_reducible refine (HB.out _ hbt).mono ?_); rintro v w2 ⟨vb, rfl, hown, hb⟩; obtain ⟨ab, cb, rfl, hinb⟩ := own_bytes hown; replace hbt := below2 hbt hb; replace p0 := kept hb p0; replace p1 := kept hb p1; replace p2 := kept hb p2; replace p3 := kept hb p3; replace p4 := kept hb p4
          )
        | (go_at_call 5; (with_reducible refine (HA.out _).mono ?_); rintro v w7 ⟨rfl, hb7⟩; replace hbt := below2 hbt hb7))
      go_ret
      exact ⟨rfl, hbt⟩
theorem mit0_small : MsgSmall mit0 := ⟨by simp [mit0], by simp [mit0], fun x hx => by simp [mit0] at hx⟩
theorem msg0_small {m : MsgIt} (h : m.msg = msg0) : MsgSmall m := by
  unfold MsgIt.msg msg0 at h
  simp only [Msg.mk.injEq] at h
  obtain ⟨_, _, _, h4, h5⟩ := h
  have h6 : m.evs.length = 0 := by rw [← evsOf_length, h5]; rfl
  have h7 := List.length_eq_zero_iff.1 h6
  exact ⟨by rw [h4]; simp, by omega, fun x hx => by rw [h7] at hx; cases hx⟩
/-- a message's bytes with one byte changed: what is parsed -/
theorem msgParse_spoilt (body : Bytes) (hb : body.length ≤ 1048576) (i : Nat) (z : UInt8) (hi : i < (frameB body).length) (hz : z ≠ (frameB body)[i]) : ∃ e : Int, e ≠ 0 ∧ msgParse ((frameB body).set i z) = (msg0, e) := by
  have h := frOne_spoilt body hb i z hi hz
  exact ⟨_, h, by unfold msgParse; rw [if_neg h]⟩
set_option maxRecDepth 100000 in
set_option maxHeartbeats 8000000 in
theorem lawMSpoil_in (x : MsgIt) (i : Nat) (y : UInt8) (w : World) (hx : MsgArg w x) (h1 : mlight x.msg = true) (hok : msgOk x.msg = true) (hi : i < (frameB (msgB x.msg)).length) (hy : y.toNat ≠ 0) :
    Calls Try.prog 3 #[msgVal x, .int .i64 (i : Int), .int .u8 y.toNat] w fun v w' => v = .returned (.bool true) ∧ Below w.heap.size w w' := by
  have HA := Lib.hid awake35_any
  have HX0 := fun (W : World) (hb : Below w.heap.size w W) => mlight_any x W (hx.marks.kept hb) (hx.evs.evs.kept hb) hx.evs.len hx.len hx.sizes
  rw [h1] at HX0
  have HX := Lib.hid HX0
  have sx := mlight_small h1
  have hlen := msgB_len hok h1
  have HB0 := fun (W : World) (hb : Below w.heap.size w W) => MsgBytes_yes x W sx (hx.olds.later hb (fun _ _ _ e => e)) hok hlen
  obtain ⟨LX, hLX⟩ : ∃ LX, LX = frameB (msgB x.msg) := ⟨_, rfl⟩
  have hLXl : LX.length ≤ 1073741824 := by rw [hLX, frameB_len]; have := sizeN_le hlen; omega
  rw [← hLX] at HB0
  unfold RetOk at HB0
  have HB := Lib.hid HB0
  have hz : (frameB (msgB x.msg))[i] ^^^ y ≠ (frameB (msgB x.msg))[i] := fun h => hy (by
    have h2 := congrArg (fun t => (frameB (msgB x.msg))[i] ^^^ t) h
    simp only [← UInt8.xor_assoc, UInt8.xor_self, UInt8.zero_xor] at h2
    rw [h2]; rfl)
  obtain ⟨e, he, hp⟩ := msgParse_spoilt (msgB x.msg) hlen i _ hi hz
  have hx8 : bits .xor .u8 ((frameB (msgB x.msg))[i].toNat : Int) (y.toNat : Int) = ((((frameB (msgB x.msg))[i] ^^^ y).toNat : Nat) : Int) := by
    rw [u8_xor_nat _ _ (UInt8.toNat_lt _) (UInt8.toNat_lt _), UInt8.toNat_xor]
  have hget : (byteVals (frameB (msgB x.msg)))[i]? = some (.int .u8 (frameB (msgB x.msg))[i].toNat) := by simp [byteVals, hi]
  generalize hZ : (frameB (msgB x.msg))[i] ^^^ y = z at *
  generalize hZ2 : (frameB (msgB x.msg))[i] = c at *
  rw [← hLX] at hi hp hget
  have HPa0 := fun (W : World) (a : Option Addr) (c : Nat) (hc : LX.length ≤ c) (h : BytesIn W a (LX.set i z)) => MsgParse_any a c (LX.set i z) W (by simpa using hLXl) (by simpa using hc) h
  unfold RetMsg at HPa0
  rw [hp, List.length_set] at HPa0
  have HPa := Lib.hid HPa0
  have HS := Lib.hid (fun (m : MsgIt) (W : World) (hin : MsgIn W m) (hm : m.msg = msg0) => (show Calls Try.prog 8 #[msgVal m, .agg #[.int .i64 0, .int .i64 0, .int .i64 0, .slice none 0 0, .slice none 0 0]] W fun v w' => v = .returned (.bool true) ∧ Below W.heap.size W w' from by
    have := rMsgSame_any m mit0 W (msg0_small hm) mit0_small hin (mit0_in W)
    rwa [decide_eq_true (hm.trans mit0_msg.symm)] at this))
  have q1 : decide ((i : Int) < 0) = false := decide_eq_false (by omega)
  have q2 : decide ((LX.length : Int) ≤ (i : Int)) = false := decide_eq_false (by omega)
  have q3 : ((y.toNat : Int) == 0) = false := beq_eq_false_iff_ne.2 (by omega)
  have q4 : (e == 0) = false := beq_eq_false_iff_ne.2 he
  have q5 : (e != 0) = true := by rw [bne_iff_ne]; exact he
  clear HX0 HB0 HPa0 hp hLX hlen h1 hok sx hx hz hZ hZ2 he hy
  generalize y.toNat = yn at *
  go_enter Try.func3, Try.ntmps3
  go_upto_region 1 with fail
  refine wp_name (fun W hW => ?_)
  have hbt : Below w.heap.size w W := by rw [hW.out]; go_grown
  have p0 : W.cell? ⟨w.heap.size, 0, none⟩ = some (.int .i64 x.kind) := by rw [hW.out]; go_simp
  have p1 : W.cell? ⟨w.heap.size, 1, none⟩ = some (.int .i64 x.frm) := by rw [hW.out]; go_simp
  have p2 : W.cell? ⟨w.heap.size, 2, none⟩ = some (.int .i64 x.dst) := by rw [hW.out]; go_simp
  have p3 : W.cell? ⟨w.heap.size, 3, none⟩ = some (.slice x.am x.marks.length x.cm) := by rw [hW.out]; go_simp
  have p4 : W.cell? ⟨w.heap.size, 4, none⟩ = some (.slice x.ae x.evs.length x.ce) := by rw [hW.out]; go_simp
  clear hW
  go_upto_region 6 with (first
    | (go_at_call 4; (with_reducible refine (HX.out _ hbt).mono ?_); rintro v w1 ⟨rfl, hb⟩; replace hbt := below2 hbt hb; replace p0 := kept hb p0; replace p1 := kept hb p1; replace p2 := kept hb p2; replace p3 := kept hb p3; replace p4 := kept hb p4
      )
    | (go_at_call 6; (with_reducible refine (HB.out _ hbt).mono ?_); rintro v w2 ⟨vb, rfl, hown, hb⟩; obtain ⟨ab, cb, rfl, hinb⟩ := own_bytes hown; replace hbt := below2 hbt hb; replace p0 := kept hb p0; replace p1 := kept hb p1; replace p2 := kept hb p2; replace p3 := kept hb p3; replace p4 := kept hb p4
      ))
  clear hown hb
  have hal := (Below.refl w2.heap.size w2).alloc (Nat.le_refl _) (.cells #[] 5)
  have hinc := hinb.kept hal
  have hown0 := World.ownsRow_lit (base := w2.heap.size) (e := 5) (size := 1) w2 #[] 0 (Nat.le_refl _) (by unfold maxLen; omega) rfl
  go_upto_region 7 with (at_builtin; go_loud (refine wpList_append_bytes rfl _ _ rfl rfl w2.heap.size _ [] rfl hown0 ab LX cb rfl hinc (by simpa using hLXl) hal.size ?_); intro v3 w3 hown3 hg)
  have hb3 : Below w2.heap.size w2 w3 := hal.grown hg hal.size (fun k hk => by cases hk; exact Nat.le_refl _)
  have hbt3 := below2 hbt hb3
  rw [List.nil_append] at hown3
  obtain ⟨gk, ck, rfl, hgk, hck⟩ : ∃ gk ck, v3 = .slice (some ⟨gk, 0, none⟩) LX.length ck ∧ w2.heap.size ≤ gk ∧ LX.length ≤ ck := by
    rcases hown3.2 with ⟨_, h0⟩ | ⟨g, c, cur, hv, hbg, _, hc, _⟩
    · omega
    · exact ⟨g, c, hv, hbg, hc⟩
  have hcell := hown3.cellAt i (by omega)
  rw [hget] at hcell
  have hfz := hown3.frozenAt i
  have hst := hown3.stored i (.int .u8 (z.toNat : Nat))
  clear hown3 hg hb3 hinc hown0 hal hget
  go_upto_region 8 with fail
  refine wp_name (fun W4 hW4 => ?_)
  obtain ⟨hown4, hg4⟩ := hst
  rw [← hW4.out] at hown4 hg4
  have hbt4 : Below w.heap.size w W4 := hbt3.grown hg4 hbt3.size (fun k hk => by cases hk; have := hbt.size; omega)
  have hinZ : BytesIn W4 (some ⟨gk, 0, none⟩) (LX.set i z) := by
    have e : (byteVals LX).set i (.int .u8 (z.toNat : Nat)) = byteVals (LX.set i z) := by simp [byteVals, List.map_set]
    rw [e] at hown4
    refine Or.inr ⟨gk, 0, rfl, fun j hj => ?_⟩
    have := World.ownsRow.cells (g := gk) hown4 rfl j (.int .u8 (LX.set i z)[j].toNat) (by unfold byteVals; rw [List.getElem?_map, List.getElem?_eq_getElem hj]; rfl)
    rw [Addr.add_mid] at this
    exact this
  clear hown4 hg4 hW4 hcell hfz hbt3 hbt
  go_upto_region 9 with (first
    | (go_at_call 7; (with_reducible refine (HPa.out _ _ _ hck hinZ).mono ?_); rintro v w5 ⟨mi, rfl, hmi, hmin, hb⟩)
    | (refine wpList_store_new 25 _ _ _ #[.int .i64 mi.kind, .int .i64 mi.frm, .int .i64 mi.dst, .slice mi.am mi.marks.length mi.cm, .slice mi.ae mi.evs.length mi.ce] rfl rfl (by kernel_rfl) rfl (by kernel_rfl) ?_))
  refine wp_name (fun W5 hW5 => ?_)
  have hb5 : Below w5.heap.size w5 W5 := by rw [hW5.out]; exact (Below.refl _ _).alloc (Nat.le_refl _) _
  have r0 : W5.cell? ⟨w5.heap.size, 0, none⟩ = some (.int .i64 mi.kind) := by rw [hW5.out, World.cell?_alloc_new]; rfl
  have r1 : W5.cell? ⟨w5.heap.size, 1, none⟩ = some (.int .i64 mi.frm) := by rw [hW5.out, World.cell?_alloc_new]; rfl
  have r2 : W5.cell? ⟨w5.heap.size, 2, none⟩ = some (.int .i64 mi.dst) := by rw [hW5.out, World.cell?_alloc_new]; rfl
  have r3 : W5.cell? ⟨w5.heap.size, 3, none⟩ = some (.slice mi.am mi.marks.length mi.cm) := by rw [hW5.out, World.cell?_alloc_new]; rfl
  have r4 : W5.cell? ⟨w5.heap.size, 4, none⟩ = some (.slice mi.ae mi.evs.length mi.ce) := by rw [hW5.out, World.cell?_alloc_new]; rfl
  have hbt5 := below2 (below2 hbt4 hb) hb5
  replace hmin := hmin.kept hb5
  have HMI := Lib.hid hmi
  clear hW5 hb5 hb hmi hbt4 hinZ
  go_wp2_with (first
    | (go_at_call 8; (with_reducible refine (HS.out mi _ hmin HMI.out).mono ?_); rintro v w6 ⟨rfl, hb⟩; replace hbt5 := below2 hbt5 hb)
    | (go_at_call 5; (with_reducible refine (HA.out _).mono ?_); rintro v w7 ⟨rfl, hb7⟩; replace hbt5 := below2 hbt5 hb7))
  go_ret
  exact ⟨rfl, hbt5⟩
theorem lawMSpoil_any (x : MsgIt) (n : Int) (y : UInt8) (w : World) (hx : MsgArg w x) :
    Calls Try.prog 3 #[msgVal x, .int .i64 n, .int .u8 y.toNat] w fun v w' => v = .returned (.bool true) ∧ Below w.heap.size w w' := by
  cases h1 : mlight x.msg with
  | false => exact lawMSpoil_heavy x n y w hx h1
  | true =>
    cases hok : msgOk x.msg with
    | false => exact lawMSpoil_no x n y w hx h1 hok
    | true =>
      by_cases hno : n < 0 ∨ ((frameB (msgB x.msg)).length : Int) ≤ n ∨ y.toNat = 0
      · exact lawMSpoil_out x n y w hx h1 hok hno
      · obtain ⟨i, rfl⟩ : ∃ i : Nat, n = (i : Int) := ⟨n.toNat, by omega⟩
        exact lawMSpoil_in x i y w hx h1 hok (by omega) (by omega)
end Go.Proofs.Ytnpdfmpjjomhcaa
