/- The reader of package pack: whole numbers, errors, its end. Conditions: at most 2^30 bytes. -/
import Derived.Test.YtnpdfmpjjomhcaaRead
import Derived.Lib.Zigzag
import Derived.Laws.IdiomStrings
import Derived.Laws.BytesArg
set_option linter.unusedSimpArgs false
set_option linter.unusedVariables false
set_option linter.unnecessarySimpa false
namespace Go.Proofs.Ytnpdfmpjjomhcaa
open Go.RowKit

theorem not_right (x : Nat) (hx : x < 9223372036854775808) : bits BinOp.xor IntKind.i64 (x : Int) (-1) = -(x : Int) - 1 := by
  have h : bits BinOp.xor IntKind.i64 (x : Int) (-1) = bits BinOp.xor IntKind.i64 (-1) (x : Int) := by
    show IntKind.i64.wrap ((BitVec.ofInt 64 (x : Int) ^^^ BitVec.ofInt 64 (-1)).toNat : Int) = IntKind.i64.wrap ((BitVec.ofInt 64 (-1) ^^^ BitVec.ofInt 64 (x : Int)).toNat : Int)
    rw [BitVec.xor_comm]
  rw [h, Lib.i64_not x hx]
theorem xor_zero (x : Nat) (hx : x < 9223372036854775808) : bits BinOp.xor IntKind.i64 (x : Int) 0 = (x : Int) := by
  show IntKind.i64.wrap ((BitVec.ofInt 64 (x : Int) ^^^ BitVec.ofInt 64 0).toNat : Int) = _
  have h2 : (BitVec.ofInt 64 (x : Int)).toNat = x := by
    rw [BitVec.ofInt_natCast, BitVec.toNat_ofNat]; exact Nat.mod_eq_of_lt (by omega)
  have h1 : (BitVec.ofInt 64 0) = 0#64 := by decide
  rw [h1, BitVec.xor_zero, h2, IntKind.wrap_i64]
  omega
theorem unzig_fit (n : Nat) (hn : n < 18446744073709551616) : -9223372036854775808 ≤ unzig n ∧ unzig n ≤ 9223372036854775807 := by
  unfold unzig
  split <;> omega

set_option maxRecDepth 100000 in
theorem Unfold_any (n : Nat) (w : World) (hn : n < 18446744073709551616) : Calls Try.prog 85 #[.int .u64 n] w fun x w' => x = .returned (.int .i64 (unzig n)) ∧ w = w' := by
  have h1 := Lib.u64_and1 (n : Int) (by omega) (by omega)
  obtain ⟨m, hm⟩ : ∃ m : Nat, m = n / 2 := ⟨_, rfl⟩
  have hmn : (n : Int) / 2 = (m : Int) := by omega
  have hmb : m < 9223372036854775808 := by omega
  have hw := IntWalk.i64_in (m : Int) (by omega)
  by_cases hp : n % 2 = 0
  · have h2 : (n : Int) % 2 = 0 := by omega
    have h3 := xor_zero m hmb
    have HE : Hid (unzig n = (m : Int)) := by unfold Hid unzig; rw [if_pos hp, hm]
    rw [h2] at h1
    clear hp hm h2
    go_enter Try.func85, Try.ntmps85
    go_wp2
    go_ret
    exact ⟨ret_int (by rw [HE.out]), rfl⟩
  · have h2 : (n : Int) % 2 = 1 := by omega
    have h3 := not_right m hmb
    have HE : Hid (unzig n = -(m : Int) - 1) := by unfold Hid unzig; rw [if_neg hp, hm]
    rw [h2] at h1
    clear hp hm h2
    go_enter Try.func85, Try.ntmps85
    go_wp2
    go_ret
    exact ⟨ret_int (by rw [HE.out]), rfl⟩

theorem GetInt_any (a : Option Addr) (cap : Nat) (l : Bytes) (w : World) (hl : l.length ≤ 1073741824) (h : BytesIn w a l) :
    Calls Try.prog 77 #[.slice a l.length cap] w fun x w' => x = .returned (.tuple #[.int .i64 (unzig (getS l).1), .int .i64 (getS l).2.1, .int .i64 (getS l).2.2]) ∧ w = w' := by
  have hg := Get_any a cap l w hl h
  have hfit := getS_fit l
  have hlt : (getS l).1 < 18446744073709551616 := by rcases hfit with h | h <;> omega
  generalize getS l = g at hg hlt ⊢
  obtain ⟨n, k, e⟩ := g
  simp only at hg hlt ⊢
  have HG := Lib.hid hg
  have HU := Lib.hid (fun (W : World) => Unfold_any n W hlt)
  clear hg hfit
  go_enter Try.func77, Try.ntmps77
  go_wp2_with (first | (go_at_call 42; (with_reducible refine HG.out.mono ?_); rintro x w1 ⟨rfl, rfl⟩) | (go_at_call 85; (with_reducible refine (HU.out _).mono ?_); rintro x w1 ⟨rfl, rfl⟩))
  go_ret3
  exact ⟨rfl, rfl⟩

theorem Err_r (R : Nat) (r : Rd) (w : World) (h : RdAt w R r) : Calls Try.prog 20 #[.pointer (some ⟨R, 0, none⟩)] w fun x w' => x = .returned (.int .i64 r.e) ∧ w = w' := by
  obtain ⟨a, cap, hB, hb, hc⟩ := h
  obtain ⟨q0, q1, f0, f1⟩ := two_cell hB
  go_enter Try.func20, Try.ntmps20
  go_wp2
  go_ret
  exact ⟨rfl, rfl⟩
theorem End_r (R : Nat) (r : Rd) (w : World) (h : RdAt w R r) (hl : r.b.length ≤ 1073741824) : Calls Try.prog 22 #[.pointer (some ⟨R, 0, none⟩)] w fun x w' => x = .returned (.int .i64 (rEnd r)) ∧ w = w' := by
  have HE := Lib.hid (fun (W : World) (h : RdAt W R r) => Err_r R r W h)
  have h' := h
  obtain ⟨a, cap, hB, hb, hc⟩ := h
  obtain ⟨q0, q1, f0, f1⟩ := two_cell hB
  by_cases he : r.e = 0
  · have hq : (r.e != 0) = false := by rw [bne_eq_false_iff_eq]; exact he
    have HV : Hid (rEnd r = if 0 < r.b.length then 1 else 0) := by unfold Hid rEnd; rw [if_pos he]
    clear he
    by_cases h0 : 0 < r.b.length
    · have HW : Hid (rEnd r = 1) := by rw [Hid, HV.out, if_pos h0]
      go_enter Try.func22, Try.ntmps22
      go_wp2_with (go_at_call 20; (with_reducible refine (HE.out _ h').mono ?_); rintro x w1 ⟨rfl, rfl⟩)
      go_ret
      exact ⟨ret_int HW.out.symm, rfl⟩
    · have HW : Hid (rEnd r = 0) := by rw [Hid, HV.out, if_neg h0]
      have hd : decide (0 < r.b.length) = false := decide_eq_false h0
      go_enter Try.func22, Try.ntmps22
      go_wp2_with (go_at_call 20; (with_reducible refine (HE.out _ h').mono ?_); rintro x w1 ⟨rfl, rfl⟩)
      go_ret
      exact ⟨ret_int HW.out.symm, rfl⟩
  · have hq : (r.e != 0) = true := by rw [bne_iff_ne]; exact he
    have HW : Hid (rEnd r = r.e) := by unfold Hid rEnd; rw [if_neg he]
    clear he
    go_enter Try.func22, Try.ntmps22
    go_wp2_with (go_at_call 20; (with_reducible refine (HE.out _ h').mono ?_); rintro x w1 ⟨rfl, rfl⟩)
    go_ret
    exact ⟨ret_int HW.out.symm, rfl⟩
theorem Fail_r (R : Nat) (r : Rd) (e : Int) (w : World) (h : RdAt w R r) : Calls Try.prog 44 #[.pointer (some ⟨R, 0, none⟩), .int .i64 e] w (RetRd R (rFail r e) (.tuple #[]) w) := by
  have h' := h
  obtain ⟨a, cap, hB, hb, hc⟩ := h
  obtain ⟨q0, q1, f0, f1⟩ := two_cell hB
  by_cases he : r.e = 0
  · have hq : (r.e == 0) = true := beq_iff_eq.2 he
    have HV : Hid (rFail r e = ⟨r.b, e⟩) := by unfold Hid rFail; rw [if_pos he]
    have HR := Lib.hid (h'.setE e)
    clear he
    go_enter Try.func44, Try.ntmps44
    go_wp2
    go_end0
    rw [HV.out]
    exact ⟨rfl, HR.out, fr_set _⟩
  · have hq : (r.e == 0) = false := beq_eq_false_iff_ne.2 he
    have HV : Hid (rFail r e = r) := by unfold Hid rFail; rw [if_neg he]
    clear he
    go_enter Try.func44, Try.ntmps44
    go_wp2
    go_end0
    rw [HV.out]
    exact ⟨rfl, h', Fr.refl _ _⟩
/-- a reader, made -/
theorem packRead_any (a : Option Addr) (cap : Nat) (l : Bytes) (w : World) (h : BytesIn w a l) (hc : l.length ≤ cap) :
    Calls Try.prog 17 #[.slice a l.length cap] w fun x w' => x = .returned (.pointer (some ⟨w.heap.size, 0, none⟩)) ∧ RdAt w' w.heap.size ⟨l, 0⟩ ∧ Below w.heap.size w w' := by
  go_enter Try.func17, Try.ntmps17
  go_wp2
  go_ret
  refine ⟨rfl, ⟨a, cap, heap_alloc_last w _, (BytesUnder.ofIn h (Nat.le_refl _)).keep (fun k hk => Below.heap_alloc w _ k hk), hc⟩, by go_grown⟩
end Go.Proofs.Ytnpdfmpjjomhcaa

/- The reader of package pack: Int. Conditions: at most 2^30 bytes. -/
namespace Go.Proofs.Ytnpdfmpjjomhcaa
open Go.RowKit

set_option maxRecDepth 100000 in
set_option maxHeartbeats 2000000 in
theorem Int_r (R : Nat) (r : Rd) (most : Int) (w : World) (hl : r.b.length ≤ 1073741824) (hm0 : 0 < most) (hm : most ≤ 4398046511104) (h : RdAt w R r) :
    Calls Try.prog 65 #[.pointer (some ⟨R, 0, none⟩), .int .i64 most] w (RetRd R (rInt most r).1 (.int .i64 (rInt most r).2) w) := by
  have h' := h
  obtain ⟨a, cap, hB, hb, hc⟩ := h
  obtain ⟨q0, q1, f0, f1⟩ := two_cell hB
  have hmay := may_r R r w h'
  by_cases he : r.e = 0
  · rw [decide_eq_true he] at hmay
    have HM := Lib.hid hmay
    clear hmay
    have hd := GetInt_any a cap r.b w hl hb.toIn
    have hfit := getS_fit r.b
    have HV : Hid (rInt most r = if (getS r.b).2.2 = 0 then (if max most 0 < unzig (getS r.b).1 ∨ unzig (getS r.b).1 < - max most 0 then (⟨r.b, 3⟩, 0) else (⟨r.b.drop (getS r.b).2.1, 0⟩, unzig (getS r.b).1)) else (⟨r.b, (getS r.b).2.2⟩, 0)) := by unfold Hid rInt; rw [if_pos he]
    have hmx : max most 0 = most := by omega
    rw [hmx] at HV
    obtain ⟨n, k, e, hg⟩ : ∃ n k e, getS r.b = (n, k, e) := ⟨_, _, _, rfl⟩
    rw [hg] at hd hfit HV
    simp only at hd hfit HV
    have HX := Lib.hid hmx
    clear hg hmx
    have hu : n < 18446744073709551616 → -9223372036854775808 ≤ unzig n ∧ unzig n ≤ 9223372036854775807 := unzig_fit n
    have hu0 : n < 18446744073709551616 := by rcases hfit with h | h <;> omega
    obtain ⟨hu1, hu2⟩ := hu hu0
    clear hu
    generalize unzig n = u at hd HV hu1 hu2
    rw [he] at q1
    have HG := Lib.hid hd
    clear hd
    rcases hfit with ⟨rfl, hn, hk0, hkl⟩ | ⟨he2, rfl, rfl⟩
    · by_cases hmn : most < u
      · have HE : Hid (rInt most r = (⟨r.b, 3⟩, 0)) := by rw [Hid, HV.out, if_pos rfl, if_pos (Or.inl hmn)]
        have HR := Lib.hid (h'.setE 3)
        clear he HV h'
        go_enter Try.func65, Try.ntmps65
        go_wp2_with (first | (go_at_call 41; (with_reducible refine HM.out.mono ?_); rintro x w1 ⟨rfl, rfl⟩) | (go_at_call 77; (with_reducible refine HG.out.mono ?_); rintro x w1 ⟨rfl, rfl⟩))
        go_ret
        rw [HE.out]
        exact ⟨rfl, HR.out, fr_set _⟩
      · have hd1 : decide (most < u) = false := decide_eq_false hmn
        by_cases hmn2 : u < -most
        · have HE : Hid (rInt most r = (⟨r.b, 3⟩, 0)) := by rw [Hid, HV.out, if_pos rfl, if_pos (Or.inr hmn2)]
          have HR := Lib.hid (h'.setE 3)
          clear he HV h'
          go_enter Try.func65, Try.ntmps65
          go_wp2_with (first | (go_at_call 41; (with_reducible refine HM.out.mono ?_); rintro x w1 ⟨rfl, rfl⟩) | (go_at_call 77; (with_reducible refine HG.out.mono ?_); rintro x w1 ⟨rfl, rfl⟩))
          go_ret
          rw [HE.out]
          exact ⟨rfl, HR.out, fr_set _⟩
        · have hd2 : decide (u < -most) = false := decide_eq_false hmn2
          have HE : Hid (rInt most r = (⟨r.b.drop k, 0⟩, u)) := by rw [Hid, HV.out, if_pos rfl, if_neg (by omega)]
          have HE0 := Lib.hid he
          clear he HV
          go_enter Try.func65, Try.ntmps65
          go_wp2_with (first | (go_at_call 41; (with_reducible refine HM.out.mono ?_); rintro x w1 ⟨rfl, rfl⟩) | (go_at_call 77; (with_reducible refine HG.out.mono ?_); rintro x w1 ⟨rfl, rfl⟩))
          all_goals
            go_ret
            rw [HE.out]
            exact ⟨rfl, by first | exact h'.setDrop HE0 k (hb.dropMap k) (by omega) | exact h'.setDrop HE0 k (Or.inl (List.drop_eq_nil_of_le (by omega))) (by omega), fr_set _⟩
    · have hne : (e == 0) = false := by rw [beq_eq_false_iff_ne]; omega
      have hne2 : (e != 0) = true := by rw [bne_iff_ne]; omega
      have HE : Hid (rInt most r = (⟨r.b, e⟩, 0)) := by rw [Hid, HV.out, if_neg (by omega)]
      have HR := Lib.hid (h'.setE e)
      clear he HV h' he2
      go_enter Try.func65, Try.ntmps65
      go_wp2_with (first | (go_at_call 41; (with_reducible refine HM.out.mono ?_); rintro x w1 ⟨rfl, rfl⟩) | (go_at_call 77; (with_reducible refine HG.out.mono ?_); rintro x w1 ⟨rfl, rfl⟩))
      go_ret
      rw [HE.out]
      exact ⟨rfl, HR.out, fr_set _⟩
  · rw [decide_eq_false he] at hmay
    have HM := Lib.hid hmay
    clear hmay
    have HE : Hid (rInt most r = (r, 0)) := by unfold Hid rInt; rw [if_neg he]
    clear he
    go_enter Try.func65, Try.ntmps65
    go_wp2_with (go_at_call 41; (with_reducible refine HM.out.mono ?_); rintro x w1 ⟨rfl, rfl⟩)
    go_ret
    rw [HE.out]
    exact ⟨rfl, h', Fr.refl _ _⟩
end Go.Proofs.Ytnpdfmpjjomhcaa

/- The reader of package pack: Text. Conditions: at most 2^30 bytes. -/
namespace Go.Proofs.Ytnpdfmpjjomhcaa
open Go.RowKit

theorem conv_bytes {w : World} {a : Option Addr} {l : Bytes} (h : BytesIn w a l) (n cap : Nat) (hn : n ≤ l.length) : (convert 28 9 (.slice a n cap)).run Try.prog w = .ok (.string (mkS (l.take n))) w := by
  have hlen : (l.take n).length = n := by simp; omega
  cases a with
  | none =>
    have hl : l = [] := by
      rcases h with h | ⟨_, _, h, _⟩
      · exact h
      · cases h
    subst hl
    rw [List.take_nil]
    exact run_convert_bytes_nil w 28 5 Try.underlying28 Try.underlying5 n cap 9 Try.underlying9
  | some ad =>
    have := run_convert_bytes_back (P := Try.prog) w 28 9 5 ad cap (l.take n) Try.underlying28 Try.underlying5 Try.underlying9 (fun j hj => by
      rcases h with h | ⟨A, off, h, hb⟩
      · subst h; simp at hj
      · cases h
        rw [Addr.add_mid, hb j (by simp at hj; omega)]
        simp)
    rw [hlen] at this
    exact this

set_option maxRecDepth 100000 in
set_option maxHeartbeats 2000000 in
theorem Text_r (R : Nat) (r : Rd) (most : Nat) (w : World) (hl : r.b.length ≤ 1073741824) (hm : most ≤ 1073741824) (h : RdAt w R r) :
    Calls Try.prog 64 #[.pointer (some ⟨R, 0, none⟩), .int .i64 most] w (RetRd R (rText most r).1 (.string (mkS (rText most r).2)) w) := by
  have h' := h
  obtain ⟨a, cap, hB, hb, hc⟩ := h
  obtain ⟨q0, q1, f0, f1⟩ := two_cell hB
  have hmay := may_r R r w h'
  by_cases he : r.e = 0
  · rw [decide_eq_true he] at hmay
    have HM := Lib.hid hmay
    clear hmay
    have hnum := Num_r R r most w hl (by omega) h'
    have hfit := rNum_fit most r
    have HV : Hid (rText most r = if (rNum most r).1.e = 0 then (if (rNum most r).1.b.length < (rNum most r).2 then (⟨r.b, 2⟩, []) else (⟨(rNum most r).1.b.drop (rNum most r).2, 0⟩, (rNum most r).1.b.take (rNum most r).2)) else ((rNum most r).1, [])) := by unfold Hid rText; rw [if_pos he]
    obtain ⟨b1, e1, n, hg⟩ : ∃ b1 e1 n, rNum most r = (⟨b1, e1⟩, n) := ⟨_, _, _, rfl⟩
    rw [hg] at hnum hfit HV
    simp only at hnum hfit HV
    obtain ⟨hfb, hfn⟩ := hfit
    have hmx : max (most : Int) 0 = (most : Int) := by omega
    have HN := Lib.hid hnum
    have HE0 := Lib.hid he
    clear hnum hg he
    by_cases he1 : e1 = 0
    · subst he1
      by_cases hbn : b1.length < n
      · have HE : Hid (rText most r = (⟨r.b, 2⟩, [])) := by rw [Hid, HV.out, if_pos rfl, if_pos hbn]
        clear HV
        go_enter Try.func64, Try.ntmps64
        go_wp2_with (first
          | (go_at_call 41; (with_reducible refine HM.out.mono ?_); rintro x w1 ⟨rfl, rfl⟩)
          | (go_at_call 18; (with_reducible refine HN.out.mono ?_); rintro x w1 ⟨rfl, hR1, hF1⟩; have hR1' := hR1; obtain ⟨a1, cap1, hB1, hb1, hc1⟩ := hR1; obtain ⟨p0, p1, g0, g1⟩ := two_cell hB1))
        go_ret
        rw [HE.out]
        have hbw := hb.fr hF1 h'.lt
        exact ⟨rfl, (hR1'.setB hbw hc).setE 2, (hF1.again (fr_set _)).again (fr_set _)⟩
      · have hd : decide (b1.length < n) = false := decide_eq_false hbn
        have HE : Hid (rText most r = (⟨b1.drop n, 0⟩, b1.take n)) := by rw [Hid, HV.out, if_pos rfl, if_neg hbn]
        clear HV
        go_enter Try.func64, Try.ntmps64
        go_wp2_with (first
          | (go_at_call 41; (with_reducible refine HM.out.mono ?_); rintro x w1 ⟨rfl, rfl⟩)
          | (go_at_call 18; (with_reducible refine HN.out.mono ?_); rintro x w1 ⟨rfl, hR1, hF1⟩; have hR1' := hR1; obtain ⟨a1, cap1, hB1, hb1, hc1⟩ := hR1; simp only at hB1 hb1 hc1; obtain ⟨p0, p1, g0, g1⟩ := two_cell hB1; have hcv := fun (c : Nat) => conv_bytes hb1.toIn n c (by omega)))
        all_goals
          go_ret
          rw [HE.out]
          exact ⟨rfl, by first | exact hR1'.setDrop (show Hid ((⟨b1, 0⟩ : Rd).e = 0) from rfl) n (hb1.dropMap n) (by simp only; omega) | exact hR1'.setDrop (show Hid ((⟨b1, 0⟩ : Rd).e = 0) from rfl) n (Or.inl (List.drop_eq_nil_of_le (by simp only; omega))) (by simp only; omega), hF1.again (fr_set _)⟩
    · have hne : (e1 != 0) = true := by rw [bne_iff_ne]; exact he1
      have HE : Hid (rText most r = (⟨b1, e1⟩, [])) := by rw [Hid, HV.out, if_neg he1]
      clear HV he1
      go_enter Try.func64, Try.ntmps64
      go_wp2_with (first
        | (go_at_call 41; (with_reducible refine HM.out.mono ?_); rintro x w1 ⟨rfl, rfl⟩)
        | (go_at_call 18; (with_reducible refine HN.out.mono ?_); rintro x w1 ⟨rfl, hR1, hF1⟩; have hR1' := hR1; obtain ⟨a1, cap1, hB1, hb1, hc1⟩ := hR1; obtain ⟨p0, p1, g0, g1⟩ := two_cell hB1))
      go_ret
      rw [HE.out]
      exact ⟨rfl, hR1', hF1⟩
  · rw [decide_eq_false he] at hmay
    have HM := Lib.hid hmay
    clear hmay
    have HE : Hid (rText most r = (r, [])) := by unfold Hid rText; rw [if_neg he]
    clear he
    go_enter Try.func64, Try.ntmps64
    go_wp2_with (go_at_call 41; (with_reducible refine HM.out.mono ?_); rintro x w1 ⟨rfl, rfl⟩)
    go_ret
    rw [HE.out]
    exact ⟨rfl, h', Fr.refl _ _⟩
end Go.Proofs.Ytnpdfmpjjomhcaa
