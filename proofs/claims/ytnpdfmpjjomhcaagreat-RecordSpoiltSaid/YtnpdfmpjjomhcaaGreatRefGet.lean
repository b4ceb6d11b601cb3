/- A slice cut out of a slice: the value behind one name, in a plain region and in one whose order is open. Conditions: none. -/
import Derived.Test.YtnpdfmpjjomhcaaGreatPack
import Derived.OrdersHeld
import Derived.Deep.RegionLaw
import Derived.Deep.RegionHeld3
import Derived.BigQuiet
import Derived.Test.YtnpdfmpjjomhcaaGreatFrameP
import Derived.Test.YtnpdfmpjjomhcaaGreatLoadB
set_option linter.unusedSimpArgs false
set_option linter.unusedVariables false
set_option linter.unnecessarySimpa false
namespace Go.Proofs.YtnpdfmpjjomhcaaGreat
open Go.RowKit

/-- where a slice begins that is cut at element i, each of so many cells -/
def cutA (a : Option Addr) (cap i size : Nat) : Option Addr := if cap = i then a else a.map (fun x => x.add (i * size))
theorem BytesIn.cut {w : World} {a : Option Addr} {l : Bytes} (h : BytesIn w a l) {cap : Nat} (hc : l.length ≤ cap) (i : Nat) : BytesIn w (cutA a cap i 1) (l.drop i) := by
  unfold cutA
  split
  · rename_i h0; exact Or.inl (List.drop_eq_nil_of_le (by omega))
  · rcases h with h | ⟨A, off, rfl, hb⟩
    · exact Or.inl (by rw [h]; simp)
    · refine Or.inr ⟨A, off + i, by simp [Addr.add_mid], fun j hj => ?_⟩
      have h1 : i + j < l.length := by simp at hj; omega
      have := hb (i + j) h1
      rw [← Nat.add_assoc] at this
      rw [this, List.getElem_drop]
theorem BytesIn.take {w : World} {a : Option Addr} {l : Bytes} (h : BytesIn w a l) (n : Nat) : BytesIn w a (l.take n) := by
  rcases h with h | ⟨A, off, ha, hb⟩
  · exact Or.inl (by rw [h]; simp)
  · refine Or.inr ⟨A, off, ha, fun j hj => ?_⟩
    have h1 : j < l.length := by simp at hj; omega
    rw [hb j h1]; simp
section
variable {P : Program}
theorem run_cut_lo (w : World) (t e : TypeId) (i0 : TypeInfo) (a : Option Addr) (n cap : Nat) (k : IntKind) (i size : Nat) (ht : P.underlying t = some (.slice e)) (hi : P.info? e = some i0) (hs : i0.size = size) (h1 : i ≤ n) :
    (Instr.sliceAt t (.slice a n cap) (some (.int k i)) none none).run P w = .ok (.slice (cutA a cap i size) (n - i) (cap - i)) w := by
  subst hs
  simp [Instr.sliceAt, Instr.slice, Instr.sliceBounds, Instr.sliceBound, asIntOf, run_underlying ht, sizeOf, typeInfo, hi, cutA]
  intro h3
  omega
theorem run_cut_hi (w : World) (t e : TypeId) (i0 : TypeInfo) (a : Option Addr) (n cap : Nat) (k : IntKind) (j : Nat) (ht : P.underlying t = some (.slice e)) (hi : P.info? e = some i0) (h1 : j ≤ cap) :
    (Instr.sliceAt t (.slice a n cap) none (some (.int k j)) none).run P w = .ok (.slice a j cap) w := by
  have h3 : (if cap = 0 then a else a.map (fun x => x.add 0)) = a := by
    split
    · rfl
    · cases a with
      | none => rfl
      | some x => obtain ⟨b, o, p⟩ := x; cases p <;> simp [Addr.add]
  simp [Instr.sliceAt, Instr.slice, Instr.sliceBounds, Instr.sliceBound, asIntOf, run_underlying ht, sizeOf, typeInfo, hi]
  rw [if_pos h1, show (if cap = 0 then a else a.map (fun x => x.add 0)) = a from h3]
theorem run_cut_lohi (w : World) (t e : TypeId) (i0 : TypeInfo) (a : Option Addr) (n cap : Nat) (k k2 : IntKind) (i j size : Nat) (ht : P.underlying t = some (.slice e)) (hi : P.info? e = some i0) (hs : i0.size = size) (h1 : i ≤ j) (h2 : j ≤ cap) :
    (Instr.sliceAt t (.slice a n cap) (some (.int k i)) (some (.int k2 j)) none).run P w = .ok (.slice (cutA a cap i size) (j - i) (cap - i)) w := by
  subst hs
  simp [Instr.sliceAt, Instr.slice, Instr.sliceBounds, Instr.sliceBound, asIntOf, run_underlying ht, sizeOf, typeInfo, hi, cutA]
  rw [if_pos h2, if_pos h1]
/-- an operation that is run to a value in whatever world -/
theorem exec_slice {o : Oper} {a : Act} {w : World} (t : TypeId) (x : Operand) (lo hi mx : Option Operand) (ho : o.op = .slice t x lo hi mx) (v : Value)
    (h : (Instr.sliceAt t (a.eval x) (lo.map a.eval) (hi.map a.eval) (mx.map a.eval)).run P w = .ok v w) : (execOp a.eval o).run P w = .ok (.value v) w := by
  unfold execOp
  simp only [ho]
  simp [Sem.run_bind, h, Result.andThen]
theorem exec_conv {o : Oper} {a : Act} {w : World} (t t2 : TypeId) (x : Operand) (ho : o.op = .convert t t2 x) (v : Value) (h : (convert t t2 (a.eval x)).run P w = .ok v w) : (execOp a.eval o).run P w = .ok (.value v) w := by
  unfold execOp
  simp only [ho]
  simp [Sem.run_bind, h, Result.andThen]
theorem wpList_of_exec {ops : Array Oper} {rest : List Oper} {o : Oper} {a : Act} {w : World} {Q : Exit → Act → World → Prop} (hgd : o.guard = none) (v : Value) (h : (execOp a.eval o).run P w = .ok (.value v) w)
    (k : wpList P ops Q rest (a.put o.dst v) w) : wpList P ops Q (o :: rest) a w :=
  wpList_plain hgd fun _ hK => by unfold Oper.wp; rw [h]; exact hK _ _ k
theorem wpQuiet_of_exec {ops : Array Oper} {rest : List Oper} {o : Oper} {a : Act} {C : World → Prop} {Q : Act → Prop} (hw : Region.wanted o (yielded ops a.tmps) = true) (v : Value) (h : ∀ w, C w → (execOp a.eval o).run P w = .ok (.value v) w)
    (k : wpQuiet P ops C Q rest (a.put o.dst v)) : wpQuiet P ops C Q (o :: rest) a :=
  BigFrame.wpQuiet_want hw fun _ hK => ⟨v, fun w hw' => by unfold Oper.quietAt; rw [h w hw']; exact ⟨rfl, rfl⟩, hK _ k⟩
theorem step_store_row {ops : Array Oper} {o : Oper} {a : Act} {w : World} {K : Act → World → Prop} {Q : Exit → Act → World → Prop} {E : Prop} (hw : Region.wanted o (yielded ops a.tmps) = true) (ty : TypeId) (x y : Operand) (ho : o.op = .store ty x y)
    (g : Nat) (cells : Array Value) (hx : a.eval x = .pointer (some ⟨g, 0, none⟩)) (hy : a.eval y = .agg cells)
    (t : TypeId) (old : Array Value) (hg : w.heap[g]? = some (.cells old t (0, 0))) (hi : (P.info? ty).map (·.size) = some cells.size)
    (hold : old.size = cells.size) (h1 : cells.all (·.oneCell') = true) (h : K (a.put o.dst undef) (w.setRow g cells)) :
    if Region.wanted o (yielded ops a.tmps) = true then Oper.wp P o a w K Q else E := by
  rw [if_pos hw]
  exact wp_store_row ty x y ho g cells hx hy t old hg hi hold h1 h
end
theorem bslice_lo (w : World) (a : Option Addr) (n cap : Nat) (k : IntKind) (i : Nat) (h1 : i ≤ n) :
    (Instr.sliceAt 37 (.slice a n cap) (some (.int k i)) none none).run Tryz.prog w = .ok (.slice (cutA a cap i 1) (n - i) (cap - i)) w := by
  obtain ⟨i0, hi, _, hz1, _⟩ := info_parts Tryz.infoByte
  exact run_cut_lo w _ _ i0 a n cap k i 1 Tryz.underlying37 hi hz1 h1
theorem bslice_hi (w : World) (a : Option Addr) (n cap : Nat) (k : IntKind) (j : Nat) (h1 : j ≤ cap) :
    (Instr.sliceAt 37 (.slice a n cap) none (some (.int k j)) none).run Tryz.prog w = .ok (.slice a j cap) w := by
  obtain ⟨i0, hi, _, hz1, _⟩ := info_parts Tryz.infoByte
  exact run_cut_hi w _ _ i0 a n cap k j Tryz.underlying37 hi h1
theorem bslice_lohi (w : World) (a : Option Addr) (n cap : Nat) (k k2 : IntKind) (i j : Nat) (h1 : i ≤ j) (h2 : j ≤ cap) :
    (Instr.sliceAt 37 (.slice a n cap) (some (.int k i)) (some (.int k2 j)) none).run Tryz.prog w = .ok (.slice (cutA a cap i 1) (j - i) (cap - i)) w := by
  obtain ⟨i0, hi, _, hz1, _⟩ := info_parts Tryz.infoByte
  exact run_cut_lohi w _ _ i0 a n cap k k2 i j 1 Tryz.underlying37 hi hz1 h1 h2
end Go.Proofs.YtnpdfmpjjomhcaaGreat

/- The references' readers: a power of two, a number of bytes, the short number. Conditions: at most 63; at most eight bytes; at most 2^30 bytes. -/
namespace Go.Proofs.YtnpdfmpjjomhcaaGreat
open Go.RowKit

set_option maxRecDepth 100000 in
theorem rPower_any (n : Nat) (w : World) (hn : n ≤ 63) : Calls Tryz.prog 146 #[.int .i64 n] w fun x w' => x = .returned (.int .u64 (2 ^ n : Nat)) ∧ w = w' := by
  go_enter Tryz.func146, Tryz.ntmps146
  go_wp2
  go_loop [3, 4] (fun o i => ∃ k : Nat, k ≤ n ∧ o = .int .u64 (2 ^ k : Nat) ∧ i = .int .i64 k) (fun _ i => n - (intOf i).toNat)
  case atStart => exact ⟨0, Nat.zero_le _, rfl, rfl⟩
  case round =>
    obtain ⟨k, hk, rfl, rfl⟩ := hrel
    by_cases hlt : k < n
    · have h1 : 2 ^ (k + 1) ≤ 2 ^ 63 := Nat.pow_le_pow_right (by decide) (by omega)
      obtain ⟨v, hv⟩ : ∃ v, v = 2 ^ k := ⟨_, rfl⟩
      have h2 : 2 ^ (k + 1) = v * 2 := by rw [hv, Nat.pow_succ]
      have H2 := Lib.hid h2
      rw [h2] at h1
      rw [← hv]
      clear hv h2
      go_wp2
      go_round
      case rel => exact ⟨k + 1, by omega, by rw [H2.out]; go_num, by go_num⟩
      case measure => simp [intOf]; omega
    · obtain rfl : k = n := by omega
      go_wp2
      go_ret
      exact ⟨rfl, rfl⟩
theorem numLE_drop (l : Bytes) (i : Nat) (hi : i < l.length) : numLE (l.drop i) = l[i].toNat + 256 * numLE (l.drop (i + 1)) := by
  rw [List.drop_eq_getElem_cons hi]; rfl
theorem numLE_drop_lt (l : Bytes) (i : Nat) (h8 : l.length ≤ 8) : numLE (l.drop i) < 18446744073709551616 := by
  have h := numLE_lt (l.drop i)
  have : 256 ^ (l.drop i).length ≤ 256 ^ 8 := Nat.pow_le_pow_right (by decide) (by simp; omega)
  omega
set_option maxRecDepth 100000 in
theorem rNumLE_any (a : Option Addr) (cap : Nat) (l : Bytes) (w : World) (h8 : l.length ≤ 8) (h : BytesIn w a l) : Calls Tryz.prog 115 #[.slice a l.length cap] w fun x w' => x = .returned (.int .u64 (numLE l)) ∧ w = w' := by
  go_enter Tryz.func115, Tryz.ntmps115
  go_wp2
  go_loop [3, 4] (fun o i => ∃ k : Nat, k ≤ l.length ∧ o = .int .u64 (numLE (l.drop k)) ∧ i = .int .i64 ((k : Int) - 1)) (fun _ i => (intOf i + 1).toNat)
  case atStart => exact ⟨l.length, Nat.le_refl _, by simp [numLE], rfl⟩
  case round =>
    obtain ⟨k, hk, rfl, rfl⟩ := hrel
    by_cases hlt : 0 < k
    · obtain ⟨i, rfl⟩ : ∃ i, k = i + 1 := ⟨k - 1, by omega⟩
      have e0 : ((i + 1 : Nat) : Int) - 1 = (i : Int) := by omega
      rcases h with h0 | ⟨A, off, rfl, hb⟩
      · rw [h0] at hk; simp at hk
      have hc := hb.cell (show i < l.length by omega)
      have hd := numLE_drop l i (by omega)
      have hl := numLE_drop_lt l i h8
      rw [hd] at hl
      have HD := Lib.hid hd
      have hcl := l[i].toNat_lt
      generalize numLE (l.drop (i + 1)) = v at *
      generalize l[i] = c at *
      clear hd
      rw [e0]
      go_wp2
      go_round
      case rel => exact ⟨i, by omega, by rw [HD.out]; go_num, by go_num⟩
      case measure => first | (simp [intOf]; done) | (simp [intOf]; omega)
    · obtain rfl : k = 0 := by omega
      rw [List.drop_zero]
      go_wp2
      go_ret
      exact ⟨rfl, rfl⟩
end Go.Proofs.YtnpdfmpjjomhcaaGreat

/- The reference's short number, read. Conditions: at most 2^30 bytes. -/
namespace Go.Proofs.YtnpdfmpjjomhcaaGreat
open Go.RowKit

theorem getAt (m k c : Nat) (hk : k ≤ 9) (hm : m < 128 ^ k) (h9 : k = 9 → c % 128 ≤ 1) : m + c % 128 * 128 ^ k < 18446744073709551616 := by
  have h1 : c % 128 ≤ 127 := by omega
  by_cases e : k = 9
  · subst e
    have := h9 rfl
    omega
  · have h2 : 128 ^ k ≤ 128 ^ 8 := Nat.pow_le_pow_right (by decide) (by omega)
    have h3 : c % 128 * 128 ^ k ≤ 127 * 128 ^ k := Nat.mul_le_mul_right _ h1
    omega
set_option maxRecDepth 100000 in
set_option maxHeartbeats 2000000 in
theorem rVGet_any (a : Option Addr) (cap : Nat) (l : Bytes) (w : World) (hl : l.length ≤ 1073741824) (h : BytesIn w a l) :
    Calls Tryz.prog 114 #[.slice a l.length cap] w fun x w' => x = .returned (.tuple #[.int .u64 (getS l).1, .int .i64 (getS l).2.1, .int .i64 (getS l).2.2]) ∧ w = w' := by
  go_enter Tryz.func114, Tryz.ntmps114
  go_wp2
  go_loop [5, 6] (fun n i => ∃ k m : Nat, k ≤ l.length ∧ k ≤ 9 ∧ n = .int .u64 m ∧ i = .int .i64 k ∧ m < 128 ^ k ∧ getS l = getFrom k m (l.drop k)) (fun _ i => l.length - (intOf i).toNat)
  case atStart => exact ⟨0, 0, Nat.zero_le _, by omega, rfl, rfl, by decide, rfl⟩
  case round =>
    obtain ⟨k, m, hk, hk9, rfl, rfl, hm, hpre⟩ := hrel
    have HP := Lib.hid hpre
    have HM := Lib.hid hm
    clear hpre hm
    by_cases hlt : k < l.length
    · rcases h with h0 | ⟨A, off, rfl, hb⟩
      · rw [h0] at hlt; simp at hlt
      have hc := hb.cell hlt
      have HS : Hid (getS l = if (0 < k ∧ l[k].toNat = 0) ∨ (k = 9 ∧ 1 < l[k].toNat) then (0, 0, 1) else if l[k].toNat < 128 then (m + l[k].toNat % 128 * 128 ^ k, k + 1, 0) else getFrom (k + 1) (m + l[k].toNat % 128 * 128 ^ k) (l.drop (k + 1))) := by
        rw [Hid, HP.out, List.drop_eq_getElem_cons hlt, getFrom]
      clear HP
      obtain ⟨c, hcc⟩ : ∃ c, c = l[k] := ⟨_, rfl⟩
      rw [← hcc] at hc HS
      clear hcc
      have hcl := c.toNat_lt
      generalize c.toNat = c at *
      by_cases hbad : (0 < k ∧ c = 0) ∨ (k = 9 ∧ 1 < c)
      · have HE : Hid (getS l = (0, 0, 1)) := by rw [Hid, HS.out, if_pos hbad]
        clear HS
        rcases hbad with ⟨h1, h2⟩ | ⟨h1, h2⟩
        · have d1 : decide (0 < k) = true := decide_eq_true h1
          subst h2
          go_wp2
          go_ret3
          exact ⟨by rw [HE.out]; first | rfl | go_num, rfl⟩
        · subst h1
          have d2 : ((c : Int) == 0) = false := beq_eq_false_iff_ne.2 (by omega)
          have d3 : decide (1 < c) = true := decide_eq_true h2
          have d4 : decide ((1 : Int) < (c : Int)) = true := decide_eq_true (by omega)
          go_wp2
          go_ret3
          exact ⟨by rw [HE.out]; first | rfl | go_num, rfl⟩
      · have HE := Lib.hid (HS.out.trans (if_neg hbad))
        have h9 : k = 9 → c ≤ 1 := by omega
        have h0 : 0 < k → c ≠ 0 := by omega
        have hlt2 := getAt m k c hk9 HM.out (fun e => by have := h9 e; omega)
        have HPW := Lib.hid (show ∀ W : World, Calls Tryz.prog 146 #[.int .i64 (7 * (k : Int))] W fun x w' => x = .returned (.int .u64 (128 ^ k : Nat)) ∧ W = w' from fun W => by
          have := rPower_any (7 * k) W (by omega)
          rw [Nat.pow_mul] at this
          rwa [show ((7 * k : Nat) : Int) = 7 * (k : Int) by omega] at this)
        obtain ⟨p, hp⟩ : ∃ p : Nat, p = c % 128 * 128 ^ k := ⟨_, rfl⟩
        rw [← hp] at hlt2
        have hw : IntKind.u64.wrap ((c : Int) % 128 * ((128 ^ k : Nat) : Int)) = (p : Int) := by
          have e : ((c % 128 : Nat) : Int) = (c : Int) % 128 := by omega
          rw [← e, ← Int.natCast_mul, ← hp, IntKind.wrap_u64]; omega
        have HPp := Lib.hid hp
        generalize hq : 128 ^ k = q at *
        have HQ := Lib.hid hq
        clear hq hp HS hbad
        by_cases hk0 : 0 < k
        · have d1 : decide (0 < k) = true := decide_eq_true hk0
          have d2 : ((c : Int) == 0) = false := beq_eq_false_iff_ne.2 (by have := h0 hk0; omega)
          by_cases hk9 : k = 9
          · have d3 : ((k : Int) == 9) = true := beq_iff_eq.2 (by omega)
            have d4 : decide (1 < c) = false := decide_eq_false (by have := h9 hk9; omega)
            have d5 : decide ((1 : Int) < (c : Int)) = false := decide_eq_false (by have := h9 hk9; omega)
            have h1 : c < 128 := by have := h9 hk9; omega
            have c1 : c ≤ 1 := h9 hk9
            clear hk9 h9 h0
            have HE2 : Hid (getS l = (m + p, k + 1, 0)) := by rw [Hid, HE.out, if_pos h1, ← HPp.out]
            clear HE
            go_wp2_with (go_at_call 146; (with_reducible refine (HPW.out _).mono ?_); rintro x w1 ⟨rfl, rfl⟩)
            try rw [Exit.noGoto_ret]
            go_ret3
            exact ⟨by rw [HE2.out]; first | rfl | go_num, rfl⟩
          · have d3 : ((k : Int) == 9) = false := beq_eq_false_iff_ne.2 (by omega)
            have h8 : k + 1 ≤ 9 := by omega
            clear h9 h0
            by_cases h1 : c < 128
            · skip
              have HE2 : Hid (getS l = (m + p, k + 1, 0)) := by rw [Hid, HE.out, if_pos h1, ← HPp.out]
              clear HE
              go_wp2_with (go_at_call 146; (with_reducible refine (HPW.out _).mono ?_); rintro x w1 ⟨rfl, rfl⟩)
              try rw [Exit.noGoto_ret]
              go_ret3
              exact ⟨by rw [HE2.out]; first | rfl | go_num, rfl⟩
            · skip
              have HE2 : Hid (getS l = getFrom (k + 1) (m + p) (l.drop (k + 1))) := by rw [Hid, HE.out, if_neg h1, ← HPp.out]
              have h128 : 128 ≤ c := by omega
              have hvm : Hid (m + p < 128 ^ (k + 1)) := by
                have h6 : 128 ^ (k + 1) = 128 ^ k * 128 := Nat.pow_succ ..
                have h3 : c % 128 * q ≤ 127 * q := Nat.mul_le_mul_right _ (by omega)
                have h0 := HM.out
                have h7 := HPp.out
                rw [Hid, h6, HQ.out]; omega
              clear HE h1
              go_wp2_with (go_at_call 146; (with_reducible refine (HPW.out _).mono ?_); rintro x w1 ⟨rfl, rfl⟩)
              go_round
              case rel => exact ⟨k + 1, m + p, by omega, h8, by go_num, by go_num, hvm.out, HE2.out⟩
              case measure => first | (simp [intOf]; done) | (simp [intOf]; omega)
        · have d1 : decide (0 < k) = false := decide_eq_false hk0
          have d3 : ((k : Int) == 9) = false := beq_eq_false_iff_ne.2 (by omega)
          have h8 : k + 1 ≤ 9 := by omega
          clear h9 h0
          by_cases h1 : c < 128
          · skip
            have HE2 : Hid (getS l = (m + p, k + 1, 0)) := by rw [Hid, HE.out, if_pos h1, ← HPp.out]
            clear HE
            go_wp2_with (go_at_call 146; (with_reducible refine (HPW.out _).mono ?_); rintro x w1 ⟨rfl, rfl⟩)
            try rw [Exit.noGoto_ret]
            go_ret3
            exact ⟨by rw [HE2.out]; first | rfl | go_num, rfl⟩
          · skip
            have HE2 : Hid (getS l = getFrom (k + 1) (m + p) (l.drop (k + 1))) := by rw [Hid, HE.out, if_neg h1, ← HPp.out]
            have h128 : 128 ≤ c := by omega
            have hvm : Hid (m + p < 128 ^ (k + 1)) := by
              have h6 : 128 ^ (k + 1) = 128 ^ k * 128 := Nat.pow_succ ..
              have h3 : c % 128 * q ≤ 127 * q := Nat.mul_le_mul_right _ (by omega)
              have h0 := HM.out
              have h7 := HPp.out
              rw [Hid, h6, HQ.out]; omega
            clear HE h1
            go_wp2_with (go_at_call 146; (with_reducible refine (HPW.out _).mono ?_); rintro x w1 ⟨rfl, rfl⟩)
            go_round
            case rel => exact ⟨k + 1, m + p, by omega, h8, by go_num, by go_num, hvm.out, HE2.out⟩
            case measure => first | (simp [intOf]; done) | (simp [intOf]; omega)
    · obtain rfl : k = l.length := by omega
      have HE : Hid (getS l = (0, 0, 2)) := by rw [Hid, HP.out, List.drop_length]; rfl
      go_wp2
      try rw [Exit.noGoto_ret]
      go_ret3
      exact ⟨by rw [HE.out]; first | rfl | go_num, rfl⟩
end Go.Proofs.YtnpdfmpjjomhcaaGreat

/- The reference's frame, read. Conditions: at most 2^30 bytes. -/
namespace Go.Proofs.YtnpdfmpjjomhcaaGreat
open Go.RowKit

theorem quiet_same {P : Program} {f : FuncId} {args : Array Value} {w : World} {n : Nat} {v : Value}
    (h : Calls P f args (w.drewN n) fun e w' => e = .returned v ∧ w.drewN n = w') : Calls P f args (w.drewN n) fun e w'' => e = .returned v ∧ ∃ m, w'' = w.drewN m :=
  h.mono fun _ _ ⟨he, hm⟩ => ⟨he, n, hm.symm⟩
set_option maxRecDepth 100000 in
set_option maxHeartbeats 2000000 in
theorem rFrGet_any (a : Option Addr) (cap : Nat) (l : Bytes) (w : World) (hl : l.length ≤ 1073741824) (hcap : l.length ≤ cap) (h : BytesIn w a l) :
    Calls Tryz.prog 68 #[.slice a l.length cap] w (RetFr (frGet l) w) := by
  have hd := rVGet_any a cap l w hl h
  have hfit := getS_fit l
  have HV : Hid (frGet l = if (getS l).2.2 = 0 then
    (if 1048576 < (getS l).1 then ([], 0, 3)
    else if l.length < (getS l).2.1 + (getS l).1 + 4 then ([], 0, 2)
    else if numLE ((l.drop ((getS l).2.1 + (getS l).1)).take 4) = crcSum ((l.drop (getS l).2.1).take (getS l).1) then ((l.drop (getS l).2.1).take (getS l).1, (getS l).2.1 + (getS l).1 + 4, 0)
    else ([], 0, 5))
  else ([], 0, (getS l).2.2)) := rfl
  obtain ⟨n, k, e, hg⟩ : ∃ n k e, getS l = (n, k, e) := ⟨_, _, _, rfl⟩
  rw [hg] at hd hfit HV
  simp only at hd hfit HV
  clear hg
  have HG := Lib.hid hd
  clear hd
  rcases hfit with ⟨rfl, hn, hk0, hkl⟩ | ⟨he2, rfl, rfl⟩
  · replace HV := Lib.hid (HV.out.trans (if_pos rfl))
    by_cases hbig : 1048576 < n
    · have HE := Lib.hid (HV.out.trans (if_pos hbig))
      clear HV
      rw [HE.out]
      go_enter Tryz.func68, Tryz.ntmps68
      go_wp2_with (go_at_call 114; (with_reducible refine HG.out.mono ?_); rintro x w1 ⟨rfl, rfl⟩)
      go_ret3
      exact retFr_nil _ _ _ (Below.refl _ _)
    · replace HV := Lib.hid (HV.out.trans (if_neg hbig))
      by_cases hsh : l.length < k + n + 4
      · have HE := Lib.hid (HV.out.trans (if_pos hsh))
        have hlt : decide ((l.length : Int) < (k : Int) + (n : Int) + 4) = true := decide_eq_true (by omega)
        have hlt2 : decide (l.length < k + n + 4) = true := decide_eq_true (by omega)
        have hw : IntKind.i64.wrap (n : Int) = (n : Int) := IntWalk.i64_in _ (by omega)
        clear HV
        rw [HE.out]
        go_enter Tryz.func68, Tryz.ntmps68
        go_wp2_with (go_at_call 114; (with_reducible refine HG.out.mono ?_); rintro x w1 ⟨rfl, rfl⟩)
        go_ret3
        exact retFr_nil _ _ _ (Below.refl _ _)
      · have hlt : decide ((l.length : Int) < (k : Int) + (n : Int) + 4) = false := decide_eq_false (by omega)
        have hlt2 : decide (l.length < k + n + 4) = false := decide_eq_false (by omega)
        have hw : IntKind.i64.wrap (n : Int) = (n : Int) := IntWalk.i64_in _ (by omega)
        replace HV := Lib.hid (HV.out.trans (if_neg hsh))
        have hnb : n ≤ 1048576 := by omega
        have hkn4 : k + n + 4 ≤ l.length := by omega
        have hBl : ((l.drop k).take n).length = n := by simp; omega
        have hQl : ((l.drop (k + n)).take 4).length = 4 := by simp; omega
        have hBi := fun (W : World) (h : BytesIn W a l) => (h.cut hcap k).take n
        have hQi := fun (W : World) (h : BytesIn W a l) => (h.cut hcap (k + n)).take 4
        have hsl1 : ∀ W, (Instr.sliceAt 37 (.slice a l.length cap) (some (.int .i64 ((k : Int) + (n : Int)))) (some (.int .i64 ((k : Int) + (n : Int) + 4))) none).run Tryz.prog W = .ok (.slice (cutA a cap (k + n) 1) 4 (cap - (k + n))) W := fun W => by
          have := bslice_lohi W a l.length cap .i64 .i64 (k + n) (k + n + 4) (by omega) (by omega)
          rw [show ((k + n + 4 : Nat) : Int) = (k : Int) + (n : Int) + 4 by omega, show ((k + n : Nat) : Int) = (k : Int) + (n : Int) by omega, show k + n + 4 - (k + n) = 4 by omega] at this
          exact this
        have hsl2 : ∀ W, (Instr.sliceAt 37 (.slice a l.length cap) (some (.int .i64 (k : Int))) (some (.int .i64 ((k : Int) + (n : Int)))) none).run Tryz.prog W = .ok (.slice (cutA a cap k 1) n (cap - k)) W := fun W => by
          have := bslice_lohi W a l.length cap .i64 .i64 k (k + n) (by omega) (by omega)
          rw [show ((k + n : Nat) : Int) = (k : Int) + (n : Int) by omega, show k + n - k = n by omega] at this
          exact this
        have hql := numLE_lt ((l.drop (k + n)).take 4)
        rw [hQl, show 256 ^ 4 = 4294967296 by decide] at hql
        have hcl := crcSum_lt ((l.drop k).take n)
        have hN := fun (x : Option Addr) (c : Nat) (W : World) (h : BytesIn W x ((l.drop (k + n)).take 4)) => rNumLE_any x c ((l.drop (k + n)).take 4) W (by omega) h
        have hC := fun (x : Option Addr) (c : Nat) (W : World) (h : BytesIn W x ((l.drop k).take n)) => rSum_any x c ((l.drop k).take n) W (by omega) h
        rw [hQl] at hN
        rw [hBl] at hC
        generalize (l.drop k).take n = B at *
        generalize (l.drop (k + n)).take 4 = Q at *
        generalize numLE Q = q at *
        generalize crcSum B = c at *
        have HN := Lib.hid hN
        have HC := Lib.hid hC
        have HB := Lib.hid hBl
        have HQ := Lib.hid (fun (m : Nat) => hQi (w.drewN m) (h.kept (below_drewN (Below.refl _ _) m)))
        have HBI := Lib.hid (fun (m : Nat) => hBi (w.drewN m) (h.kept (below_drewN (Below.refl _ _) m)))
        have hw3 : IntKind.i64.wrap ((k : Int) + (n : Int) + 4) = (k : Int) + (n : Int) + 4 := IntWalk.i64_in _ (by omega)
        have hwr : IntKind.u64.wrap (c : Int) = (c : Int) := IntWalk.u64_in _ (by omega)
        clear hN hC hBl hQl hBi hQi hsh hbig
        by_cases hqc : q = c
        · have HE := Lib.hid (HV.out.trans (if_pos hqc))
          have hq1 : ((q : Int) == (c : Int)) = true := by rw [beq_iff_eq]; omega
          have hq2 : ((q : Int) != (c : Int)) = false := by rw [bne_eq_false_iff_eq]; omega
          have hq3 : (q == c) = true := by rw [beq_iff_eq]; omega
          have hq4 : (q != c) = false := by rw [bne_eq_false_iff_eq]; omega
          clear HV hqc
          rw [HE.out]
          go_enter Tryz.func68, Tryz.ntmps68
          go_upto_region 9 with (go_at_call 114; (with_reducible refine HG.out.mono ?_); rintro x w1 ⟨rfl, rfl⟩)
          refine wp_region_quiet_lit (by kernel_rfl) (by kernel_rfl) ?_
          go_big_quiet_step (fail)
          go_big_quiet_step (fail)
          go_big_quiet_step (fail)
          go_big_quiet_step (fail)
          refine wpQuiet_of_exec rfl _ (fun W _ => exec_slice _ _ _ _ _ rfl _ (hsl1 W)) ?_
          try simp only [Act.put, List.setIfInBounds_toArray, List.set_cons_zero, List.set_cons_succ]
          go_big_quiet_step (exact quiet_same (HN.out _ _ _ (HQ.out _)))
          go_big_quiet_step (fail)
          go_big_quiet_step (fail)
          go_big_quiet_step (fail)
          refine wpQuiet_of_exec rfl _ (fun W _ => exec_slice _ _ _ _ _ rfl _ (hsl2 W)) ?_
          try simp only [Act.put, List.setIfInBounds_toArray, List.set_cons_zero, List.set_cons_succ]
          go_big_quiet_step (exact quiet_same (HC.out _ _ _ (HBI.out _)))
          go_big_quiet_step (fail)
          go_big_quiet_step (fail)
          refine wpQuiet_nil ?_
          intro _ hw'
          obtain ⟨nq, hw''⟩ := hw'
          subst hw''
          have hbd : Below w.heap.size w (w.drewN nq) := below_drewN (Below.refl _ _) nq
          have hbi := HBI.out nq
          generalize w.drewN nq = V at hbd hbi ⊢
          have hown0 : (V.alloc (Obj.cells #[] 5)).ownsRow V.heap.size 5 1 (.slice (some ⟨V.heap.size, 0, none⟩) 0 0) ([] : Bytes).length (byteVals []) := World.ownsRow_made _ _ _ (Nat.le_refl _) (by decide) rfl
          have hbA : Below V.heap.size V (V.alloc (Obj.cells #[] 5)) := (Below.refl _ _).alloc (Nat.le_refl _) _
          have hsz := hbd.size
          have hle : B.length ≤ 1048576 := by rw [HB.out]; exact hnb
          go_wp2_with (first
            | (refine wpList_of_exec rfl _ (exec_slice _ _ _ _ _ rfl _ (hsl2 _)) ?_)
            | (refine wpList_append_bytes rfl (.tmp 42) (.tmp 46) rfl rfl V.heap.size _ [] rfl hown0 (cutA a cap k 1) B (cap - k) (by rw [HB.out]; rfl) (hbi.kept hbA) (by rw [List.length_nil]; omega) (by simp) ?_))
          intro v' w2 hown2 hg2
          have hb2 := hbA.grown hg2 (by simp) (fun k hk => (hown0.lt k hk).1)
          go_wp2
          go_ret3
          exact ⟨_, rfl, own_low hown2 hsz, below2 hbd hb2⟩
        · have HE := Lib.hid (HV.out.trans (if_neg hqc))
          have hq1 : ((q : Int) == (c : Int)) = false := by rw [beq_eq_false_iff_ne]; omega
          have hq2 : ((q : Int) != (c : Int)) = true := by rw [bne_iff_ne]; omega
          have hq3 : (q == c) = false := by rw [beq_eq_false_iff_ne]; omega
          have hq4 : (q != c) = true := by rw [bne_iff_ne]; omega
          clear HV hqc
          rw [HE.out]
          go_enter Tryz.func68, Tryz.ntmps68
          go_upto_region 9 with (go_at_call 114; (with_reducible refine HG.out.mono ?_); rintro x w1 ⟨rfl, rfl⟩)
          refine wp_region_quiet_lit (by kernel_rfl) (by kernel_rfl) ?_
          go_big_quiet_step (fail)
          go_big_quiet_step (fail)
          go_big_quiet_step (fail)
          go_big_quiet_step (fail)
          refine wpQuiet_of_exec rfl _ (fun W _ => exec_slice _ _ _ _ _ rfl _ (hsl1 W)) ?_
          try simp only [Act.put, List.setIfInBounds_toArray, List.set_cons_zero, List.set_cons_succ]
          go_big_quiet_step (exact quiet_same (HN.out _ _ _ (HQ.out _)))
          go_big_quiet_step (fail)
          go_big_quiet_step (fail)
          go_big_quiet_step (fail)
          refine wpQuiet_of_exec rfl _ (fun W _ => exec_slice _ _ _ _ _ rfl _ (hsl2 W)) ?_
          try simp only [Act.put, List.setIfInBounds_toArray, List.set_cons_zero, List.set_cons_succ]
          go_big_quiet_step (exact quiet_same (HC.out _ _ _ (HBI.out _)))
          go_big_quiet_step (fail)
          go_big_quiet_step (fail)
          refine wpQuiet_nil ?_
          intro _ hw'
          obtain ⟨nq, hw''⟩ := hw'
          subst hw''
          go_wp2
          go_ret3
          exact retFr_nil _ _ _ (below_drewN (Below.refl _ _) nq)
  · have hne : (e == 0) = false := by rw [beq_eq_false_iff_ne]; omega
    have hne2 : (e != 0) = true := by rw [bne_iff_ne]; omega
    have HE : Hid (frGet l = ([], 0, e)) := HV.out.trans (if_neg (by omega))
    clear HV
    rw [HE.out]
    go_enter Tryz.func68, Tryz.ntmps68
    go_wp2_with (go_at_call 114; (with_reducible refine HG.out.mono ?_); rintro x w1 ⟨rfl, rfl⟩)
    go_ret3
    exact retFr_nil _ _ _ (Below.refl _ _)
end Go.Proofs.YtnpdfmpjjomhcaaGreat
