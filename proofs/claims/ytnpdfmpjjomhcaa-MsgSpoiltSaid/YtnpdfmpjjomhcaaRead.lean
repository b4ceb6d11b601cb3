/- The reader of package pack: numbers. Conditions: at most 2^30 bytes. -/
import Derived.Test.YtnpdfmpjjomhcaaDecA
import Derived.Test.YtnpdfmpjjomhcaaDec
import Derived.Test.YtnpdfmpjjomhcaaMem
set_option linter.unusedSimpArgs false
set_option linter.unusedVariables false
set_option linter.unnecessarySimpa false
namespace Go.Proofs.Ytnpdfmpjjomhcaa
open Go.RowKit

theorem two_set0 {w : World} {R : Nat} {x y : Value} {t : TypeId} {f : Nat × Nat} (h : w.heap[R]? = some (.cells #[x, y] t f)) (v : Value) : (w.setCell ⟨R, 0, none⟩ v).heap[R]? = some (.cells #[v, y] t f) := by
  simp [World.setCell, Array.getElem?_modify, h]
theorem two_set1 {w : World} {R : Nat} {x y : Value} {t : TypeId} {f : Nat × Nat} (h : w.heap[R]? = some (.cells #[x, y] t f)) (v : Value) : (w.setCell ⟨R, 1, none⟩ v).heap[R]? = some (.cells #[x, v] t f) := by
  simp [World.setCell, Array.getElem?_modify, h]
theorem two_cell {w : World} {R : Nat} {x y : Value} {t : TypeId} (h : w.heap[R]? = some (.cells #[x, y] t (0, 0))) : w.cell? ⟨R, 0, none⟩ = some x ∧ w.cell? ⟨R, 1, none⟩ = some y ∧ w.frozen? ⟨R, 0, none⟩ = false ∧ w.frozen? ⟨R, 1, none⟩ = false := by
  simp [World.cell?, World.frozen?, h]
abbrev isR (R : Nat) : Nat → Prop := fun k => k = R
theorem fr_set {w : World} {R o : Nat} (v : Value) : Fr (isR R) w (w.setCell ⟨R, o, none⟩ v) :=
  ⟨rfl, rfl, rfl, by simp, fun k _ hk => heap_setCell_other _ _ _ _ (fun e => hk e.symm)⟩
/-- one footprint, again and again -/
theorem Fr.again {S : Nat → Prop} {a b c : World} (h : Fr S a b) (k : Fr S b c) : Fr S a c := h.trans (k.mono fun _ _ g => Or.inl g)
/-- bytes that were there ahead of block R -/
def BytesUnder (w : World) (R : Nat) (a : Option Addr) (l : Bytes) : Prop := l = [] ∨ ∃ A off, a = some ⟨A, off, none⟩ ∧ A < R ∧ BytesAt w A off l
theorem BytesUnder.ofIn {w : World} {R : Nat} {a : Option Addr} {l : Bytes} (h : BytesIn w a l) (hR : w.heap.size ≤ R) : BytesUnder w R a l := by
  rcases h with h | ⟨A, off, ha, hb⟩
  · exact Or.inl h
  · by_cases h0 : l = []
    · exact Or.inl h0
    · exact Or.inr ⟨A, off, ha, Nat.lt_of_lt_of_le (hb.block (List.length_pos_iff.2 h0)) hR, hb⟩
theorem BytesUnder.toIn {w : World} {R : Nat} {a : Option Addr} {l : Bytes} (h : BytesUnder w R a l) : BytesIn w a l := by
  rcases h with h | ⟨A, off, ha, _, hb⟩
  · exact Or.inl h
  · exact Or.inr ⟨A, off, ha, hb⟩
theorem BytesUnder.keep {w w' : World} {R : Nat} {a : Option Addr} {l : Bytes} (h : BytesUnder w R a l) (hk : ∀ k, k < R → w'.heap[k]? = w.heap[k]?) : BytesUnder w' R a l := by
  rcases h with h | ⟨A, off, ha, hA, hb⟩
  · exact Or.inl h
  · exact Or.inr ⟨A, off, ha, hA, fun j hj => (World.cell?_of_block (hk A hA)).trans (hb j hj)⟩
theorem BytesUnder.dropMap {w : World} {R : Nat} {a : Option Addr} {l : Bytes} (h : BytesUnder w R a l) (k : Nat) : BytesUnder w R (a.map (fun x => x.add k)) (l.drop k) := by
  rcases h with h | ⟨A, off, rfl, hA, hb⟩
  · exact Or.inl (by rw [h]; simp)
  · refine Or.inr ⟨A, off + k, by simp [Addr.add_mid], hA, fun j hj => ?_⟩
    have h1 : k + j < l.length := by simp at hj; omega
    have := hb (k + j) h1
    rw [← Nat.add_assoc] at this
    rw [this, List.getElem_drop]
/-- block R holds a reader -/
def RdAt (w : World) (R : Nat) (r : Rd) : Prop :=
  ∃ a cap, w.heap[R]? = some (.cells #[.slice a r.b.length cap, .int .i64 r.e] 87 (0, 0)) ∧ BytesUnder w R a r.b ∧ r.b.length ≤ cap
theorem RdAt.lt {w : World} {R : Nat} {r : Rd} (h : RdAt w R r) : R < w.heap.size := by
  obtain ⟨_, _, h, _⟩ := h
  exact lt_of_block h
theorem RdAt.keep {w w' : World} {R : Nat} {r : Rd} (h : RdAt w R r) (hk : ∀ k, k ≤ R → w'.heap[k]? = w.heap[k]?) : RdAt w' R r := by
  obtain ⟨a, cap, h1, h2, h3⟩ := h
  exact ⟨a, cap, by rw [hk R (Nat.le_refl _)]; exact h1, h2.keep (fun k h => hk k (Nat.le_of_lt h)), h3⟩
theorem RdAt.below {w w' : World} {R : Nat} {r : Rd} (h : RdAt w R r) (hb : Below w.heap.size w w') : RdAt w' R r :=
  h.keep (fun k hk => hb.block k (Nat.lt_of_le_of_lt hk h.lt))
theorem BytesUnder.set {w : World} {R o : Nat} {a : Option Addr} {l : Bytes} (h : BytesUnder w R a l) (v : Value) : BytesUnder (w.setCell ⟨R, o, none⟩ v) R a l :=
  h.keep (fun k hk => heap_setCell_other _ _ _ _ (fun e => by simp only at e; omega))
theorem RdAt.setE {w : World} {R : Nat} {r : Rd} (h : RdAt w R r) (e : Int) : RdAt (w.setCell ⟨R, 1, none⟩ (.int .i64 e)) R ⟨r.b, e⟩ := by
  obtain ⟨a, cap, h1, h2, h3⟩ := h
  exact ⟨a, cap, two_set1 h1 _, h2.set _, h3⟩
theorem RdAt.setB {w : World} {R : Nat} {r : Rd} (h : RdAt w R r) {a : Option Addr} {cap : Nat} {b : Bytes} (hb : BytesUnder w R a b) (hc : b.length ≤ cap) : RdAt (w.setCell ⟨R, 0, none⟩ (.slice a b.length cap)) R ⟨b, r.e⟩ := by
  obtain ⟨a', cap', h1, h2, h3⟩ := h
  exact ⟨a, cap, two_set0 h1 _, hb.set _, hc⟩
theorem BytesUnder.fr {w w' : World} {R : Nat} {a : Option Addr} {l : Bytes} (h : BytesUnder w R a l) (hf : Fr (isR R) w w') (hR : R < w.heap.size) : BytesUnder w' R a l :=
  h.keep (fun k hk => hf.block k (Nat.lt_trans hk hR) (by simp only [isR]; omega))
theorem RdAt.setDrop {w : World} {R : Nat} {r : Rd} (h : RdAt w R r) (he : Hid (r.e = 0)) {a : Option Addr} {cap : Nat} (k : Nat) (hb : BytesUnder w R a (r.b.drop k)) (hc : r.b.length - k ≤ cap) : RdAt (w.setCell ⟨R, 0, none⟩ (.slice a (r.b.length - k) cap)) R ⟨r.b.drop k, 0⟩ := by
  have := h.setB hb (by simpa using hc)
  rw [List.length_drop, he.out] at this
  exact this
/-- behind a reader's method -/
def RetRd (R : Nat) (r : Rd) (v : Value) (w : World) (x : Ending) (w' : World) : Prop := x = .returned v ∧ RdAt w' R r ∧ Fr (isR R) w w'

theorem may_r (R : Nat) (r : Rd) (w : World) (h : RdAt w R r) : Calls Try.prog 41 #[.pointer (some ⟨R, 0, none⟩)] w fun x w' => x = .returned (.bool (decide (r.e = 0))) ∧ w = w' := by
  obtain ⟨a, cap, hB, hb, hc⟩ := h
  obtain ⟨q0, q1, f0, f1⟩ := two_cell hB
  by_cases he : r.e = 0
  · have hq : (r.e == 0) = true := beq_iff_eq.2 he
    have HE : Hid (decide (r.e = 0) = true) := decide_eq_true he
    clear he
    go_enter Try.func41, Try.ntmps41
    go_wp2
    go_ret
    exact ⟨ret_bool HE.out.symm, rfl⟩
  · have hq : (r.e == 0) = false := beq_eq_false_iff_ne.2 he
    have HE : Hid (decide (r.e = 0) = false) := decide_eq_false he
    clear he
    go_enter Try.func41, Try.ntmps41
    go_wp2
    go_ret
    exact ⟨ret_bool HE.out.symm, rfl⟩

set_option maxRecDepth 100000 in
set_option maxHeartbeats 1000000 in
theorem Num_r (R : Nat) (r : Rd) (most : Nat) (w : World) (hl : r.b.length ≤ 1073741824) (hm : most < 18446744073709551616) (h : RdAt w R r) :
    Calls Try.prog 18 #[.pointer (some ⟨R, 0, none⟩), .int .u64 most] w (RetRd R (rNum most r).1 (.int .u64 (rNum most r).2) w) := by
  have h' := h
  obtain ⟨a, cap, hB, hb, hc⟩ := h
  obtain ⟨q0, q1, f0, f1⟩ := two_cell hB
  have hmay := may_r R r w h'
  by_cases he : r.e = 0
  · rw [decide_eq_true he] at hmay
    have HM := Lib.hid hmay
    clear hmay
    have hd := Get_any a cap r.b w hl hb.toIn
    have hfit := getS_fit r.b
    have HV : Hid (rNum most r = if (getS r.b).2.2 = 0 then (if most < (getS r.b).1 then (⟨r.b, 3⟩, 0) else (⟨r.b.drop (getS r.b).2.1, 0⟩, (getS r.b).1)) else (⟨r.b, (getS r.b).2.2⟩, 0)) := by unfold Hid rNum; rw [if_pos he]
    obtain ⟨n, k, e, hg⟩ : ∃ n k e, getS r.b = (n, k, e) := ⟨_, _, _, rfl⟩
    rw [hg] at hd hfit HV
    simp only at hd hfit HV
    clear hg
    rw [he] at q1
    have HG := Lib.hid hd
    clear hd
    rcases hfit with ⟨rfl, hn, hk0, hkl⟩ | ⟨he2, rfl, rfl⟩
    · by_cases hmn : most < n
      · have HE : Hid (rNum most r = (⟨r.b, 3⟩, 0)) := by rw [Hid, HV.out, if_pos rfl, if_pos hmn]
        have HR := Lib.hid (h'.setE 3)
        clear he HV h'
        go_enter Try.func18, Try.ntmps18
        go_wp2_with (first | (go_at_call 41; (with_reducible refine HM.out.mono ?_); rintro x w1 ⟨rfl, rfl⟩) | (go_at_call 42; (with_reducible refine HG.out.mono ?_); rintro x w1 ⟨rfl, rfl⟩))
        go_ret
        rw [HE.out]
        exact ⟨rfl, HR.out, fr_set _⟩
      · have HE : Hid (rNum most r = (⟨r.b.drop k, 0⟩, n)) := by rw [Hid, HV.out, if_pos rfl, if_neg hmn]
        have HE0 := Lib.hid he
        clear he HV
        go_enter Try.func18, Try.ntmps18
        go_wp2_with (first | (go_at_call 41; (with_reducible refine HM.out.mono ?_); rintro x w1 ⟨rfl, rfl⟩) | (go_at_call 42; (with_reducible refine HG.out.mono ?_); rintro x w1 ⟨rfl, rfl⟩))
        all_goals
          go_ret
          rw [HE.out]
          exact ⟨rfl, by first | exact h'.setDrop HE0 k (hb.dropMap k) (by omega) | exact h'.setDrop HE0 k (Or.inl (List.drop_eq_nil_of_le (by omega))) (by omega), fr_set _⟩
    · have hne : (e == 0) = false := by rw [beq_eq_false_iff_ne]; omega
      have hne2 : (e != 0) = true := by rw [bne_iff_ne]; omega
      have HE : Hid (rNum most r = (⟨r.b, e⟩, 0)) := by rw [Hid, HV.out, if_neg (by omega)]
      have HR := Lib.hid (h'.setE e)
      clear he HV h' he2
      go_enter Try.func18, Try.ntmps18
      go_wp2_with (first | (go_at_call 41; (with_reducible refine HM.out.mono ?_); rintro x w1 ⟨rfl, rfl⟩) | (go_at_call 42; (with_reducible refine HG.out.mono ?_); rintro x w1 ⟨rfl, rfl⟩))
      go_ret
      rw [HE.out]
      exact ⟨rfl, HR.out, fr_set _⟩
  · rw [decide_eq_false he] at hmay
    have HM := Lib.hid hmay
    clear hmay
    have HE : Hid (rNum most r = (r, 0)) := by unfold Hid rNum; rw [if_neg he]
    clear he
    go_enter Try.func18, Try.ntmps18
    go_wp2_with (go_at_call 41; (with_reducible refine HM.out.mono ?_); rintro x w1 ⟨rfl, rfl⟩)
    go_ret
    rw [HE.out]
    exact ⟨rfl, h', Fr.refl _ _⟩
end Go.Proofs.Ytnpdfmpjjomhcaa
