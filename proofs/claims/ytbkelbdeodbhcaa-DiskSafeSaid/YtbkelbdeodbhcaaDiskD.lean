/- A file's bytes: all, cut, add. Conditions: at most 2^30 bytes. -/
import Derived.Test.YtbkelbdeodbhcaaDiskC
import Derived.Test.YtbkelbdeodbhcaaCel
import Derived.Deep.RegionLaw
import Derived.OwnWalk
set_option linter.unusedSimpArgs false
set_option linter.unusedVariables false
set_option linter.unnecessarySimpa false
namespace Go.Proofs.Ytbkelbdeodbhcaa
open Go.RowKit

theorem addr_add0 (a : Option Addr) : a.map (fun x => x.add 0) = a := by
  cases a with
  | none => rfl
  | some x => obtain ⟨b, o, p⟩ := x; cases p <;> simp [Addr.add]
theorem run_cut_himax {P : Program} (w : World) (t e : TypeId) (i0 : TypeInfo) (a : Option Addr) (n cap : Nat) (k k2 : IntKind) (j m : Nat) (ht : P.underlying t = some (.slice e)) (hi : P.info? e = some i0) (h1 : j ≤ m) (h2 : m ≤ cap) :
    (Instr.sliceAt t (.slice a n cap) none (some (.int k j)) (some (.int k2 m))).run P w = .ok (.slice a j m) w := by
  have h3 : (if m = 0 then a else a.map (fun x => x.add 0)) = a := by rw [addr_add0]; split <;> rfl
  simp [Instr.sliceAt, Instr.slice, Instr.sliceBounds, Instr.sliceBound, asIntOf, run_underlying ht, sizeOf, typeInfo, hi]
  rw [if_pos h2, if_pos h1]
  simp [h3]

/-- a new row's first cells are these bytes -/
theorem bytes_new {w : World} {m : Bytes} {r : Array Value} (t : TypeId) (hr : ∃ zs, r = (byteVals m).toArray ++ zs) : BytesIn (w.alloc (.cells r t)) (some ⟨w.heap.size, 0, none⟩) m := by
  obtain ⟨zs, rfl⟩ := hr
  refine Or.inr ⟨_, _, rfl, fun j hj => ?_⟩
  have hj' : j < (byteVals m).length := by rw [byteVals_length]; exact hj
  simp only [World.cell?, World.alloc, Nat.zero_add, Array.getElem?_push_size]
  simp [Array.getElem?_append, hj', byteVals, hj]

/-- bytes appended to a slice that has no room: always new memory, or the slice as it was -/
theorem run_append_full (w : World) (ty : TypeId) (a a2 : Option Addr) (l l2 : Bytes) (cap2 : Nat) (h : BytesIn w a l) (h2 : BytesIn w a2 l2) (hb : l.length + l2.length ≤ 1073741824) :
    ∃ a' cap' w', (Builtin.append_ #[32, 32] ty #[.slice a l.length l.length, .slice a2 l2.length cap2]).run Try.prog w = .ok (.slice a' (l ++ l2).length cap') w' ∧ Below w.heap.size w w' ∧ BytesIn w' a' (l ++ l2) ∧ (l ++ l2).length ≤ cap' := by
  obtain ⟨i0, hi, hz0, hz1, hz2⟩ := info_parts Try.infoByte
  by_cases h0 : l2 = []
  · subst h0
    refine ⟨a, l.length, w, ?_, Below.refl _ _, by simpa using h, by simp⟩
    have hf : (Builtin.firstCells 1 0 (.slice a2 0 cap2)).run Try.prog w = .ok #[] w := by
      cases a2 with
      | none => exact run_firstCells_none (P := Try.prog) (w := w) 1 0 0 cap2
      | some x => exact run_firstCells_some (P := Try.prog) (w := w) 1 0 x 0 cap2 [] rfl (fun j v hj => by simp at hj)
    cases a <;> simp [Builtin.append_, run_underlying Try.underlying32, run_underlying Try.underlying5, sizeOf, typeInfo, zeroValue, hi, hz0, hz1, Builtin.lenOf, hf, storeCells, Result.andThen]
  · have hl2 : 0 < l2.length := List.length_pos_iff.2 h0
    obtain ⟨A2, off2, rfl, hA2⟩ : ∃ A off, a2 = some ⟨A, off, none⟩ ∧ BytesAt w A off l2 := by
      rcases h2 with h2 | h2
      · exact absurd h2 h0
      · exact h2
    have hnews := hA2.news
    have hlen : (l ++ l2).length = l.length + l2.length := by simp
    cases a with
    | none =>
      have hl : l = [] := by rcases h with h | ⟨A, off, h1, _⟩; exact h; cases h1
      subst hl
      have hr := run_append_nil (P := Try.prog) (w := w) 32 ty 5 i0 _ Try.underlying32 hi hz0 ⟨A2, off2, none⟩ l2.length cap2 (byteVals l2) (by rw [hz1, byteVals_length]; simp) hnews hl2 (by simp at hb; omega) (by rw [hz2]; simp at hb; omega)
      refine ⟨_, _, _, by simpa using hr, (Below.refl _ _).drew.alloc (Nat.le_refl _) _, bytes_new _ ⟨_, rfl⟩, ?_⟩
      simpa using grownCap_ge w l2.length 0 5
    | some b =>
      have holds : ∀ j v, (byteVals l)[j]? = some v → w.cell? (b.add j) = some v := by
        rcases h with rfl | ⟨A, off, h1, h3⟩
        · intro j v hj; simp [byteVals] at hj
        · obtain rfl : b = ⟨A, off, none⟩ := by simpa using h1
          exact h3.news
      have hr := run_append_grow (P := Try.prog) (w := w) 32 ty 5 i0 _ Try.underlying32 hi hz0 b l.length l.length (byteVals l) (by rw [hz1, byteVals_length]; simp) holds ⟨A2, off2, none⟩ l2.length cap2 (byteVals l2) (by rw [hz1, byteVals_length]; simp) hnews (by omega) (by omega) (growslice_fits (by omega) (by rw [hz2]; omega))
      refine ⟨_, _, _, by rw [hlen]; exact hr, (Below.refl _ _).drew.alloc (Nat.le_refl _) _, bytes_new _ ⟨Builtin.zeroCells _ _, by rw [byteVals_append, ← List.append_toArray]⟩, ?_⟩
      rw [hlen]
      exact grownCap_ge w _ _ 5

theorem step_append_full {ops : Array Oper} {o : Oper} {a : Act} {w : World} {K : Act → World → Prop} {Q : Exit → Act → World → Prop} {E : Prop} (hw : Region.wanted o (yielded ops a.tmps) = true) (s x : Operand)
    (ho : o.op = .call { callee := .builtin .append, args := #[s, x], argTypes := #[32, 32] })
    (ad a2 : Option Addr) (l l2 : Bytes) (cap2 : Nat) (hs : a.eval s = .slice ad l.length l.length) (hx : a.eval x = .slice a2 l2.length cap2) (h1 : BytesIn w ad l) (h2 : BytesIn w a2 l2) (hb : l.length + l2.length ≤ 1073741824)
    (h : ∀ a' cap' w', Below w.heap.size w w' → BytesIn w' a' (l ++ l2) → (l ++ l2).length ≤ cap' → K (a.put o.dst (.slice a' (l ++ l2).length cap')) w') :
    if Region.wanted o (yielded ops a.tmps) = true then Oper.wp Try.prog o a w K Q else E := by
  rw [if_pos hw]
  obtain ⟨a', cap', w', hr, h3, h4, h5⟩ := run_append_full w o.type ad a2 l l2 cap2 h1 h2 hb
  unfold Oper.wp execOp
  simp only [ho, resolve, invoke, builtin, Sem.run_bind, Sem.run_pure, Result.andThen_ok, List.map_toArray, List.map_cons, List.map_nil, hs, hx, hr]
  exact h _ _ _ h3 h4 h5

/-! ### bytes stay -/
/-- no byte lies in block k -/
def NoByte (w : World) (k : Nat) : Prop := ∀ o c, w.cell? ⟨k, o, none⟩ ≠ some (.int .u8 c)
theorem NoByte.file {w : World} {k : Nat} {n : Int} {t : TypeId} {fr : Nat × Nat} {a : Option Addr} {l c : Nat} (h : w.heap[k]? = some (.cells #[.slice a l c, .int .i64 n] t fr)) : NoByte w k := by
  intro o c e
  simp only [World.cell?, h] at e
  match o, e with
  | 0, e => simp at e
  | 1, e => simp at e
  | o + 2, e => simp at e
theorem NoByte.disk {w : World} {k b arm : Nat} {down : Bool} (h : DkCells w k b arm down) : NoByte w k := by
  intro o c e
  simp only [World.cell?, show w.heap[k]? = _ from h] at e
  match o, e with
  | 0, e => simp at e
  | 1, e => simp at e
  | 2, e => simp at e
  | o + 3, e => simp at e
theorem NoByte.map {w : World} {k : Nat} {es : Array MapEntry} {cl : Nat} (h : w.heap[k]? = some (.map es cl)) : NoByte w k := by
  intro o c e
  simp [World.cell?, h] at e
theorem BytesIn.fr {S : Nat → Prop} {w w' : World} {a : Option Addr} {l : Bytes} (h : BytesIn w a l) (hf : Fr S w w') (hS : ∀ k, S k → NoByte w k) : BytesIn w' a l := by
  rcases h with h | ⟨A, off, h1, h2⟩
  · exact Or.inl h
  · by_cases h0 : l = []
    · exact Or.inl h0
    · have hl := List.length_pos_iff.2 h0
      refine Or.inr ⟨A, off, h1, fun j hj => hf.kept (h2 j hj) (fun hs => hS _ hs (off + j) _ (h2 j hj))⟩

/-! ### all -/
set_option maxHeartbeats 400000 in
theorem all_any {w : World} {fb : Nat} {f : DF} (hl : f.b.length ≤ 1073741824) (h : FileAt w fb f) : Calls Try.prog 34 #[.pointer (some ⟨fb, 0, none⟩)] w (RetBytes f.b w) := by
  obtain ⟨a, cap, h1, h2, h3⟩ := h
  obtain ⟨p0, p1, f0, f1⟩ := two_cell h1
  have HC := Lib.hid (CloneBytes_any a cap f.b w hl h2)
  clear h1 h2 h3
  go_enter Try.func34, Try.ntmps34
  go_wp2_with (go_at_call 46; (with_reducible refine HC.out.mono ?_); rintro e w1 ⟨v, rfl, hown, hb⟩)
  all_goals
    go_ret
    exact ⟨v, rfl, hown, hb⟩

/-! ### cut -/
set_option maxHeartbeats 400000 in
theorem cut_any {w : World} {fb : Nat} {f : DF} {n : Nat} (hl : f.b.length ≤ 1073741824) (hn : n ≤ f.b.length) (h : FileAt w fb f) :
    Calls Try.prog 37 #[.pointer (some ⟨fb, 0, none⟩), .int .i64 n] w fun e w' => e = .returned (.tuple #[]) ∧ FileAt w' fb { f with b := f.b.take n } ∧ Fr (isR fb) w w' := by
  obtain ⟨a, cap, h1, h2, h3⟩ := h
  obtain ⟨p0, p1, f0, f1⟩ := two_cell h1
  obtain ⟨i0, hi, _, hz1, _⟩ := info_parts Try.infoByte
  have hcut := run_cut_himax (P := Try.prog) w 32 5 i0 a f.b.length cap .i64 .i64 n n Try.underlying32 hi (Nat.le_refl _) (by omega)
  have H1 := Lib.hid h1
  have H2 := Lib.hid h2
  clear h1 h2
  have HL : Hid ((f.b.take n).length = n) := Lib.hid (by simp; omega)
  go_enter Try.func37, Try.ntmps37
  go_wp2
  all_goals
    go_end0
    exact ⟨rfl, ⟨a, n, by rw [HL.out]; exact two_set0 H1.out _, (H2.out.take n).fr (S := isR fb) (fr_set _) (fun k hk => by subst hk; exact NoByte.file H1.out), by rw [HL.out]; exact Nat.le_refl _⟩, fr_set _⟩
end Go.Proofs.Ytbkelbdeodbhcaa
