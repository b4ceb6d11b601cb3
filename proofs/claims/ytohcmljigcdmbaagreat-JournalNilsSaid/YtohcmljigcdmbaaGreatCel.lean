/- Bytes that grow: slices.Clone, varint.Put. Conditions: at most 2^30 bytes. -/
import Derived.Test.YtohcmljigcdmbaaGreatChecked
import Derived.Test.YtohcmljigcdmbaaGreatKit
import Derived.Maps.AppendAt
import Derived.Lib.SliceRun
import Derived.Deep.MidRow
import Derived.OrdersHeld
import Derived.Deep.RegionLaw
import Derived.Deep.RegionHeld3
import Derived.BigQuiet
import Derived.Deep.AppendLies
import Derived.Great.BuildSlice
import Derived.Great.FillDense
set_option linter.unusedSimpArgs false
set_option linter.unusedVariables false
set_option linter.unnecessarySimpa false
set_option maxHeartbeats 16000000
set_option maxRecDepth 100000
namespace Go.Proofs.YtohcmljigcdmbaaGreat
open Go.RowKit
def byteVals (l : Bytes) : List Value := l.map fun x => .int .u8 x.toNat
/-- a slice of bytes reads as l -/
def BytesIn (w : World) (a : Option Addr) (l : Bytes) : Prop := l = [] ∨ ∃ A off, a = some ⟨A, off, none⟩ ∧ BytesAt w A off l
theorem BytesIn.kept {w w' : World} {a : Option Addr} {l : Bytes} (h : BytesIn w a l) (hb : Below w.heap.size w w') : BytesIn w' a l := by
 rcases h with h | ⟨A, off, h1, h2⟩
 ·exact Or.inl h
 ·exact Or.inr ⟨A, off, h1, h2.below hb⟩
theorem byteVals_length (l : Bytes) : (byteVals l).length = l.length := by simp [byteVals]
theorem byteVals_append (l m : Bytes) : byteVals (l ++ m) = byteVals l ++ byteVals m := by simp [byteVals]
theorem byteVals_one (l : Bytes) : ∀ u ∈ byteVals l, u.oneCell' = true := by
 intro u hu
 simp only [byteVals, List.mem_map] at hu
 obtain ⟨x, _, rfl⟩ := hu
 rfl
theorem BytesAt.news {w : World} {A off : Nat} {l : Bytes} (h : BytesAt w A off l) : ∀ j u, (byteVals l)[j]? = some u → w.cell? ((⟨A, off, none⟩ : Addr).add j) = some u := by
 intro j u hj
 obtain ⟨hj', rfl⟩ := List.getElem?_eq_some_iff.1 hj
 rw [byteVals_length] at hj'
 rw [Addr.add_mid]
 rw [h j hj']
 simp [byteVals]
/-- what hands back bytes in memory of its own -/
def RetBytes (l : Bytes) (w : World) (e : Ending) (w' : World) : Prop :=
 ∃ v, e = .returned v ∧ w'.ownsRow w.heap.size 5 1 v l.length (byteVals l) ∧ Below w.heap.size w w'
theorem Tryz.infoByte : (Tryz.prog.info? 5).map (fun i => (i.zero, i.size, i.bytes)) = some (some (.int .u8 0), 1, 1) := by kernel_rfl
theorem CloneBytes_any (a : Option Addr) (cap : Nat) (l : Bytes) (w : World) (hl : l.length ≤ 1073741824) (h : BytesIn w a l) :
 Calls Tryz.prog 122 #[.slice a l.length cap] w (RetBytes l w) := by
 obtain ⟨i0, hi, hz0, hz1, hz2⟩ := info_parts Tryz.infoByte
 have hnil := fun (W : World) => Lib.run_eql_slice_nil (P := Tryz.prog) W 82 5 a l.length cap 0 0 Tryz.underlying82
 cases a with
 | none =>
   have hl0 : l = [] := by rcases h with h | ⟨A, off, h1, _⟩; exact h; cases h1
   subst hl0
   simp only [List.length_nil] at hnil ⊢
   go_enter Tryz.func122, Tryz.ntmps122
   go_wp2
   go_ret
   exact ⟨_, rfl, World.ownsRow_nil _ _ _ _, Below.refl _ _⟩
 | some ad =>
   have hnews : ∀ j u, (byteVals l)[j]? = some u → w.cell? (ad.add j) = some u := by
    rcases h with rfl | ⟨A, off, h1, h2⟩
    ·intro j u hj; simp [byteVals] at hj
    ·obtain rfl : ad = ⟨A, off, none⟩ := by simpa using h1
     exact h2.news
   have HN : Hid (∀ j u, (byteVals l)[j]? = some u → (w.alloc (Obj.cells #[] 5)).cell? (ad.add j) = some u) := fun j u hj => kept ((Below.refl _ _).alloc (Nat.le_refl _) _) (hnews j u hj)
   have hown : (w.alloc (Obj.cells #[] 5)).ownsRow w.heap.size 5 1 (.slice (some ⟨w.heap.size, 0, none⟩) 0 0) 0 [] := World.ownsRow_made _ _ _ (Nat.le_refl _) (by decide) rfl
   have hbv := byteVals_length l
   clear hnews h
   go_enter Tryz.func122, Tryz.ntmps122
   go_wp2_with (at_builtin; go_loud (refine wpList_append_own _ rfl _ _ 82 rfl w.heap.size 5 i0 (.int .u8 0) 1 1 Tryz.underlying82 hi hz0 hz1 hz2 rfl (by decide) _ _ _ rfl hown ad l.length cap (byteVals l) rfl (by rw [hbv]; simp) HN.out (byteVals_one l) (by unfold maxLen; omega) (by omega) (by simp) ?_))
   intro v' w2 hown2 hgrow _
   have hb2 := ((Below.refl w.heap.size w).alloc (Nat.le_refl _) (Obj.cells #[] 5)).grown hgrow (by simp) (fun k hk => (hown.lt k hk).1)
   go_wp2
   go_ret
   exact ⟨_, rfl, by simpa using hown2, hb2⟩
/-- a number's short bytes -/
def shortB (n : Nat) : Bytes := if n < 128 then [UInt8.ofNat n] else UInt8.ofNat (n % 128 + 128) :: shortB (n / 128)
theorem shortB_small (n : Nat) (h : n < 128) : shortB n = [UInt8.ofNat n] := by rw [shortB, if_pos h]
theorem shortB_big (n : Nat) (h : ¬ n < 128) : shortB n = UInt8.ofNat (n % 128 + 128) :: shortB (n / 128) := by rw [shortB, if_neg h]
theorem shortB_len : ∀ (k n : Nat), n < 128 ^ (k + 1) → (shortB n).length ≤ k + 1
 | 0, n, h => by rw [shortB_small n (by simpa using h)]; simp
 | k + 1, n, h => by
   by_cases h1 : n < 128
   ·rw [shortB_small n h1]; simp
   ·rw [shortB_big n h1]
    have := shortB_len k (n / 128) (by rw [Nat.pow_succ] at h; omega)
    simp; omega
theorem shortB_len10 (n : Nat) (h : n < 18446744073709551616) : (shortB n).length ≤ 10 := shortB_len 9 n (by omega)
theorem or128_fin : ∀ x : Fin 256, bits BinOp.or IntKind.u8 ((x.val : Nat) : Int) 128 = ((x.val % 128 + 128 : Nat) : Int) := by decide +kernel
theorem or128 (m : Nat) : bits BinOp.or IntKind.u8 ((m : Int) % 256) 128 = ((m % 128 + 128 : Nat) : Int) := by
 have h := or128_fin ⟨m % 256, by omega⟩
 simp only at h
 rw [show ((m % 256 : Nat) : Int) = (m : Int) % 256 by omega] at h
 rw [h]; congr 1; omega
theorem Put_any (a : Option Addr) (cap : Nat) (l : Bytes) (n : Nat) (w : World) (hl : l.length ≤ 536870912) (hn : n < 18446744073709551616) (h : BytesIn w a l) :
 Calls Tryz.prog 115 #[.slice a l.length cap, .int .u64 n] w (RetBytes (l ++ shortB n) w) := by
 obtain ⟨i0, hi, hz0, hz1, hz2⟩ := info_parts Tryz.infoByte
 have HC := Lib.hid (fun (W : World) (h : BytesIn W a l) => CloneBytes_any a cap l W (by omega) h)
 go_enter Tryz.func115, Tryz.ntmps115
 go_wp2_with (go_at_call 122; refine (HC.out _ h).mono ?_; rintro e w1 ⟨v, rfl, hown, hbel⟩)
 go_loopw [1, 5] (fun x out wr => ∃ (m : Nat) (d : Bytes), x = .int .u64 m ∧ m ≤ n ∧ d.length + (shortB m).length = l.length + (shortB n).length ∧ l ++ shortB n = d ++ shortB m ∧ wr.ownsRow w.heap.size 5 1 out d.length (byteVals d) ∧ Below w.heap.size w wr) (fun x _ _ => (intOf x).toNat)
 case atStart => exact ⟨n, l, rfl, Nat.le_refl _, rfl, rfl, hown, hbel⟩
 case round =>
  obtain ⟨m, d, rfl, hm, hlen, hpre, hown2, hbel2⟩ := hrel
  have HP := Lib.hid hpre
  clear hpre
  have hzw := hbel2.size
  by_cases h1 : m < 128
  ·have hS := Lib.hid (shortB_small m h1)
   have hl1 : d.length ≤ l.length + 10 := by have := shortB_len10 n hn; omega
   have hx : Hid (Value.int .u8 (m : Int) = .int .u8 (UInt8.ofNat m).toNat) := by unfold Hid; congr 1; rw [UInt8.toNat_ofNat']; omega
   clear hlen
   go_wp2_with (at_builtin; go_loud (refine wpList_append_own _ rfl _ _ 82 rfl w.heap.size 5 i0 (.int .u8 0) 1 1 Tryz.underlying82 hi hz0 hz1 hz2 rfl (by decide) _ _ _ rfl (hown2.alloc _) ⟨wr.heap.size, 0, none⟩ 1 1 [.int .u8 (m : Int)] rfl rfl (cell_one_new _ _ _) (by simp [Value.oneCell']) (by unfold maxLen; omega) (by omega) (by simp; omega) ?_))
   intro v' w2 hown3 hgrow _
   have hb3 := (hbel2.alloc hzw (Obj.cells #[.int .u8 (m : Int)] 5)).grown hgrow (by simp; omega) (fun k hk => (hown2.lt k hk).1)
   go_wp2
   go_ret
   exact ⟨_, rfl, by rw [hx.out] at hown3; rw [HP.out, hS.out]; simpa [byteVals_append, byteVals] using hown3, hb3⟩
  ·have hS := Lib.hid (shortB_big m h1)
   have hl0 : (shortB m).length = (shortB (m / 128)).length + 1 := by rw [hS.out]; simp
   have hl1 : d.length ≤ l.length + 10 := by have := shortB_len10 n hn; omega
   have hl2 : (d ++ [UInt8.ofNat (m % 128 + 128)]).length + (shortB (m / 128)).length = l.length + (shortB n).length := by simp; omega
   have HL2 := Lib.hid hl2
   have hbo := or128 m
   have hx : Hid (Value.int .u8 ((m : Int) % 128 + 128) = .int .u8 (UInt8.ofNat (m % 128 + 128)).toNat) := by unfold Hid; congr 1; rw [UInt8.toNat_ofNat']; omega
   clear hlen hl0 hl2
   go_wp2_with (at_builtin; go_loud (refine wpList_append_own _ rfl _ _ 82 rfl w.heap.size 5 i0 (.int .u8 0) 1 1 Tryz.underlying82 hi hz0 hz1 hz2 rfl (by decide) _ _ _ rfl (hown2.alloc _) ⟨wr.heap.size, 0, none⟩ 1 1 [_] rfl rfl (cell_one_new _ _ _) (by simp [Value.oneCell']) (by unfold maxLen; omega) (by omega) (by simp; omega) ?_))
   intro v' w2 hown3 hgrow _
   have hb3 := (hbel2.alloc hzw _).grown hgrow (by simp; omega) (fun k hk => (hown2.lt k hk).1)
   go_wp2
   go_roundw
   case rel => exact ⟨m / 128, d ++ [UInt8.ofNat (m % 128 + 128)], by go_num, by omega, HL2.out, by rw [HP.out, hS.out]; simp, by rw [hx.out] at hown3; simpa [byteVals_append, byteVals] using hown3, hb3⟩
   case measure => simp [intOf] <;> omega
/-- where a slice begins that is cut at element i, each of so many cells -/
def cutA (a : Option Addr) (cap i size : Nat) : Option Addr := if cap = i then a else a.map (fun x => x.add (i * size))
theorem BytesIn.cut {w : World} {a : Option Addr} {l : Bytes} (h : BytesIn w a l) {cap : Nat} (hc : l.length ≤ cap) (i : Nat) : BytesIn w (cutA a cap i 1) (l.drop i) := by
 unfold cutA
 split
 ·rename_i h0; exact Or.inl (List.drop_eq_nil_of_le (by omega))
 ·rcases h with h | ⟨A, off, rfl, hb⟩
  ·exact Or.inl (by rw [h]; simp)
  ·refine Or.inr ⟨A, off + i, by simp [Addr.add_mid], fun j hj => ?_⟩
   have h1 : i + j < l.length := by simp at hj; omega
   have := hb (i + j) h1
   rw [← Nat.add_assoc] at this
   rw [this, List.getElem_drop]
theorem BytesIn.take {w : World} {a : Option Addr} {l : Bytes} (h : BytesIn w a l) (n : Nat) : BytesIn w a (l.take n) := by
 rcases h with h | ⟨A, off, ha, hb⟩
 ·exact Or.inl (by rw [h]; simp)
 ·refine Or.inr ⟨A, off, ha, fun j hj => ?_⟩
  have h1 : j < l.length := by simp at hj; omega
  rw [hb j h1]; simp
section
variable {P : Program}
theorem step_store_row {ops : Array Oper} {o : Oper} {a : Act} {w : World} {K : Act → World → Prop} {Q : Exit → Act → World → Prop} {E : Prop} (hw : Region.wanted o (yielded ops a.tmps) = true) (ty : TypeId) (x y : Operand) (ho : o.op = .store ty x y)
 (g : Nat) (cells : Array Value) (hx : a.eval x = .pointer (some ⟨g, 0, none⟩)) (hy : a.eval y = .agg cells)
 (t : TypeId) (old : Array Value) (hg : w.heap[g]? = some (.cells old t (0, 0))) (hi : (P.info? ty).map (·.size) = some cells.size)
 (hold : old.size = cells.size) (h1 : cells.all (·.oneCell') = true) (h : K (a.put o.dst undef) (w.setRow g cells)) :
 if Region.wanted o (yielded ops a.tmps) = true then Oper.wp P o a w K Q else E := by
 rw [if_pos hw]
 exact wp_store_row ty x y ho g cells hx hy t old hg hi hold h1 h
end
/-! ### cells -/
/-- a slice's cells, all of them -/
def CellsIn (w : World) (a : Option Addr) (cs : List Value) : Prop := cs = [] ∨ ∃ A off, a = some ⟨A, off, none⟩ ∧ w.rangeAt A off cs
theorem range_kept {w w' : World} {b o : Nat} {cs : List Value} (h : w.rangeAt b o cs) (hb : Below w.heap.size w w') : w'.rangeAt b o cs := fun j v hv => kept hb (h j v hv)
theorem CellsIn.kept {w w' : World} {a : Option Addr} {cs : List Value} (h : CellsIn w a cs) (hb : Below w.heap.size w w') : CellsIn w' a cs :=
 h.imp id fun ⟨A, off, h1, h2⟩ => ⟨A, off, h1, range_kept h2 hb⟩
theorem CellsIn.nil {w : World} {a : Option Addr} : CellsIn w a [] := Or.inl rfl
theorem CellsIn.take {w : World} {a : Option Addr} {cs : List Value} (h : CellsIn w a cs) (n : Nat) : CellsIn w a (cs.take n) := by
 rcases h with rfl | ⟨A, off, h1, h2⟩
 ·exact Or.inl (by simp)
 ·refine Or.inr ⟨A, off, h1, fun j v hv => h2 j v ?_⟩
  rw [List.getElem?_take] at hv
  split at hv
  ·exact hv
  ·cases hv
theorem CellsIn.cut {w : World} {a : Option Addr} {cs : List Value} {n cap size : Nat} (h : CellsIn w a cs) (hl : cs.length = n * size) (hc : n ≤ cap) (i : Nat) : CellsIn w (cutA a cap i size) (cs.drop (i * size)) := by
 unfold cutA
 split
 ·rename_i h0
  refine Or.inl (List.drop_eq_nil_of_le ?_)
  rw [hl]
  exact Nat.mul_le_mul_right _ (by omega)
 ·rcases h with h | ⟨A, off, rfl, hb⟩
  ·exact Or.inl (by rw [h]; simp)
  ·refine Or.inr ⟨A, off + i * size, by simp [Addr.add_mid], fun j v hv => ?_⟩
   rw [List.getElem?_drop] at hv
   have := hb (i * size + j) v hv
   rwa [← Nat.add_assoc] at this
theorem own_cellsIn {w : World} {base size n : Nat} {t : TypeId} {v : Value} {cs : List Value} (h : w.ownsRow base t size v n cs) : ∃ a cap, v = .slice a n cap ∧ CellsIn w a cs ∧ n ≤ cap := by
 have hlen := h.1
 rcases h.2 with ⟨rfl, hn⟩ | ⟨g, cap, cur, hv, _, _, hc, _⟩
 ·subst hn
  have : cs = [] := List.length_eq_zero_iff.1 (by rw [hlen]; simp)
  subst this
  exact ⟨none, 0, rfl, Or.inl rfl, Nat.le_refl _⟩
 ·refine ⟨some ⟨g, 0, none⟩, cap, hv, Or.inr ⟨g, 0, rfl, fun j u hu => ?_⟩, hc⟩
  have := World.ownsRow.cells (g := g) h (by rw [hv]; rfl) j u hu
  rw [Addr.add_mid, Nat.zero_add] at this
  rwa [Nat.zero_add]
section
variable {P : Program}
/-- an append to a slice of one's own, whatever the source is -/
theorem run_append_cells (w : World) (base : Nat) (t ty e : TypeId) (i0 : TypeInfo) (z : Value) (size bytes : Nat) (ht : P.underlying t = some (.slice e)) (hi : P.info? e = some i0) (hz : i0.zero = some z)
 (hsize : i0.size = size) (hby : i0.bytes = bytes) (hzs : z.cells.size = size) (hsz : 0 < size)
 (v : Value) (n : Nat) (xs : List Value) (hown : w.ownsRow base e size v n xs) (A : Option Addr) (m c : Nat) (cs : List Value) (hl : cs.length = m * size) (hin : CellsIn w A cs) (h1 : ∀ u ∈ cs, u.oneCell' = true)
 (h63 : n + m ≤ maxLen) (hbytes : (n + m) * bytes ≤ 140737488355328) (hbase : base ≤ w.heap.size) :
 ∃ v' w', (Builtin.append_ #[t, t] ty #[v, .slice A m c]).run P w = .ok v' w' ∧ w'.ownsRow base e size v' (n + m) (xs ++ cs) ∧ w.grownBy w' v.ownBlock := by
 have key : ∀ (ad : Addr), A = some ad → (∀ j u, cs[j]? = some u → w.cell? (ad.add j) = some u) → ∃ v' w', (Builtin.append_ #[t, t] ty #[v, .slice A m c]).run P w = .ok v' w' ∧ w'.ownsRow base e size v' (n + m) (xs ++ cs) ∧ w.grownBy w' v.ownBlock := fun ad hA hn => by
  obtain ⟨v', w', hrun, h2, h3, _, _⟩ := run_append_own_at (P := P) w base t ty e i0 z size bytes ht hi hz hsize hby hzs hsz v n xs hown ad m c cs hl hn h1 h63 hbytes hbase
  exact ⟨v', w', by rw [hA]; exact hrun, h2, h3⟩
 rcases hin with h0 | ⟨B, off, rfl, hb2⟩
 ·subst h0
  have hm : m = 0 := by
   rcases Nat.eq_zero_or_pos m with h | h
   ·exact h
   ·have := Nat.mul_pos h hsz; simp at hl; omega
  subst hm
  rcases A with _ | ad
  ·refine ⟨v, w, ?_, by simpa using hown, World.grownBy.refl w _⟩
   rcases hown.2 with ⟨rfl, h0⟩ | ⟨g, cap, cur, rfl, _, _, hnc, _⟩
   ·simp [Builtin.append_, run_underlying ht, sizeOf, typeInfo, hi, Builtin.lenOf, Builtin.firstCells]
   ·simp [Builtin.append_, run_underlying ht, sizeOf, typeInfo, hi, Builtin.lenOf, Builtin.firstCells, hnc, storeCells]
  ·exact key ad rfl (fun j u hu => by simp at hu)
 ·exact key _ rfl (fun j u hu => by rw [Addr.add_mid]; exact hb2 j u hu)
theorem wp_append_cells {o : Oper} {a : Act} {w : World} {K : Act → World → Prop} {Q : Exit → Act → World → Prop} (s x : Operand) (t : TypeId)
 (ho : o.op = .call { callee := .builtin .append, args := #[s, x], argTypes := #[t, t] })
 (base : Nat) (e : TypeId) (i0 : TypeInfo) (z : Value) (size bytes : Nat) (ht : P.underlying t = some (.slice e)) (hi : P.info? e = some i0) (hz : i0.zero = some z)
 (hsize : i0.size = size) (hby : i0.bytes = bytes) (hzs : z.cells.size = size) (hsz : 0 < size)
 (v : Value) (n : Nat) (xs : List Value) (hs : a.eval s = v) (hown : w.ownsRow base e size v n xs) (A : Option Addr) (m c : Nat) (cs : List Value) (hx : a.eval x = .slice A m c) (hl : cs.length = m * size) (hin : CellsIn w A cs) (h1 : ∀ u ∈ cs, u.oneCell' = true)
 (h63 : n + m ≤ maxLen) (hbytes : (n + m) * bytes ≤ 140737488355328) (hbase : base ≤ w.heap.size)
 (h : ∀ v' w', w'.ownsRow base e size v' (n + m) (xs ++ cs) → w.grownBy w' v.ownBlock → K (a.put o.dst v') w') : o.wp P a w K Q := by
 obtain ⟨v', w', hrun, h2, h3⟩ := run_append_cells (P := P) w base t o.type e i0 z size bytes ht hi hz hsize hby hzs hsz v n xs hown A m c cs hl hin h1 h63 hbytes hbase
 unfold Oper.wp execOp
 simp only [ho, resolve, invoke, builtin, Sem.run_bind, Sem.run_pure, Result.andThen_ok, List.map_toArray, List.map_cons, List.map_nil, hs, hx, hrun]
 exact h v' w' h2 h3
theorem wpList_append_cells {ops : Array Oper} {rest : List Oper} {o : Oper} {a : Act} {w : World} {Q : Exit → Act → World → Prop} (hgd : o.guard = none) (s x : Operand) (t : TypeId)
 (ho : o.op = .call { callee := .builtin .append, args := #[s, x], argTypes := #[t, t] })
 (base : Nat) (e : TypeId) (i0 : TypeInfo) (z : Value) (size bytes : Nat) (ht : P.underlying t = some (.slice e)) (hi : P.info? e = some i0) (hz : i0.zero = some z)
 (hsize : i0.size = size) (hby : i0.bytes = bytes) (hzs : z.cells.size = size) (hsz : 0 < size)
 (v : Value) (n : Nat) (xs : List Value) (hs : a.eval s = v) (hown : w.ownsRow base e size v n xs) (A : Option Addr) (m c : Nat) (cs : List Value) (hx : a.eval x = .slice A m c) (hl : cs.length = m * size) (hin : CellsIn w A cs) (h1 : ∀ u ∈ cs, u.oneCell' = true)
 (h63 : n + m ≤ maxLen) (hbytes : (n + m) * bytes ≤ 140737488355328) (hbase : base ≤ w.heap.size)
 (h : ∀ v' w', w'.ownsRow base e size v' (n + m) (xs ++ cs) → w.grownBy w' v.ownBlock → wpList P ops Q rest (a.put o.dst v') w') : wpList P ops Q (o :: rest) a w :=
 wpList_plain hgd fun _ hK => wp_append_cells s x t ho base e i0 z size bytes ht hi hz hsize hby hzs hsz v n xs hs hown A m c cs hx hl hin h1 h63 hbytes hbase fun v' w' h2 h3 => hK _ _ (h v' w' h2 h3)
theorem step_append_cells {ops : Array Oper} {o : Oper} {a : Act} {w : World} {K : Act → World → Prop} {Q : Exit → Act → World → Prop} {E : Prop} (hw : Region.wanted o (yielded ops a.tmps) = true) (s x : Operand) (t : TypeId)
 (ho : o.op = .call { callee := .builtin .append, args := #[s, x], argTypes := #[t, t] })
 (base : Nat) (e : TypeId) (i0 : TypeInfo) (z : Value) (size bytes : Nat) (ht : P.underlying t = some (.slice e)) (hi : P.info? e = some i0) (hz : i0.zero = some z)
 (hsize : i0.size = size) (hby : i0.bytes = bytes) (hzs : z.cells.size = size) (hsz : 0 < size)
 (v : Value) (n : Nat) (xs : List Value) (hs : a.eval s = v) (hown : w.ownsRow base e size v n xs) (A : Option Addr) (m c : Nat) (cs : List Value) (hx : a.eval x = .slice A m c) (hl : cs.length = m * size) (hin : CellsIn w A cs) (h1 : ∀ u ∈ cs, u.oneCell' = true)
 (h63 : n + m ≤ maxLen) (hbytes : (n + m) * bytes ≤ 140737488355328) (hbase : base ≤ w.heap.size)
 (h : ∀ v' w', w'.ownsRow base e size v' (n + m) (xs ++ cs) → w.grownBy w' v.ownBlock → K (a.put o.dst v') w') :
 if Region.wanted o (yielded ops a.tmps) = true then Oper.wp P o a w K Q else E := by
 rw [if_pos hw]
 exact wp_append_cells s x t ho base e i0 z size bytes ht hi hz hsize hby hzs hsz v n xs hs hown A m c cs hx hl hin h1 h63 hbytes hbase h
theorem CellsIn.grown {w w' : World} {a : Option Addr} {cs : List Value} {row : Option Nat} (h : CellsIn w a cs) (hg : w.grownBy w' row) (hne : ∀ b, a = some b → row ≠ some b.block) : CellsIn w' a cs := by
 rcases h with h | ⟨A, off, rfl, h2⟩
 ·exact Or.inl h
 ·refine Or.inr ⟨A, off, rfl, fun j v hv => ?_⟩
  have hc := h2 j v hv
  exact (World.cell?_of_block (w := w) (hg.block A (World.block_lt_of_cell? w _ hc) (fun e => hne _ rfl e.symm))).trans hc
theorem CellsIn.drewN {w : World} {a : Option Addr} {cs : List Value} (h : CellsIn w a cs) (n : Nat) : CellsIn (w.drewN n) a cs := h
/-- a slice of one struct, laid down -/
theorem wp_build_one {o : Oper} {a : Act} {w : World} {K : Act → World → Prop} {Q : Exit → Act → World → Prop} (t e : TypeId) (x : Operand) (ho : o.op = .buildSlice t 1 #[(0, x)])
 (c : Array Value) (n : Nat) (hx : a.eval x = .agg c) (hc : c.size = n) (hn : 0 < n) (hnn : n ≤ 16777216) (hu : P.underlying t = some (.slice e)) (hi : (P.info? e).map (·.size) = some n) (hz : ((P.info? e).bind (·.zero)).isSome = true)
 (h : K (a.put o.dst (.slice (some ⟨w.heap.size, 0, none⟩) 1 1)) (w.alloc (.cells c e))) : o.wp P a w K Q := by
 cases hie : P.info? e with
 | none => simp [hie] at hi
 | some ie =>
   simp only [hie, Option.map_some, Option.some.injEq, Option.bind_some] at hi hz
   obtain ⟨z, hzz⟩ := Option.isSome_iff_exists.1 hz
   refine wp_buildSlice t e 1 #[(0, x)] ho c ie z hu hie hzz (by rw [hi]; omega) (by rw [hi]; omega) ?_ h
   have hcs : (Value.agg c).cells.size = ie.size := by rw [hi]; exact hc
   have h2 := Great.fill_whole (s := ie.size) (by omega) [.agg c] ((Array.range (1 * ie.size)).map (z.cells[· % z.cells.size]!)) (by simp only [List.mem_singleton, forall_eq]; exact hcs) (by simp)
   have e1 : ((#[(0, x)] : Array (Nat × Operand)).map fun (i, x) => (i, a.eval x)).toList = (([Value.agg c].zipIdx 0).map fun x => (x.2, x.1)) := by simp [hx]
   rw [e1, h2]
   simp [Value.cells]
theorem step_build_one {ops : Array Oper} {o : Oper} {a : Act} {w : World} {K : Act → World → Prop} {Q : Exit → Act → World → Prop} {E : Prop} (hw : Region.wanted o (yielded ops a.tmps) = true) (t e : TypeId) (x : Operand) (ho : o.op = .buildSlice t 1 #[(0, x)])
 (c : Array Value) (n : Nat) (hx : a.eval x = .agg c) (hc : c.size = n) (hn : 0 < n) (hnn : n ≤ 16777216) (hu : P.underlying t = some (.slice e)) (hi : (P.info? e).map (·.size) = some n) (hz : ((P.info? e).bind (·.zero)).isSome = true)
 (h : K (a.put o.dst (.slice (some ⟨w.heap.size, 0, none⟩) 1 1)) (w.alloc (.cells c e))) :
 if Region.wanted o (yielded ops a.tmps) = true then Oper.wp P o a w K Q else E := by
 rw [if_pos hw]
 exact wp_build_one t e x ho c n hx hc hn hnn hu hi hz h
end
section
variable {P : Program}
end
end Go.Proofs.YtohcmljigcdmbaaGreat
