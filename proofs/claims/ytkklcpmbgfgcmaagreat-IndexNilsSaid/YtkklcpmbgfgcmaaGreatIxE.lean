/- The index: slices.Insert at items; view.Put. Conditions: as in the text. -/
import Derived.Test.YtkklcpmbgfgcmaaGreatIxD
import Derived.Laws.CopyRow
import Derived.Lib.Overlaps
import Derived.Lib.AppendZerosOnto
import Derived.Laws.NewBlocks
set_option linter.unusedSimpArgs false
set_option linter.unusedVariables false
set_option linter.unnecessarySimpa false
namespace Go.Proofs.YtkklcpmbgfgcmaaGreat
open Go.RowKit
variable {lo : Nat}
/-! ### copy -/
theorem run_copy_rowK {P : Program} (w : World) (dT sT ty elem : TypeId) (g o dLen dCap : Nat) (a : Addr) (sLen sCap size : Nat) (cur : Array Value) (t : TypeId) (cs : List Value)
 (hu : P.underlying dT = some (.slice elem)) (hs : (P.info? elem).map (·.size) = some size)
 (hg : w.heap[g]? = some (.cells cur t (0, 0))) (hn : cs.length = Nat.min sLen dLen * size)
 (hsrc : ∀ j v, cs[j]? = some v → w.cell? (a.add j) = some v) (hfit : o + cs.length ≤ cur.size) (h1 : ∀ v ∈ cs, v.oneCell' = true) :
 (Builtin.copy_ #[dT, sT] ty #[.slice (some ⟨g, o, none⟩) dLen dCap, .slice (some a) sLen sCap]).run P w =
  .ok (goInt (Nat.min sLen dLen)) (w.setRow g (cur.toList.take o ++ cs ++ cur.toList.drop (o + cs.length)).toArray) := by
 have hl := run_firstCells_some (P := P) w size (Nat.min sLen dLen) a sLen sCap cs hn hsrc
 have hst := run_storeCells_at P g o t cs 0 cur w hg (by simpa using hfit) h1
 cases hq : P.info? elem with
 | none => simp [hq] at hs
 | some i =>
   have hi : i.size = size := by simpa [hq] using hs
   simp [Builtin.copy_, run_underlying hu, Builtin.lenOf, sizeOf, typeInfo, hq, hi, hl, hst]
theorem step_copyI {P : Program} {ops : Array Oper} {o : Oper} {a : Act} {w : World} {K : Act → World → Prop} {Q : Exit → Act → World → Prop} {E : Prop}
 (hg : o.guard = none) (d x : Operand) (dT sT : TypeId) (hop : o.op = Op.call { callee := Callee.builtin Builtin.copy, args := #[d, x], argTypes := #[dT, sT] })
 (v u : Value) (hd : a.eval d = v) (hx : a.eval x = u) {v' : Value} {w' : World} (hr : (Builtin.copy_ #[dT, sT] o.type #[v, u]).run P w = .ok v' w') (hK : K (a.put o.dst v') w') :
 if Region.wanted o (yielded ops a.tmps) = true then Oper.wp P o a w K Q else E := by
 have hw : Region.wanted o (yielded ops a.tmps) = true := by simp [Region.wanted, hg]
 rw [if_pos hw]
 unfold Oper.wp
 simp [execOp, hop, resolve, invoke, builtin, hd, hx, hr, Result.andThen]
 exact hK
theorem overlaps_no (vb g o la ca lb cb : Nat) (cv cur : Array Value) (tv tg : TypeId) (w : World) (hne : vb ≠ g) (hv : w.heap[vb]? = some (.cells cv tv (0, 0))) (hg : w.heap[g]? = some (.cells cur tg (0, 0))) (h0 : cur.size ≠ 0) :
 (callFunc 49 #[.slice (some ⟨vb, 0, none⟩) la ca, .slice (some ⟨g, o, none⟩) lb cb]).run Tryz.prog w = .ok (.value (.bool false)) w := by
 rw [run_callFunc_extern Tryz.func49 (by kernel_rfl) (by kernel_rfl) (by kernel_rfl) (e := Extern.SlicesOverlaps.overlaps #[31, 31] #[4]) (by kernel_rfl),
  Lib.run_overlaps_apart w 31 4 27 Tryz.underlying31 11 Tryz.sizeOf27 ⟨vb, 0, none⟩ ⟨g, o, none⟩ la ca lb cb hne tv tg cv.size cur.size (by simp [World.shape?, hv]) (by simp [World.shape?, hg]) h0 (by simp [World.frozen?, hv]) (by simp [World.frozen?, hv])]
 rfl
/-- the row behind an insertion -/
theorem ins_row (l : List It) (x : It) (i : Nat) (hi : i ≤ l.length) (cur : Array Value) (hc : cur.toList.take (l.length * 11) = itsVals l) (hs : (l.length + 1) * 11 ≤ cur.size) (cur1 cur2 : Array Value)
 (h1 : cur1 = (cur.toList.take ((i + 1) * 11) ++ (itsVals l).drop (i * 11) ++ cur.toList.drop ((i + 1) * 11 + ((itsVals l).drop (i * 11)).length)).toArray)
 (h2 : cur2 = (cur1.toList.take (i * 11) ++ itCells x ++ cur1.toList.drop (i * 11 + (itCells x).length)).toArray) :
 cur2.size = cur.size ∧ cur2.toList.take ((l.length + 1) * 11) = itsVals (l.take i ++ x :: l.drop i) := by
 have hL := itsVals_length l
 have hxl : (itCells x).length = 11 := rfl
 have hdl : ((itsVals l).drop (i * 11)).length = (l.length - i) * 11 := by rw [List.length_drop, hL]; omega
 have hc1 : cur1.size = cur.size := by
  rw [h1]
  simp only [List.size_toArray, List.length_append, List.length_take, List.length_drop, Array.length_toList]
  rw [hL]
  omega
 have hc2 : cur2.size = cur.size := by
  rw [h2, ← hc1]
  simp only [List.size_toArray, List.length_append, List.length_take, List.length_drop, Array.length_toList, hxl]
  omega
 refine ⟨hc2, ?_⟩
 have e1 : cur1.toList.take (i * 11) = itsVals (l.take i) := by
  rw [h1]
  simp only [List.append_assoc]
  rw [List.take_append_of_le_length (by simp; omega), List.take_take, show min (i * 11) ((i + 1) * 11) = i * 11 by omega, ← itsVals_take, ← hc, List.take_take, show min (i * 11) (l.length * 11) = i * 11 by omega]
 have e2 : (cur1.toList.drop (i * 11 + 11)).take ((l.length - i) * 11) = itsVals (l.drop i) := by
  rw [h1]
  simp only [List.append_assoc]
  rw [List.drop_append_of_le_length (by simp; omega), List.drop_eq_nil_of_le (by simp; omega), List.nil_append, List.take_append_of_le_length (by rw [hdl]; exact Nat.le_refl _), List.take_of_length_le (by rw [hdl]; exact Nat.le_refl _), itsVals_drop]
 have hta : (itsVals (l.take i)).length = i * 11 := by rw [itsVals_length, List.length_take, Nat.min_eq_left hi]
 have t1 : (itsVals (l.take i)).take ((l.length + 1) * 11) = itsVals (l.take i) := List.take_of_length_le (by rw [hta]; omega)
 have t2 : (itCells x).take ((l.length + 1) * 11 - i * 11) = itCells x := List.take_of_length_le (by rw [hxl]; omega)
 rw [h2, hxl]
 simp only [List.append_assoc]
 rw [List.take_append, e1, t1, hta, List.take_append, t2, hxl, show (l.length + 1) * 11 - i * 11 - 11 = (l.length - i) * 11 by omega, e2, itsVals_append, itsVals_cons]
theorem ins_len (l : List It) (x : It) {i : Nat} (hi : i ≤ l.length) : (l.take i ++ x :: l.drop i).length = l.length + 1 := by
 rw [List.length_append, List.length_cons, List.length_take, List.length_drop, Nat.min_eq_left hi]
 omega
def RetIns (base : Nat) (v : Value) (L : List It) (w : World) (e : Ending) (w' : World) : Prop :=
 ∃ v', e = .returned v' ∧ w'.ownsRow base 27 11 v' L.length (itsVals L) ∧ Fr (fun k => v.ownBlock = some k) w w'
set_option maxRecDepth 100000 in
set_option maxHeartbeats 2000000 in
theorem insEnd_any (base : Nat) (v : Value) (l : List It) (x : It) (vb : Nat) (w : World) (hown : w.ownsRow base 27 11 v l.length (itsVals l)) (hl : l.length ≤ 1073741824) (hbase : base ≤ w.heap.size) (hx : w.rangeAt vb 0 (itCells x)) :
 Calls Tryz.prog 34 #[v, .int .i64 l.length, .slice (some ⟨vb, 0, none⟩) 1 1] w (RetIns base v (l ++ [x]) w) := by
 obtain ⟨i0, hi, hz0, hz1, hz2⟩ := info_parts Tryz.infoItem
 obtain ⟨a, cap, rfl, hin, hcap⟩ := own_cellsIn hown
 have HO := Lib.hid hown
 clear hin hown
 go_enter Tryz.func34, Tryz.ntmps34
 go_wp2_with (first
  | (refine wpList_of_exec rfl _ (exec_slice _ _ _ _ _ rfl _ (run_cut_lo _ 31 27 i0 a l.length cap _ l.length 11 Tryz.underlying31 hi hz1 (Nat.le_refl _))) ?_)
  | (at_builtin; go_loud (refine wpList_append_own_at _ rfl _ _ 31 rfl base 27 i0 (itVal it0) 11 96 Tryz.underlying31 hi hz0 hz1 hz2 rfl (by decide) _ _ _ rfl HO.out ⟨vb, 0, none⟩ 1 1 (itCells x) rfl rfl (fun j u hu => by rw [Addr.add_mid]; exact hx j u hu) (itCells_one _) (by unfold maxLen; omega) (by omega) hbase ?_)))
 intro v' w' hown' hgrow _ _
 have HZ := Lib.hid (And.intro hown' hgrow)
 clear hown' hgrow
 go_wp2
 all_goals
  go_ret
  refine ⟨_, rfl, by rw [List.length_append, itsVals_append, itsVals_one]; exact HZ.out.1, HZ.out.2.os, HZ.out.2.tape, HZ.out.2.output, HZ.out.2.size, fun k hk hne => HZ.out.2.block k hk (fun e => hne e.symm)⟩
set_option maxRecDepth 100000 in
set_option maxHeartbeats 4000000 in
theorem insRoom_any (base g cap : Nat) (cur : Array Value) (l : List It) (x : It) (i vb : Nat) (cv : Array Value) (tv : TypeId) (w : World) (hl : l.length ≤ 1073741824) (hi : i < l.length) (hroom : l.length + 1 ≤ cap) (hcm : cap ≤ maxLen) (hbg : base ≤ g)
 (hg : w.heap[g]? = some (.cells cur 27 (0, 0))) (hs : cur.size = cap * 11) (hc : cur.toList.take (l.length * 11) = itsVals l) (hvb : vb ≠ g) (hv : w.heap[vb]? = some (.cells cv tv (0, 0))) (hx : w.rangeAt vb 0 (itCells x)) :
 Calls Tryz.prog 34 #[.slice (some ⟨g, 0, none⟩) l.length cap, .int .i64 i, .slice (some ⟨vb, 0, none⟩) 1 1] w (RetIns base (.slice (some ⟨g, 0, none⟩) l.length cap) (l.take i ++ x :: l.drop i) w) := by
 obtain ⟨i0, hi0, hz0, hz1, hz2⟩ := info_parts Tryz.infoItem
 have mixed : Tryz.prog.follows .mixedOrders = true := by kernel_rfl
 have hne : ¬ ((i : Int) = (l.length : Int)) := by omega
 have hcm' : cap ≤ 9223372036854775807 := by unfold maxLen at hcm; omega
 have hw1 : IntKind.i64.wrap ((i : Int) + 1) = (i : Int) + 1 := IntWalk.i64_in _ (by omega)
 have hw2 : IntKind.i64.wrap ((l.length : Int) + 1) = (l.length : Int) + 1 := IntWalk.i64_in _ (by omega)
 have hgt : ¬ ((cap : Int) < (l.length : Int) + 1) := by omega
 have hb1 : (0 : Int) ≤ (i : Int) + 1 := by omega
 have hb2 : i ≤ l.length := by omega
 have hb3 : ¬ (cap = i + 1) := by omega
 have hb4 : ¬ (cap = i) := by omega
 have hb5 : (i : Int) ≤ (l.length : Int) + 1 := by omega
 have hb6 : i ≤ l.length + 1 := by omega
 have hc0 : cutA (some ⟨g, 0, none⟩) cap i 11 = some ⟨g, i * 11, none⟩ := by unfold cutA; rw [if_neg (by omega)]; simp [Addr.add_mid]
 have hc1 : cutA (some ⟨g, 0, none⟩) cap (i + 1) 11 = some ⟨g, (i + 1) * 11, none⟩ := by unfold cutA; rw [if_neg (by omega)]; simp [Addr.add_mid]
 have hsz : (Tryz.prog.info? 27).map (·.size) = some 11 := by rw [hi0]; simp [hz1]
 have hdl : ((itsVals l).drop (i * 11)).length = (l.length - i) * 11 := by rw [List.length_drop, itsVals_length]; omega
 have hov := fun lb cb => overlaps_no vb g ((i + 1) * 11) 1 1 lb cb cv cur tv 27 w hvb hv hg (by omega)
 obtain ⟨cur1, hcur1⟩ : ∃ cur1, cur1 = (cur.toList.take ((i + 1) * 11) ++ (itsVals l).drop (i * 11) ++ cur.toList.drop ((i + 1) * 11 + ((itsVals l).drop (i * 11)).length)).toArray := ⟨_, rfl⟩
 obtain ⟨cur2, hcur2⟩ : ∃ cur2, cur2 = (cur1.toList.take (i * 11) ++ itCells x ++ cur1.toList.drop (i * 11 + (itCells x).length)).toArray := ⟨_, rfl⟩
 obtain ⟨hr1, hr2⟩ := ins_row l x i (by omega) cur hc (by rw [hs]; omega) cur1 cur2 hcur1 hcur2
 have hsz1 : cur1.size = cur.size := by
  rw [hcur1]
  simp only [List.size_toArray, List.length_append, List.length_take, List.length_drop, Array.length_toList, itsVals_length]
  omega
 have hsrc : ∀ j v, ((itsVals l).drop (i * 11))[j]? = some v → w.drew.cell? ((⟨g, i * 11, none⟩ : Addr).add j) = some v := fun j v hj => by
  rw [Addr.add_mid]
  rw [List.getElem?_drop, ← hc, List.getElem?_take] at hj
  split at hj
  ·simp only [World.cell?, World.drew]
   rw [hg]
   simpa using hj
  ·cases hj
 have hcp1 : ∀ ty dc sc, (Builtin.copy_ #[31, 31] ty #[.slice (some ⟨g, (i + 1) * 11, none⟩) (l.length - i) dc, .slice (some ⟨g, i * 11, none⟩) (l.length + 1 - i) sc]).run Tryz.prog w.drew = .ok (goInt (Nat.min (l.length + 1 - i) (l.length - i))) (w.drew.setRow g cur1) := fun ty dc sc => by
  rw [hcur1]
  exact run_copy_rowK w.drew _ _ ty 27 g ((i + 1) * 11) _ dc ⟨g, i * 11, none⟩ _ sc 11 cur 27 _ Tryz.underlying31 hsz hg (by rw [hdl]; simp only [Nat.min_def]; split <;> omega) hsrc (by rw [hdl, hs]; omega) (fun v hv => itsVals_one' l v (List.mem_of_mem_drop hv))
 obtain ⟨W1, hW1⟩ : ∃ W1, W1 = w.drew.setRow g cur1 := ⟨_, rfl⟩
 have hg1 : W1.heap[g]? = some (.cells cur1 27 (0, 0)) := by rw [hW1]; exact setRow_heap _ _ _ _ _ _ hg
 have hx1 : W1.rangeAt vb 0 (itCells x) := fun j v hj => by
  refine (World.cell?_of_block (w := w) ?_).trans (hx j v hj)
  rw [hW1]
  exact heap_setRow_other w.drew g cur1 vb (fun e => hvb e.symm)
 have hcp2 : ∀ ty dc, (Builtin.copy_ #[31, 31] ty #[.slice (some ⟨g, i * 11, none⟩) (l.length + 1 - i) dc, .slice (some ⟨vb, 0, none⟩) 1 1]).run Tryz.prog W1 = .ok (goInt (Nat.min 1 (l.length + 1 - i))) (W1.setRow g cur2) := fun ty dc => by
  rw [hcur2]
  exact run_copy_rowK W1 _ _ ty 27 g (i * 11) _ dc ⟨vb, 0, none⟩ _ 1 11 cur1 27 _ Tryz.underlying31 hsz hg1 (by simp only [Nat.min_def]; split <;> simp [itCells] <;> omega) (fun j v hj => by rw [Addr.add_mid]; exact hx1 j v hj) (by rw [hsz1, hs]; simp [itCells]; omega) (itCells_one x)
 rw [← hW1] at hcp1
 have HF : Hid (W1.heap.size = w.heap.size ∧ Fr (isR g) w (W1.setRow g cur2) ∧ (W1.setRow g cur2).heap[g]? = some (.cells cur2 27 (0, 0))) := by
  have hsize : W1.heap.size = w.heap.size := by rw [hW1]; simp [World.setRow]
  refine ⟨hsize, ⟨by rw [hW1]; rfl, by rw [hW1]; rfl, by rw [hW1]; rfl, by simp [World.setRow, hsize], fun k hk hne => ?_⟩, setRow_heap _ _ _ _ _ _ hg1⟩
  have hne' : g ≠ k := fun e => hne e.symm
  rw [heap_setRow_other _ _ _ _ hne', hW1, heap_setRow_other _ _ _ _ hne']
  rfl
 have HR := Lib.hid (And.intro hr1 hr2)
 have HS := Lib.hid hs
 clear hcur1 hcur2 hr1 hr2 hsz1 hsrc hW1 hg1 hx1 hc hs hg hv hx hdl hsz
 have HC1 := Lib.hid hcp1
 have HC2 := Lib.hid hcp2
 have HOV := Lib.hid hov
 clear hcp1 hcp2 hov
 go_enter Tryz.func34, Tryz.ntmps34
 clear hc0 hc1
 go_upto_region 15 with (simp only [HOV.out])
 go_region_law_o (refine step_copyI rfl _ _ 31 31 rfl (.slice (some ⟨g, (i + 1) * 11, none⟩) (l.length - i) (cap - (i + 1))) (.slice (some ⟨g, i * 11, none⟩) (l.length + 1 - i) (cap - i)) (by simp [Act.eval, Act.put]) (by simp [Act.eval, Act.put]) (HC1.out 3 (cap - (i + 1)) (cap - i)) ?_)
 have hcp2 := HC2.out 3 (cap - i)
 go_wp2
 all_goals
  go_ret
  have hF := HF.out
  exact ⟨.slice (some ⟨g, 0, none⟩) (l.length + 1) cap, rfl, ⟨by rw [itsVals_length], .inr ⟨g, cap, cur2, by rw [ins_len l x hb2], hbg, hF.2.2, by rw [ins_len l x hb2]; exact hroom, hcm, by rw [HR.out.1]; exact HS.out, by
   have := HR.out.2
   rw [ins_len l x (by omega)]
   exact this⟩⟩, hF.2.1.mono fun k _ hk => by subst hk; rfl⟩
/-- the row behind an insertion into a new block -/
theorem ins_rowN (l : List It) (x : It) (i : Nat) (hi : i ≤ l.length) (Z ROW row1 row2 : Array Value) (h0 : ROW = (itsVals (l.take i)).toArray ++ Z) (hs : (l.length + 1 - i) * 11 ≤ Z.size)
 (h1 : row1 = (ROW.toList.take (i * 11) ++ itCells x ++ ROW.toList.drop (i * 11 + (itCells x).length)).toArray)
 (h2 : row2 = (row1.toList.take ((i + 1) * 11) ++ (itsVals l).drop (i * 11) ++ row1.toList.drop ((i + 1) * 11 + ((itsVals l).drop (i * 11)).length)).toArray) :
 row1.size = ROW.size ∧ row2.size = ROW.size ∧ row2.toList.take ((l.length + 1) * 11) = itsVals (l.take i ++ x :: l.drop i) := by
 have hL := itsVals_length l
 have hxl : (itCells x).length = 11 := rfl
 have hdl : ((itsVals l).drop (i * 11)).length = (l.length - i) * 11 := by rw [List.length_drop, hL]; omega
 have hta : (itsVals (l.take i)).length = i * 11 := by rw [itsVals_length, List.length_take, Nat.min_eq_left hi]
 have hR : ROW.size = i * 11 + Z.size := by rw [h0]; simp [hta]
 have hr1 : row1.size = ROW.size := by
  rw [h1]
  simp only [List.size_toArray, List.length_append, List.length_take, List.length_drop, Array.length_toList, hxl]
  omega
 have hr2 : row2.size = ROW.size := by
  rw [h2, ← hr1]
  simp only [List.size_toArray, List.length_append, List.length_take, List.length_drop, Array.length_toList]
  rw [hL]
  omega
 refine ⟨hr1, hr2, ?_⟩
 have e0 : ROW.toList.take (i * 11) = itsVals (l.take i) := by
  rw [h0, Array.toList_append]
  simp only []
  rw [List.take_append_of_le_length (by rw [hta]; exact Nat.le_refl _), List.take_of_length_le (by rw [hta]; exact Nat.le_refl _)]
 have e1 : row1.toList.take ((i + 1) * 11) = itsVals (l.take i) ++ itCells x := by
  rw [h1, e0]
  simp only []
  rw [List.take_append_of_le_length (by rw [List.length_append, hta, hxl]; omega), List.take_of_length_le (by rw [List.length_append, hta, hxl]; omega)]
 have t1 : (itsVals (l.take i) ++ itCells x).take ((l.length + 1) * 11) = itsVals (l.take i) ++ itCells x := List.take_of_length_le (by rw [List.length_append, hta, hxl]; omega)
 rw [h2, e1]
 simp only []
 have t2 : ((itsVals l).drop (i * 11) ++ row1.toList.drop ((i + 1) * 11 + ((itsVals l).drop (i * 11)).length)).take ((l.length - i) * 11) = (itsVals l).drop (i * 11) := by
  rw [List.take_append_of_le_length (by rw [hdl]; exact Nat.le_refl _), List.take_of_length_le (by rw [hdl]; exact Nat.le_refl _)]
 rw [List.append_assoc, List.take_append, t1, List.length_append, hta, hxl, show (l.length + 1) * 11 - (i * 11 + 11) = (l.length - i) * 11 by omega, t2, itsVals_drop, itsVals_append, itsVals_cons, List.append_assoc]
set_option maxRecDepth 100000 in
set_option maxHeartbeats 4000000 in
theorem insGrow_any (base g cap : Nat) (cur : Array Value) (l : List It) (x : It) (i vb : Nat) (w : World) (hl : l.length ≤ 1073741824) (hi : i < l.length) (hroom : cap < l.length + 1) (hcn : l.length ≤ cap) (hbw : base ≤ w.heap.size)
 (hg : w.heap[g]? = some (.cells cur 27 (0, 0))) (hc : cur.toList.take (l.length * 11) = itsVals l) (hx : w.rangeAt vb 0 (itCells x)) :
 Calls Tryz.prog 34 #[.slice (some ⟨g, 0, none⟩) l.length cap, .int .i64 i, .slice (some ⟨vb, 0, none⟩) 1 1] w (RetIns base (.slice (some ⟨g, 0, none⟩) l.length cap) (l.take i ++ x :: l.drop i) w) := by
 obtain ⟨i0, hi0, hz0, hz1, hz2⟩ := info_parts Tryz.infoItem
 have mixed : Tryz.prog.follows .mixedOrders = true := by kernel_rfl
 have hne : ¬ ((i : Int) = (l.length : Int)) := by omega
 have hw1 : IntKind.i64.wrap ((i : Int) + 1) = (i : Int) + 1 := IntWalk.i64_in _ (by omega)
 have hw2 : IntKind.i64.wrap ((l.length : Int) + 1) = (l.length : Int) + 1 := IntWalk.i64_in _ (by omega)
 have hkk : (l.length : Int) + 1 - (i : Int) = ((l.length + 1 - i : Nat) : Int) := by omega
 have hw3 : IntKind.i64.wrap ((l.length : Int) + 1 - (i : Int)) = (l.length : Int) + 1 - (i : Int) := IntWalk.i64_in _ (by omega)
 have hgt : (cap : Int) < (l.length : Int) + 1 := by omega
 have hsz : (Tryz.prog.info? 27).map (·.size) = some 11 := by rw [hi0]; simp [hz1]
 have hdl : ((itsVals l).drop (i * 11)).length = (l.length - i) * 11 := by rw [List.length_drop, itsVals_length]; omega
 have hta : (itsVals (l.take i)).length = i * 11 := by rw [itsVals_length, List.length_take, Nat.min_eq_left (by omega)]
 have hcell : ∀ j v, (itsVals l)[j]? = some v → w.cell? ⟨g, j, none⟩ = some v := fun j v hj => by
  rw [← hc, List.getElem?_take] at hj
  split at hj
  ·simp only [World.cell?]
   rw [hg]
   simpa using hj
  ·cases hj
 have hold : (Builtin.firstCells i0.size i (.slice (some ⟨g, 0, none⟩) i cap)).run Tryz.prog w.drew = .ok (itsVals (l.take i)).toArray w.drew := by
  rw [hz1]
  exact run_firstCells_some w.drew 11 i ⟨g, 0, none⟩ i cap (itsVals (l.take i)) hta (fun j v hj => by
   rw [Addr.add_mid, Nat.zero_add]
   rw [← itsVals_take, List.getElem?_take] at hj
   split at hj
   ·exact hcell j v hj
   ·cases hj)
 have hik : i + (l.length + 1 - i) = l.length + 1 := by omega
 obtain ⟨G, hG⟩ : ∃ G, G = grownCap w (l.length + 1) cap 27 := ⟨_, rfl⟩
 have hGn : l.length + 1 ≤ G := by rw [hG]; exact grownCap_ge w _ _ _
 have hG63 : G ≤ maxLen := by rw [hG]; exact grownCap_le_maxLen w _ _ _ (by unfold maxLen; omega)
 obtain ⟨Z, hZ⟩ : ∃ Z, Z = Builtin.zeroCells (itVal it0).cells (l.length + 1 - i) ++ Builtin.zeroCells (itVal it0).cells (G - (l.length + 1)) := ⟨_, rfl⟩
 have hZs : Z.size = (G - i) * 11 := by
  rw [hZ, Array.size_append, size_zeroCells, size_zeroCells, show (itVal it0).cells.size = 11 from rfl]
  omega
 obtain ⟨ROW, hROW⟩ : ∃ ROW, ROW = (itsVals (l.take i)).toArray ++ Z := ⟨_, rfl⟩
 have hRs : ROW.size = G * 11 := by rw [hROW, Array.size_append, hZs, List.size_toArray, hta]; omega
 have hrz : ∀ ty, (Builtin.append_ #[31, 3] ty #[.slice (some ⟨g, 0, none⟩) i cap, .int .i64 ((l.length : Int) + 1 - (i : Int))]).run Tryz.prog w = .ok (.slice (some ⟨w.heap.size, 0, none⟩) (l.length + 1) G) (w.drew.alloc (.cells ROW 27)) := fun ty => by
  have h := Lib.run_append_grow_zeros w 31 3 ty 27 i0 (itVal it0) .i64 .i64 Tryz.underlying31 Tryz.underlying3 hi0 hz0 (some ⟨g, 0, none⟩) i cap (itsVals (l.take i)) hold (l.length + 1 - i) (by omega) (by rw [hz1]; omega) (by omega) (by omega) (by rw [hz2]; omega) (by rw [hz2, hik]; exact growslice_fits hroom (by omega))
  rw [hik, ← hG] at h
  rw [hkk, h, hROW, hZ, Array.append_assoc]
 obtain ⟨row1, hrow1⟩ : ∃ row1, row1 = (ROW.toList.take (i * 11) ++ itCells x ++ ROW.toList.drop (i * 11 + (itCells x).length)).toArray := ⟨_, rfl⟩
 obtain ⟨row2, hrow2⟩ : ∃ row2, row2 = (row1.toList.take ((i + 1) * 11) ++ (itsVals l).drop (i * 11) ++ row1.toList.drop ((i + 1) * 11 + ((itsVals l).drop (i * 11)).length)).toArray := ⟨_, rfl⟩
 obtain ⟨hr1, hr2, hr3⟩ := ins_rowN l x i (by omega) Z ROW row1 row2 hROW (by rw [hZs]; omega) hrow1 hrow2
 obtain ⟨W1, hW1⟩ : ∃ W1, W1 = w.drew.alloc (.cells ROW 27) := ⟨_, rfl⟩
 rw [← hW1] at hrz
 have hgl : g < w.heap.size := (Array.getElem?_eq_some_iff.1 hg).1
 have hb1 : Below w.heap.size w W1 := by rw [hW1]; exact (Below.refl _ _).drew.alloc (Nat.le_refl _) _
 have hN1 : W1.heap[w.heap.size]? = some (.cells ROW 27 (0, 0)) := by rw [hW1]; exact heap_last0 w.drew _
 have hcp1 : ∀ ty dc, (Builtin.copy_ #[31, 31] ty #[.slice (some ⟨w.heap.size, i * 11, none⟩) (l.length + 1 - i) dc, .slice (some ⟨vb, 0, none⟩) 1 1]).run Tryz.prog W1 = .ok (goInt (Nat.min 1 (l.length + 1 - i))) (W1.setRow w.heap.size row1) := fun ty dc => by
  rw [hrow1]
  exact run_copy_rowK W1 _ _ ty 27 w.heap.size (i * 11) _ dc ⟨vb, 0, none⟩ _ 1 11 ROW 27 _ Tryz.underlying31 hsz hN1 (by simp only [Nat.min_def]; split <;> simp [itCells] <;> omega) (fun j v hj => by rw [Addr.add_mid]; exact rangeAt_kept hx hb1 j v hj) (by rw [hRs]; simp [itCells]; omega) (itCells_one x)
 obtain ⟨W2, hW2⟩ : ∃ W2, W2 = W1.setRow w.heap.size row1 := ⟨_, rfl⟩
 rw [← hW2] at hcp1
 have hb2 : Below w.heap.size w W2 := by rw [hW2]; exact below_setRow hb1 (Nat.le_refl _) _
 have hN2 : W2.heap[w.heap.size]? = some (.cells row1 27 (0, 0)) := by rw [hW2]; exact setRow_heap _ _ _ _ _ _ hN1
 have hcp2 : ∀ ty dc sc, (Builtin.copy_ #[31, 31] ty #[.slice (some ⟨w.heap.size, (i + 1) * 11, none⟩) (l.length - i) dc, .slice (some ⟨g, i * 11, none⟩) (l.length - i) sc]).run Tryz.prog W2.drew = .ok (goInt (Nat.min (l.length - i) (l.length - i))) (W2.drew.setRow w.heap.size row2) := fun ty dc sc => by
  rw [hrow2]
  exact run_copy_rowK W2.drew _ _ ty 27 w.heap.size ((i + 1) * 11) _ dc ⟨g, i * 11, none⟩ _ sc 11 row1 27 _ Tryz.underlying31 hsz hN2 (by rw [hdl]; show _ = min _ _ * 11; rw [Nat.min_self]) (fun j v hj => by
   rw [Addr.add_mid]
   rw [List.getElem?_drop] at hj
   exact kept hb2 (hcell _ v hj)) (by rw [hdl, hr1, hRs]; omega) (fun v hv => itsVals_one' l v (List.mem_of_mem_drop hv))
 have HF : Hid (Below w.heap.size w (W2.drew.setRow w.heap.size row2) ∧ (W2.drew.setRow w.heap.size row2).heap[w.heap.size]? = some (.cells row2 27 (0, 0))) := ⟨below_setRow hb2.drew (Nat.le_refl _) _, setRow_heap _ _ _ _ _ _ hN2⟩
 have HR := Lib.hid (And.intro hr3 (And.intro hG63 (And.intro hGn (show row2.size = G * 11 by rw [hr2, hRs]))))
 have HC2 := Lib.hid hcp2
 have HC1 := Lib.hid hcp1
 have HRZ := Lib.hid hrz
 clear hrz
 have hb1' : (0 : Int) ≤ (i : Int) + 1 := by omega
 have hb2' : i ≤ l.length := by omega
 have hb3 : ¬ (G = i + 1) := by omega
 have hb4 : ¬ (G = i) := by omega
 have hb7 : ¬ (cap = i) := by omega
 have hb5 : (i : Int) ≤ (l.length : Int) + 1 := by omega
 have hb6 : i ≤ l.length + 1 := by omega
 have hb8 : i ≤ cap := by omega
 have hb9 : G ≤ 9223372036854775807 := by unfold maxLen at hG63; omega
 clear hrow1 hrow2 hr1 hr2 hr3 hZ hZs hROW hRs hW1 hW2 hN1 hN2 hb1 hb2 hcp1 hcp2 hold hik hkk hc hg hx hdl hta hsz hG hcell hgl hG63
 go_enter Tryz.func34, Tryz.ntmps34
 go_upto_region 10 with (at_builtin; go_loud (refine Lib.wpList_append_run _ rfl _ _ _ _ rfl _ _ rfl rfl _ _ (HRZ.out _) ?_))
 have hcp1 := HC1.out 3 (G - i)
 go_upto_region 11 with fail
 go_region_law_o (refine step_copyI rfl _ _ 31 31 rfl (.slice (some ⟨w.heap.size, (i + 1) * 11, none⟩) (l.length - i) (G - (i + 1))) (.slice (some ⟨g, i * 11, none⟩) (l.length - i) (cap - i)) (by simp [Act.eval, Act.put]) (by simp [Act.eval, Act.put]) (HC2.out 3 (G - (i + 1)) (cap - i)) ?_)
 go_wp2
 all_goals
  go_ret
  have hF := HF.out
  exact ⟨.slice (some ⟨w.heap.size, 0, none⟩) (l.length + 1) G, rfl, ⟨by rw [itsVals_length], .inr ⟨w.heap.size, G, row2, by rw [ins_len l x hb2'], hbw, hF.2, by rw [ins_len l x hb2']; exact HR.out.2.2.1, HR.out.2.1, HR.out.2.2.2, by
   have := HR.out.1
   rw [ins_len l x (by omega)]
   exact this⟩⟩, Fr.of_below hF.1⟩
end Go.Proofs.YtkklcpmbgfgcmaaGreat
