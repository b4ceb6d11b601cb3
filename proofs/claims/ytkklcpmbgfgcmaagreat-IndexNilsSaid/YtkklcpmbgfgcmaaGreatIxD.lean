/- The index: lists of items: found by a key, without a key. Conditions: as in the text. -/
import Derived.Test.YtkklcpmbgfgcmaaGreatIxC
import Derived.Test.YtkklcpmbgfgcmaaGreatMem
set_option linter.unusedSimpArgs false
set_option linter.unusedVariables false
set_option linter.unnecessarySimpa false
namespace Go.Proofs.YtkklcpmbgfgcmaaGreat
open Go.RowKit
variable {lo : Nat}
theorem wpList_build1I {P : Program} {ops : Array Oper} {rest : List Oper} {o : Oper} {a : Act} {w : World} {Q : Exit → Act → World → Prop} (hg : o.guard = none) (t e : TypeId) (x : Operand) (ho : o.op = .buildSlice t 1 #[(0, x)])
 (c : Array Value) (n : Nat) (hx : a.eval x = .agg c) (hc : c.size = n) (hn : 0 < n) (hnn : n ≤ 16777216) (hu : P.underlying t = some (.slice e)) (hi : (P.info? e).map (·.size) = some n) (hz : ((P.info? e).bind (·.zero)).isSome = true)
 (h : wpList P ops Q rest (a.put o.dst (.slice (some ⟨w.heap.size, 0, none⟩) 1 1)) (w.alloc (.cells c e))) : wpList P ops Q (o :: rest) a w :=
 wpList_plain hg fun _ hK => wp_build_one t e x ho c n hx hc hn hnn hu hi hz (hK _ _ h)
theorem its_news (w : World) (x : It) (t : TypeId) : ∀ j u, (itCells x)[j]? = some u → (w.alloc (.cells (itCells x).toArray t)).cell? ((⟨w.heap.size, 0, none⟩ : Addr).add j) = some u := fun j u hu => by
 rw [Addr.add_mid, Nat.zero_add, World.cell?_alloc_new]
 simpa using hu
/-- an own row of items -/
def RetIts (L : List It) (w : World) (e : Ending) (w' : World) : Prop :=
 ∃ v, e = .returned v ∧ w'.ownsRow w.heap.size 27 11 v L.length (itsVals L) ∧ Below w.heap.size w w'
/-! ### closures that hold a key -/
abbrev keyCs (k : Key) : List Value := [.string k.name, .string k.domain, .string k.path]
theorem KeyAt.range {w : World} {K : Nat} {k : Key} (h : KeyAt w K k) : w.rangeAt K 0 (keyCs k) := fun j v hv => by
 rw [Nat.zero_add]
 match j, hv with
 | 0, hv => cases hv; exact h.c0
 | 1, hv => cases hv; exact h.c1
 | 2, hv => cases hv; exact h.c2
theorem range_keyCs {w : World} {b o : Nat} {x : It} (h : w.rangeAt b o (itCells x)) : w.rangeAt b o (keyCs x.key) := fun j v hv => by
 match j, hv with
 | 0, hv => cases hv; exact h 0 _ rfl
 | 1, hv => cases hv; exact h 1 _ rfl
 | 2, hv => cases hv; exact h 2 _ rfl
set_option maxRecDepth 100000 in
set_option maxHeartbeats 1000000 in
theorem findC_any (x : It) (k : Key) (K : Nat) (w : World) (hK : KeyAt w K k) :
 Calls Tryz.prog 32 #[itVal x, .pointer (some ⟨K, 0, none⟩)] w fun e w' => e = .returned (.bool (decide (x.key = k))) ∧ Below w.heap.size w w' := by
 have hEq := fun (W : World) => eqKey W 9998 x.key k
 have hm := noGuardKey
 go_enter Tryz.func32, Tryz.ntmps32
 go_upto_region 1 with fail
 refine wp_name (fun W hW => ?_)
 have hb : Below w.heap.size w W := by rw [hW.out]; go_grown
 have hx : W.rangeAt w.heap.size 0 (keyCs x.key) := by rw [hW.out]; exact range_keyCs (itCells_box x w _)
 have hk := (hK.kept hb).range
 clear hW hK
 go_wp2_with (first
  | ((with_reducible refine wpList_load_to 23 _ w.heap.size 0 (keyCs x.key) (keyV x.key) rfl _ Tryz.underlying23 rfl (by kernel_rfl) hx ?_ rfl ?_); exact rfl)
  | ((with_reducible refine wpList_load_to 23 _ K 0 (keyCs k) (keyV k) rfl _ Tryz.underlying23 rfl (by kernel_rfl) hk ?_ rfl ?_); exact rfl))
 go_ret
 exact ⟨rfl, hb⟩
set_option maxRecDepth 100000 in
set_option maxHeartbeats 1000000 in
theorem woC_any (x : It) (k : Key) (K : Nat) (w : World) (hK : KeyAt w K k) :
 Calls Tryz.prog 36 #[itVal x, .pointer (some ⟨K, 0, none⟩)] w fun e w' => e = .returned (.bool (decide (x.key ≠ k))) ∧ Below w.heap.size w w' := by
 have hEq := fun (W : World) => eqKey W 9998 x.key k
 have hm := noGuardKey
 go_enter Tryz.func36, Tryz.ntmps36
 go_upto_region 1 with fail
 refine wp_name (fun W hW => ?_)
 have hb : Below w.heap.size w W := by rw [hW.out]; go_grown
 have hx : W.rangeAt w.heap.size 0 (keyCs x.key) := by rw [hW.out]; exact range_keyCs (itCells_box x w _)
 have hk := (hK.kept hb).range
 clear hW hK
 go_wp2_with (first
  | ((with_reducible refine wpList_load_to 23 _ w.heap.size 0 (keyCs x.key) (keyV x.key) rfl _ Tryz.underlying23 rfl (by kernel_rfl) hx ?_ rfl ?_); exact rfl)
  | ((with_reducible refine wpList_load_to 23 _ K 0 (keyCs k) (keyV k) rfl _ Tryz.underlying23 rfl (by kernel_rfl) hk ?_ rfl ?_); exact rfl))
 go_ret
 exact ⟨ret_bool (by simp), hb⟩
/-! ### slices.IndexFunc -/
def idxI (l : List It) (k : Key) : Int := match l.findIdx? fun x => decide (x.key = k) with | some i => i | none => -1
theorem idxI_none {l : List It} {k : Key} (h : getI l k = none) : idxI l k = -1 := by
 unfold idxI
 rw [List.findIdx?_eq_none_iff.2 fun x hx => by simpa using getI_none.1 h x hx]
theorem idxI_some {l : List It} {k : Key} {x : It} (h : getI l k = some x) : ∃ i : Nat, idxI l k = i ∧ ∃ hi : i < l.length, l[i] = x := by
 unfold getI at h
 rw [List.find?_eq_some_iff_getElem] at h
 obtain ⟨h1, i, hi, h2, h3⟩ := h
 refine ⟨i, ?_, hi, h2⟩
 unfold idxI
 rw [List.findIdx?_eq_some_iff_getElem.2 ⟨hi, by rw [h2]; exact h1, fun j hj => by simpa using h3 j hj⟩]
set_option maxRecDepth 100000 in
set_option maxHeartbeats 1000000 in
theorem idxFunc_any (a : Option Addr) (cap : Nat) (l : List It) (k : Key) (K : Nat) (w : World) (hl : l.length ≤ 1073741824) (hin : ItsIn w a l) (hK : KeyAt w K k) :
 Calls Tryz.prog 31 #[.slice a l.length cap, .func (.func 32) #[] #[.pointer (some ⟨K, 0, none⟩)]] w fun e w' => e = .returned (.int .i64 (idxI l k)) ∧ Below w.heap.size w w' := by
 go_enter Tryz.func31, Tryz.ntmps31
 go_wp2
 go_loopw [8] (fun i wr => ∃ j : Nat, i = .int .i64 j ∧ j ≤ l.length ∧ (∀ x ∈ l.take j, x.key ≠ k) ∧ Below w.heap.size w wr) (fun i _ => l.length - (intOf i).toNat)
 case atStart => exact ⟨0, rfl, Nat.zero_le _, fun x hx => (by simp at hx), Below.refl _ _⟩
 case round =>
  obtain ⟨j, rfl, hj, hno, hb⟩ := hrel
  have HNO := Lib.hid hno
  clear hno
  by_cases hlt : j < l.length
  ·obtain ⟨A, off, rfl, hr⟩ := ItsIn.at (hin.kept hb) hlt
   have HT : Hid (l.take (j + 1) = l.take j ++ [l[j]]) := List.take_succ_eq_append_getElem hlt
   have HG : Hid (l[j]? = some l[j]) := List.getElem?_eq_getElem hlt
   have HC := Lib.hid (findC_any l[j] k K wr (hK.kept hb))
   generalize l[j] = y at *
   by_cases hy : y.key = k
   ·rw [decide_eq_true hy] at HC
    have HE : Hid (idxI l k = j) := by
     unfold Hid idxI
     obtain ⟨h5, h6⟩ := List.getElem?_eq_some_iff.1 HG.out
     rw [List.findIdx?_eq_some_iff_getElem.2 ⟨h5, by rw [h6]; simpa using hy, fun t ht => by
        have h7 := HNO.out l[t] (List.mem_take_iff_getElem.2 ⟨t, by omega, rfl⟩)
        simpa using h7⟩]
    clear hy
    go_wp2_with (first
     | ((with_reducible refine wpList_load_to 27 _ A (off + j * 11) (itCells y) (itVal y) rfl _ Tryz.underlying27 rfl (by kernel_rfl) hr ?_ rfl ?_); exact rfl)
     | (go_at_call 32; refine HC.out.mono ?_; rintro e w1 ⟨rfl, hb1⟩))
    all_goals
     go_ret
     exact ⟨ret_int HE.out.symm, hb.trans (hb1.mono hb.size)⟩
   ·rw [decide_eq_false hy] at HC
    have HY := Lib.hid hy
    clear hy
    go_wp2_with (first
     | ((with_reducible refine wpList_load_to 27 _ A (off + j * 11) (itCells y) (itVal y) rfl _ Tryz.underlying27 rfl (by kernel_rfl) hr ?_ rfl ?_); exact rfl)
     | (go_at_call 32; refine HC.out.mono ?_; rintro e w1 ⟨rfl, hb1⟩))
    go_roundw
    case rel => exact ⟨j + 1, by go_num, by omega, by
     rw [HT.out]
     intro x hx
     rcases List.mem_append.1 hx with hx | hx
     ·exact HNO.out x hx
     ·rw [List.mem_singleton.1 hx]; exact HY.out, hb.trans (hb1.mono hb.size)⟩
    case measure => simp [intOf]; omega
  ·obtain rfl : j = l.length := by omega
   have HE : Hid (idxI l k = -1) := idxI_none (getI_none.2 fun x hx => HNO.out x (by rw [List.take_length]; exact hx))
   go_wp2
   all_goals
        go_ret
        exact ⟨ret_int HE.out.symm, hb⟩
/-! ### view.Without -/
set_option maxRecDepth 100000 in
set_option maxHeartbeats 2000000 in
theorem keepWo_any (a : Option Addr) (cap : Nat) (l : List It) (k : Key) (K : Nat) (w : World) (hl : l.length ≤ 1073741824) (hin : ItsIn w a l) (hK : KeyAt w K k) :
 Calls Tryz.prog 35 #[.slice a l.length cap, .func (.func 36) #[] #[.pointer (some ⟨K, 0, none⟩)]] w (RetIts (woI l k) w) := by
 obtain ⟨i0, hi, hz0, hz1, hz2⟩ := info_parts Tryz.infoItem
 have HW : Hid (∀ j (h : j < l.length), woI (l.take (j + 1)) k = woI (l.take j) k ++ if l[j].key = k then [] else [l[j]]) := fun j h => by
  unfold woI
  rw [List.take_succ_eq_append_getElem h, List.filter_append]
  by_cases e : l[j].key = k
  ·rw [if_pos e]; simp [e]
  ·rw [if_neg e]; simp [e]
 go_enter Tryz.func35, Tryz.ntmps35
 go_wp2
 go_loopw [5, 10] (fun v i wr => ∃ j : Nat, i = .int .i64 j ∧ j ≤ l.length ∧ wr.ownsRow w.heap.size 27 11 v (woI (l.take j) k).length (itsVals (woI (l.take j) k)) ∧ Below w.heap.size w wr) (fun _ i _ => l.length - (intOf i).toNat)
 case atStart => exact ⟨0, rfl, Nat.zero_le _, World.ownsRow_nil _ _ _ _, Below.refl _ _⟩
 case round =>
  obtain ⟨j, rfl, hj, hown, hb⟩ := hrel
  by_cases hlt : j < l.length
  ·obtain ⟨A, off, rfl, hr⟩ := ItsIn.at (hin.kept hb) hlt
   have hW := HW.out j hlt
   have hln : (woI (l.take j) k).length ≤ j := by
        have := List.length_filter_le (fun x : It => decide (x.key ≠ k)) (l.take j)
        unfold woI
        rw [List.length_take] at this
        omega
   obtain ⟨L, hL⟩ : ∃ L, L = woI (l.take j) k := ⟨_, rfl⟩
   rw [← hL] at hW hln hown
   have HLT := Lib.hid hlt
   generalize l[j] = y at *
   clear hlt
   go_upto_region 5 with (first
        | ((with_reducible refine wpList_load_to 27 _ A (off + j * 11) (itCells y) (itVal y) rfl _ Tryz.underlying27 rfl (by kernel_rfl) hr ?_ rfl ?_); exact rfl)
        | (refine wpList_store_new 27 _ _ _ (itCells y).toArray rfl rfl (by kernel_rfl) rfl (by kernel_rfl) ?_))
   refine wp_name (fun W1 hW1 => ?_)
   have hb1 : Below wr.heap.size wr W1 := by rw [hW1.out]; exact (Below.refl _ _).alloc (Nat.le_refl _) _
   have hr1 : W1.rangeAt wr.heap.size 0 (itCells y) := by rw [hW1.out]; exact itCells_box y wr _
   have hown1 := ownsRow_below hown hb1
   have hbW : Below w.heap.size w W1 := hb.trans (hb1.mono hb.size)
   have HC := Lib.hid (woC_any y k K W1 (hK.kept hbW))
   clear hW1 hr hown hL
   by_cases hy : y.key = k
   ·rw [if_pos hy, List.append_nil] at hW
    have hd : decide (y.key ≠ k) = false := by simp [hy]
    rw [hd] at HC
    have HWW := Lib.hid hW
    clear hy hW hd
    go_wp2_with (first
     | ((with_reducible refine wpList_load_to 27 _ wr.heap.size 0 (itCells y) (itVal y) rfl _ Tryz.underlying27 rfl (by kernel_rfl) hr1 ?_ rfl ?_); exact rfl)
     | (go_at_call 36; refine HC.out.mono ?_; rintro e w2 ⟨rfl, hb2⟩))
    go_roundw
    case rel => exact ⟨j + 1, by go_num, HLT.out, by rw [HWW.out]; exact ownsRow_below hown1 hb2, hbW.trans (hb2.mono hbW.size)⟩
    case measure => have := HLT.out; simp [intOf]; omega
   ·rw [if_neg hy] at hW
    have hd : decide (y.key ≠ k) = true := by simp [hy]
    rw [hd] at HC
    have HWW := Lib.hid hW
    clear hy hW hd
    go_upto_region 6 with (first
     | ((with_reducible refine wpList_load_to 27 _ wr.heap.size 0 (itCells y) (itVal y) rfl _ Tryz.underlying27 rfl (by kernel_rfl) hr1 ?_ rfl ?_); exact rfl)
     | (go_at_call 36; refine HC.out.mono ?_; rintro e w2 ⟨rfl, hb2⟩))
    have hr2 := rangeAt_kept hr1 hb2
    have hown2 := ownsRow_below hown1 hb2
    have hbW2 : Below w.heap.size w w2 := hbW.trans (hb2.mono hbW.size)
    have hzz := hbW2.size
    have HB2 := Lib.hid hbW2
    generalize wr.heap.size = bx at hr2
    clear hr1 hown1 hb2 hbW2 hbW hb1 HC
    go_wp2_with (first
     | ((with_reducible refine wpList_load_to 27 _ bx 0 (itCells y) (itVal y) rfl _ Tryz.underlying27 rfl (by kernel_rfl) hr2 ?_ rfl ?_); exact rfl)
     | (refine wpList_build1I rfl 31 27 _ rfl (itCells y).toArray 11 rfl rfl (by decide) (by decide) Tryz.underlying31 (by kernel_rfl) (by kernel_rfl) ?_)
     | (at_builtin; go_loud (refine wpList_append_own_at _ rfl _ _ 31 rfl w.heap.size 27 i0 (itVal it0) 11 96 Tryz.underlying31 hi hz0 hz1 hz2 rfl (by decide) _ _ _ rfl (hown2.alloc _) ⟨w2.heap.size, 0, none⟩ 1 1 (itCells y) rfl rfl (its_news w2 y _) (itCells_one _) (by unfold maxLen; omega) (by omega) (by simp; omega) ?_)))
    intro v' wf hownf hgrow _ _
    have hal : Below w2.heap.size w2 (w2.alloc (Obj.cells (itCells y).toArray 27)) := (Below.refl _ _).alloc (Nat.le_refl _) _
    have hbF : Below w.heap.size w wf := (HB2.out.trans (hal.mono hzz)).grown hgrow (by have := hal.size; omega) (fun q hq => (hown2.lt q hq).1)
    have HZ := Lib.hid (And.intro hownf hbF)
    clear hownf hgrow hal hown2 hr2 hbF
    go_wp2
    go_roundw
    case rel => exact ⟨j + 1, by go_num, HLT.out, by rw [HWW.out, List.length_append, itsVals_append, itsVals_one]; exact HZ.out.1, HZ.out.2⟩
    case measure => have := HLT.out; simp [intOf]; omega
  ·obtain rfl : j = l.length := by omega
   rw [List.take_length] at hown
   have HZ := Lib.hid (And.intro hown hb)
   clear hown hb
   go_wp2
   all_goals
        go_ret
        exact ⟨_, rfl, HZ.out.1, HZ.out.2⟩
set_option maxHeartbeats 1000000 in
theorem vWithout_any (a : Option Addr) (cap : Nat) (l : List It) (k : Key) (w : World) (hl : l.length ≤ 1073741824) (hin : ItsIn w a l) :
 Calls Tryz.prog 21 #[.slice a l.length cap, keyV k] w (RetIts (woI l k) w) := by
 have hmf : ∀ (fn : Fn) (first cap : Array Value) (w : World), (Instr.makeFunc fn first cap).run Tryz.prog w = .ok (.func fn first cap) w := fun _ _ _ _ => rfl
 go_enter Tryz.func21, Tryz.ntmps21
 go_upto_region 1 with fail
 refine wp_name (fun W hW => ?_)
 have hb : Below w.heap.size w W := by rw [hW.out]; go_grown
 have hK : KeyAt W w.heap.size k := by rw [hW.out]; exact ⟨by go_simp, by go_simp, by go_simp⟩
 have HC := Lib.hid (keepWo_any a cap l k w.heap.size W hl (hin.kept hb) hK)
 clear hW hK
 go_wp2_with (go_at_call 35; refine HC.out.mono ?_; rintro e w1 ⟨v, rfl, hown, hb1⟩)
 go_ret
 exact ⟨v, rfl, own_low hown hb.size, below2 hb hb1⟩
end Go.Proofs.YtkklcpmbgfgcmaaGreat
