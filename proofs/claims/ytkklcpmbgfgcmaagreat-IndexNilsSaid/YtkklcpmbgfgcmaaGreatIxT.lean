/- The laws of the index: what is light; the law's own example. Conditions: as in the text. -/
import Derived.Test.YtkklcpmbgfgcmaaGreatIxS
set_option linter.unusedSimpArgs false
set_option linter.unusedVariables false
set_option linter.unnecessarySimpa false
namespace Go.Proofs.YtkklcpmbgfgcmaaGreat
open Go.RowKit
variable {lo : Nat}
/-! ### light -/
def lightOne (y : It) : Bool := decide (y.key.name.size ≤ 300) && (decide (y.key.domain.size ≤ 300) && (decide (y.key.path.size ≤ 300) && decide (y.ck.value.size ≤ 300)))
def lightI (l : List It) : Bool := decide (l.length ≤ 40) && l.all lightOne
set_option maxRecDepth 100000 in
set_option maxHeartbeats 2000000 in
theorem lightI_any (a : Option Addr) (cap : Nat) (l : List It) (w : World) (hin : ItsIn w a l) (hl : l.length ≤ maxLen) (hs : ∀ y ∈ l, y.key.name.size ≤ maxLen ∧ y.key.domain.size ≤ maxLen ∧ y.key.path.size ≤ maxLen ∧ y.ck.value.size ≤ maxLen) :
 Calls Tryz.prog 4 #[.slice a l.length cap] w fun e w' => e = .returned (.bool (lightI l)) ∧ w = w' := by
 unfold maxLen at hl hs
 by_cases h40 : l.length ≤ 40
 case neg =>
  have HR : Hid (lightI l = false) := by unfold Hid lightI; rw [decide_eq_false h40]; rfl
  go_enter Tryz.func4, Tryz.ntmps4
  go_wp2
  all_goals
   go_ret
   exact ⟨ret_bool HR.out.symm, rfl⟩
 case pos =>
 have HR : Hid (lightI l = l.all lightOne) := by unfold Hid lightI; rw [decide_eq_true h40]; rfl
 have HS := Lib.hid hs
 clear hs hl
 go_enter Tryz.func4, Tryz.ntmps4
 go_wp2
 go_loop [3] (fun i => ∃ j : Nat, i = .int .i64 j ∧ j ≤ l.length ∧ ∀ y ∈ l.take j, lightOne y = true) (fun i => l.length - (intOf i).toNat)
 case atStart => exact ⟨0, rfl, Nat.zero_le _, fun y hy => (by simp at hy)⟩
 case round =>
  obtain ⟨j, rfl, hj, hall⟩ := hrel
  have HA := Lib.hid hall
  clear hall
  by_cases hlt : j < l.length
  ·obtain ⟨A, off, rfl, hr⟩ := ItsIn.at hin hlt
   have HT : Hid (l.take (j + 1) = l.take j ++ [l[j]]) := List.take_succ_eq_append_getElem hlt
   have HM : Hid (l[j] ∈ l) := List.getElem_mem hlt
   obtain ⟨g1, g2, g3, g4⟩ := HS.out _ (List.getElem_mem hlt)
   generalize l[j] = y at *
   have c0 := hr 0 _ rfl
   have c1 := hr 1 _ rfl
   have c2 := hr 2 _ rfl
   have c3 := hr 3 _ rfl
   rw [Nat.add_zero] at c0
   clear hr
   by_cases q0 : y.key.name.size ≤ 300
   ·skip
    by_cases q1 : y.key.domain.size ≤ 300
    ·skip
     by_cases q2 : y.key.path.size ≤ 300
     ·skip
      by_cases q3 : y.ck.value.size ≤ 300
      ·skip
       have HE : Hid (lightOne y = true) := by unfold Hid lightOne; rw [decide_eq_true q0, decide_eq_true q1, decide_eq_true q2, decide_eq_true q3]; rfl
       go_wp2
       go_round
       case rel => exact ⟨j + 1, by go_num, by omega, fun z hz => by
        rw [HT.out] at hz
        rcases List.mem_append.1 hz with hz | hz
        ·exact HA.out z hz
        ·rw [List.mem_singleton.1 hz]; exact HE.out⟩
       case measure => simp [intOf]; omega
      ·skip
       have HE : Hid (l.all lightOne = false) := by
        unfold Hid
        rw [List.all_eq_false]
        exact ⟨y, HM.out, by unfold lightOne; simp; omega⟩
       go_wp2
       all_goals
        go_ret
        exact ⟨ret_bool (by rw [HR.out, HE.out]), rfl⟩
     ·skip
      have HE : Hid (l.all lightOne = false) := by
           unfold Hid
           rw [List.all_eq_false]
           exact ⟨y, HM.out, by unfold lightOne; simp; omega⟩
      go_wp2
      all_goals
           go_ret
           exact ⟨ret_bool (by rw [HR.out, HE.out]), rfl⟩
    ·skip
     have HE : Hid (l.all lightOne = false) := by
      unfold Hid
      rw [List.all_eq_false]
      exact ⟨y, HM.out, by unfold lightOne; simp; omega⟩
     go_wp2
     all_goals
      go_ret
      exact ⟨ret_bool (by rw [HR.out, HE.out]), rfl⟩
   ·skip
    have HE : Hid (l.all lightOne = false) := by
     unfold Hid
     rw [List.all_eq_false]
     exact ⟨y, HM.out, by unfold lightOne; simp; omega⟩
    go_wp2
    all_goals
     go_ret
     exact ⟨ret_bool (by rw [HR.out, HE.out]), rfl⟩
  ·obtain rfl : j = l.length := by omega
   have HE : Hid (l.all lightOne = true) := by
        unfold Hid
        rw [List.all_eq_true]
        exact fun y hy => HA.out y (by rw [List.take_length]; exact hy)
   go_wp2
   all_goals
        go_ret
        exact ⟨ret_bool (by rw [HR.out, HE.out]), rfl⟩
theorem light_facts {l : List It} (h : lightI l = true) : l.length ≤ 40 ∧ ∀ y ∈ l, y.key.name.size ≤ 300 ∧ y.key.domain.size ≤ 300 ∧ y.key.path.size ≤ 300 ∧ y.ck.value.size ≤ 300 := by
 unfold lightI at h
 simp only [Bool.and_eq_true, decide_eq_true_eq, List.all_eq_true] at h
 refine ⟨h.1, fun y hy => ?_⟩
 have := h.2 y hy
 unfold lightOne at this
 simpa using this
theorem new_x (a : Option Addr) (cap : Nat) (l : List It) (w : World) (hlo : lo ≤ w.heap.size) (hin : ItsIn w a l) (hl : l.length ≤ 900) (hd : ∀ y ∈ l, y.key.domain.size ≤ 300) :
 Calls Tryz.prog 7 #[.slice a l.length cap] w fun e w' => ∃ x, e = .returned (ndVal x) ∧ IxAt lo w' x (byI l) (l.length * 301) ∧ IxFr lo w w' :=
 (new_s a cap l w hlo hin hl hd).mono fun _ _ ⟨he, h1, h2⟩ => ⟨_, he, h1, h2⟩
/-! ### awake -/
def itA : It := ⟨⟨⟨#[97]⟩, ⟨#[97, 46, 116, 101, 115, 116]⟩, ⟨#[47]⟩⟩, ck0⟩
def itB : It := ⟨⟨⟨#[98]⟩, ⟨#[116, 101, 115, 116]⟩, ⟨#[47]⟩⟩, ck0⟩
theorem awk_len : (byI [itA, itB]).length = 2 := by decide +kernel
def awkN : List Path := [[[116, 101, 115, 116]], [[116, 101, 115, 116], [97]]]
theorem awk_nodup : awkN.Nodup := by decide +kernel
theorem awk_nodes : nodesP (byI [itA, itB]) = [[[116, 101, 115, 116]], [[116, 101, 115, 116], [97]], [[116, 101, 115, 116]]] := by decide +kernel
theorem awk_near : (nearI (byI [itA, itB]) ⟨#[98, 46, 97, 46, 116, 101, 115, 116]⟩).length = 2 := by decide +kernel
theorem awk_good : Good (byI [itA, itB]) := ⟨byI_srt _, by rw [awk_len]; omega, fun y hy => by
 rcases List.mem_cons.1 (mem_byI_sub hy) with rfl | h
 ·decide
 ·rw [List.mem_singleton.1 h]; decide⟩
theorem wpList_build2I {P : Program} {ops : Array Oper} {rest : List Oper} {o : Oper} {a : Act} {w : World} {Q : Exit → Act → World → Prop} (hg : o.guard = none) (t e : TypeId) (x y : Operand) (ho : o.op = .buildSlice t 2 #[(0, x), (1, y)])
 (c d : Array Value) (n : Nat) (hx : a.eval x = .agg c) (hy : a.eval y = .agg d) (hc : c.size = n) (hd : d.size = n) (hn : 0 < n) (hnn : n ≤ 8388608) (hu : P.underlying t = some (.slice e)) (hi : (P.info? e).map (·.size) = some n) (hz : ((P.info? e).bind (·.zero)).isSome = true)
 (h : wpList P ops Q rest (a.put o.dst (.slice (some ⟨w.heap.size, 0, none⟩) 2 2)) (w.alloc (.cells (c ++ d) e))) : wpList P ops Q (o :: rest) a w :=
 wpList_plain hg fun _ hK => by
  cases hie : P.info? e with
  | none => simp [hie] at hi
  | some ie =>
    simp only [hie, Option.map_some, Option.some.injEq, Option.bind_some] at hi hz
    obtain ⟨z, hzz⟩ := Option.isSome_iff_exists.1 hz
    refine wp_buildSlice t e 2 #[(0, x), (1, y)] ho (c ++ d) ie z hu hie hzz (by rw [hi]; omega) (by rw [hi]; omega) ?_ (hK _ _ h)
    have h2 := Great.fill_whole (s := ie.size) (by omega) [.agg c, .agg d] ((Array.range (2 * ie.size)).map (z.cells[· % z.cells.size]!)) (by
        intro v hv
        simp only [List.mem_cons, List.not_mem_nil, or_false] at hv
        rcases hv with rfl | rfl
        ·rw [hi]; exact hc
        ·rw [hi]; exact hd) (by simp)
    have e1 : ((#[(0, x), (1, y)] : Array (Nat × Operand)).map fun (i, x) => (i, a.eval x)).toList = (([Value.agg c, Value.agg d].zipIdx 0).map fun x => (x.2, x.1)) := by simp [hx, hy]
    rw [e1, h2]
    simp [Value.cells]
theorem its_new2 (w : World) (x y : It) (t : TypeId) : ItsIn (w.alloc (.cells ((itCells x).toArray ++ (itCells y).toArray) t)) (some ⟨w.heap.size, 0, none⟩) [x, y] := by
 refine Or.inr ⟨_, _, rfl, fun j u hu => ?_⟩
 rw [Nat.zero_add, World.cell?_alloc_new]
 rw [show itsVals [x, y] = itCells x ++ itCells y by simp [itsVals]] at hu
 simpa using hu
set_option maxRecDepth 100000 in
set_option maxHeartbeats 2000000 in
theorem awake45_any (w : World) : Calls Tryz.prog 5 #[] w fun e w' => e = .returned (.bool true) ∧ Below w.heap.size w w' := by
 go_enter Tryz.func5, Tryz.ntmps5
 go_upto_region 2 with (refine wpList_store_new 27 _ _ _ (itCells itA).toArray rfl rfl (by kernel_rfl) rfl (by kernel_rfl) ?_)
 refine wp_name (fun W hW => ?_)
 have hb : Below w.heap.size w W := by rw [hW.out]; exact (Below.refl _ _).alloc (Nat.le_refl _) _
 have hA : W.rangeAt w.heap.size 0 (itCells itA) := by rw [hW.out]; exact itCells_box itA w _
 clear hW
 go_upto_region 3 with (refine wpList_store_new 27 _ _ _ (itCells itB).toArray rfl rfl (by kernel_rfl) rfl (by kernel_rfl) ?_)
 refine wp_name (fun V hV => ?_)
 have hbV : Below W.heap.size W V := by rw [hV.out]; exact (Below.refl _ _).alloc (Nat.le_refl _) _
 have hB : V.rangeAt W.heap.size 0 (itCells itB) := by rw [hV.out]; exact itCells_box itB W _
 have hA2 := rangeAt_kept hA hbV
 have hbw : Below w.heap.size w V := below2 hb hbV
 have HNW := Lib.hid (new_x (lo := w.heap.size) (some ⟨V.heap.size, 0, none⟩) 2 [itA, itB] (V.alloc (.cells ((itCells itA).toArray ++ (itCells itB).toArray) 27)) (by have := hbw.size; simp; omega) (its_new2 V itA itB _) (by simp) (fun y hy => by
  rcases List.mem_cons.1 hy with rfl | h
  ·decide
  ·rw [List.mem_singleton.1 h]; decide))
 have hbA : Below w.heap.size w (V.alloc (.cells ((itCells itA).toArray ++ (itCells itB).toArray) 27)) := hbw.alloc hbw.size _
 clear hV hA hbV hb
 generalize W.heap.size = b2 at *
 go_upto_region 4 with (first
  | ((with_reducible refine wpList_load_to 27 _ w.heap.size 0 (itCells itA) (itVal itA) rfl _ Tryz.underlying27 rfl (by kernel_rfl) hA2 ?_ rfl ?_); exact rfl)
  | ((with_reducible refine wpList_load_to 27 _ b2 0 (itCells itB) (itVal itB) rfl _ Tryz.underlying27 rfl (by kernel_rfl) hB ?_ rfl ?_); exact rfl)
  | (refine wpList_build2I rfl 31 27 _ _ rfl (itCells itA).toArray (itCells itB).toArray 11 rfl rfl rfl rfl (by decide) (by decide) Tryz.underlying31 (by kernel_rfl) (by kernel_rfl) ?_)
  | (go_at_call 7; (refine HNW.out.mono ?_); rintro e w3 ⟨xi, rfl, hI, hf3⟩))
 have hb3 : Below w.heap.size w w3 := hbA.trans (hf3.below hbA.size fun q hq => hq.1)
 have HL := Lib.hid (len_s hI)
 have HN := Lib.hid (nodes_s hI awk_good (by show 2 * 301 ≤ 536870912; omega) awkN awk_nodup (fun q => by rw [awk_nodes]; unfold awkN; simp only [List.mem_cons, List.not_mem_nil, or_false]; exact ⟨fun h => h.elim Or.inl (fun h => Or.inr (Or.inl h)), fun h => h.elim Or.inl (fun h => h.elim Or.inr Or.inl)⟩))
 have HR := Lib.hid (fun (X : World) (hX : Below w3.heap.size w3 X) => near_s (hI.kept hX) awk_good ⟨#[98, 46, 97, 46, 116, 101, 115, 116]⟩ (by decide))
 rw [awk_len] at HL
 clear hI hf3 hbA hA2 hB HNW
 go_wp2_with (first
  | (go_at_call 14; (refine HL.out.mono ?_); rintro e w4 ⟨rfl, rfl⟩)
  | (go_at_call 15; (refine HN.out.mono ?_); rintro e w5 ⟨rfl, hb5⟩)
  | (go_at_call 11; (refine (HR.out _ hb5).mono ?_); rintro e w6 ⟨v6, rfl, hown6, hb6⟩; rw [awk_near] at hown6; obtain ⟨a6, c6, rfl, _, _⟩ := own_cellsIn hown6))
 all_goals
  go_ret
  exact ⟨rfl, hb3.trans ((hb5.mono hb3.size).trans (hb6.mono (Nat.le_trans hb3.size hb5.size)))⟩
end Go.Proofs.YtkklcpmbgfgcmaaGreat
