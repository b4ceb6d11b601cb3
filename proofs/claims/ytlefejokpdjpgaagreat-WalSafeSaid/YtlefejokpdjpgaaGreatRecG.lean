/- Lists of records: are they the same, are they light, copied, their lines. Conditions: at most 2^30 records. -/
import Derived.Test.YtlefejokpdjpgaaGreatRecP
set_option linter.unusedSimpArgs false
set_option linter.unusedVariables false
set_option linter.unnecessarySimpa false
set_option maxHeartbeats 16000000
set_option maxRecDepth 100000
namespace Go.Proofs.YtlefejokpdjpgaaGreat
open Go.RowKit
def recsOf (ls : List RecIt) : List Rec := ls.map (·.1)
theorem recsOf_length (ls : List RecIt) : (recsOf ls).length = ls.length := by simp [recsOf]
theorem recsOf_at {ls : List RecIt} {k : Nat} (h : k < ls.length) : (recsOf ls)[k]'(by rw [recsOf_length]; exact h) = ls[k].1 := by simp [recsOf]
theorem recsIn_own {w : World} {base : Nat} {t : TypeId} {v : Value} {ls : List RecIt} (h : w.ownsRow base t 21 v ls.length (itCells ls)) (hd : ∀ x ∈ ls, DotsIn w x.2.1 x.1.e.over) : ∃ a cap, v = .slice a ls.length cap ∧ RecsIn w a ls ∧ ls.length ≤ cap := by
 rcases h.2 with ⟨rfl, hn⟩ | ⟨g, cap, cur, hv, _, _, hc, _⟩
 ·have : ls = [] := List.length_eq_zero_iff.1 hn
  subst this
  exact ⟨none, 0, rfl, ⟨Or.inl rfl, hd⟩, Nat.le_refl _⟩
 ·refine ⟨some ⟨g, 0, none⟩, cap, hv, ⟨Or.inr ⟨g, 0, rfl, fun i hi j u hu => ?_⟩, hd⟩, hc⟩
  have := World.ownsRow.cells (g := g) h (by rw [hv]; rfl) (i * 21 + j) u (itCells_at ls i j u hi hu)
  rw [Addr.add_mid, Nat.zero_add] at this
  rwa [Nat.zero_add]
theorem rSameRecs_any (a b : Option Addr) (ca cb : Nat) (l m : List RecIt) (w : World) (hl : l.length ≤ 1073741824) (hm : m.length ≤ 1073741824) (hsl : ∀ x ∈ l, x.1.e.over.length ≤ 1073741824) (hsm : ∀ x ∈ m, x.1.e.over.length ≤ 1073741824) (ha : RecsIn w a l) (hb : RecsIn w b m) :
 Calls Tryz.prog 15 #[.slice a l.length ca, .slice b m.length cb] w fun x w' => x = .returned (.bool (decide (recsOf l = recsOf m))) ∧ Below w.heap.size w w' := by
 by_cases hlen : l.length = m.length
 ·have hb1 : ((l.length : Nat) != (m.length : Nat)) = false := by rw [bne_eq_false_iff_eq]; exact hlen
  have hb2 : ((l.length : Int) != (m.length : Int)) = false := by rw [bne_eq_false_iff_eq]; omega
  have hl1 : l.length ≤ m.length := by omega
  have hl2 : m.length ≤ l.length := by omega
  clear hlen
  go_enter Tryz.func15, Tryz.ntmps15
  go_wp2
  go_loopw [5] (fun i wr => ∃ k : Nat, k ≤ l.length ∧ i = .int .i64 k ∧ (recsOf l).take k = (recsOf m).take k ∧ Below w.heap.size w wr) (fun i _ => l.length - (intOf i).toNat)
  case atStart => exact ⟨0, Nat.zero_le _, rfl, rfl, by go_grown⟩
  case round =>
   obtain ⟨k, hk, rfl, hpre, hbw⟩ := hrel
   have HP := Lib.hid hpre
   clear hpre
   have hzw := hbw.size
   by_cases hlt : k < l.length
   ·have hlm : k < m.length := by omega
    obtain ⟨A, off, rfl, hra, hda⟩ := (ha.kept hbw).at hlt
    obtain ⟨B, ofb, rfl, hrb, hdb⟩ := (hb.kept hbw).at hlm
    have r1 := hra k hlt
    have r2 := hrb k hlm
    have s1 := hsl _ (List.getElem_mem hlt)
    have s2 := hsm _ (List.getElem_mem hlm)
    have g1 := @recsOf_at l k hlt
    have g2 := @recsOf_at m k hlm
    have HN := fun he : l[k].1 = m[k].1 => take_next (k := k) (by rw [recsOf_length]; exact hlt) (by rw [recsOf_length]; exact hlm) HP.out (by rw [g1, g2]; exact he)
    have HD := fun he : ¬ l[k].1 = m[k].1 => decide_eq_false (take_ne (k := k) (l := recsOf l) (m := recsOf m) (by rw [recsOf_length]; exact hlt) (by rw [recsOf_length]; exact hlm) (by rw [g1, g2]; exact he))
    clear hra hrb g1 g2 HP
    generalize l[k] = x at *
    generalize m[k] = y at *
    obtain ⟨e, ax, cx⟩ := x
    obtain ⟨f, ay, cy⟩ := y
    simp only at *
    have hS0 := fun (W : World) (h1 : DotsIn W ax e.e.over) (h2 : DotsIn W ay f.e.over) => rRecSame_any e f ax ay cx cy W s1 s2 h1 h2
    by_cases he : e = f
    ·have HE := Lib.hid (HN he)
     rw [decide_eq_true he] at hS0
     have HS := Lib.hid hS0
     clear hS0 he HN HD
     go_upto_region 6 with fail
     refine wp_region_after (by kernel_rfl) (by kernel_rfl) (fun W2 hW2 => ?_)
     have R1 : W2.rangeAt A (off + k * 21) (recCells e ax cx) := by rw [hW2.out]; exact r1
     have R2 : W2.rangeAt B (ofb + k * 21) (recCells f ay cy) := by rw [hW2.out]; exact r2
     have D1 : ∀ i : After W2, DotsIn i.w ax e.e.over := fun i => (show DotsIn W2 ax e.e.over by rw [hW2.out]; exact hda).kept i.h
     have D2 : ∀ i : After W2, DotsIn i.w ay f.e.over := fun i => (show DotsIn W2 ay f.e.over by rw [hW2.out]; exact hdb).kept i.h
     iterate 3 go_big_quiet_step (fail)
     ((with_reducible refine wpQuiet_load_to 41 _ A (off + k * 21) (recCells e ax cx) (recVal e ax cx) rfl _ Tryz.underlying41 rfl (by kernel_rfl) R1 ?_ rfl ?_); exact rfl; go_simp)
     iterate 3 go_big_quiet_step (fail)
     ((with_reducible refine wpQuiet_load_to 41 _ B (ofb + k * 21) (recCells f ay cy) (recVal f ay cy) rfl _ Tryz.underlying41 rfl (by kernel_rfl) R2 ?_ rfl ?_); exact rfl; go_simp)
     go_big_quiet_step (exact Calls.after (HS.out _ (D1 _) (D2 _)))
     go_big_quiet_step (fail)
     refine wpQuiet_nil ?_
     first | (intro _ hi; obtain ⟨i, rfl⟩ := hi) | intro i
     have hib := i.h
     clear D1 D2 R1 R2
     generalize i.w = wi at hib ⊢
     rw [hW2.out] at hib
     go_wp2
     go_roundw
     case rel => exact ⟨k + 1, by omega, by go_num, HE.out, hbw.trans (hib.mono hzw)⟩
     case measure => simp [intOf] <;> omega
    ·have HE := Lib.hid (HD he)
     rw [decide_eq_false he] at hS0
     have HS := Lib.hid hS0
     clear hS0 he HN HD
     go_upto_region 6 with fail
     refine wp_region_after (by kernel_rfl) (by kernel_rfl) (fun W2 hW2 => ?_)
     have R1 : W2.rangeAt A (off + k * 21) (recCells e ax cx) := by rw [hW2.out]; exact r1
     have R2 : W2.rangeAt B (ofb + k * 21) (recCells f ay cy) := by rw [hW2.out]; exact r2
     have D1 : ∀ i : After W2, DotsIn i.w ax e.e.over := fun i => (show DotsIn W2 ax e.e.over by rw [hW2.out]; exact hda).kept i.h
     have D2 : ∀ i : After W2, DotsIn i.w ay f.e.over := fun i => (show DotsIn W2 ay f.e.over by rw [hW2.out]; exact hdb).kept i.h
     iterate 3 go_big_quiet_step (fail)
     ((with_reducible refine wpQuiet_load_to 41 _ A (off + k * 21) (recCells e ax cx) (recVal e ax cx) rfl _ Tryz.underlying41 rfl (by kernel_rfl) R1 ?_ rfl ?_); exact rfl; go_simp)
     iterate 3 go_big_quiet_step (fail)
     ((with_reducible refine wpQuiet_load_to 41 _ B (ofb + k * 21) (recCells f ay cy) (recVal f ay cy) rfl _ Tryz.underlying41 rfl (by kernel_rfl) R2 ?_ rfl ?_); exact rfl; go_simp)
     go_big_quiet_step (exact Calls.after (HS.out _ (D1 _) (D2 _)))
     go_big_quiet_step (fail)
     refine wpQuiet_nil ?_
     first | (intro _ hi; obtain ⟨i, rfl⟩ := hi) | intro i
     have hib := i.h
     clear D1 D2 R1 R2
     generalize i.w = wi at hib ⊢
     rw [hW2.out] at hib
     go_wp2
     go_ret
     exact ⟨ret_bool HE.out.symm, hbw.trans (hib.mono hzw)⟩
   ·have hlm : ¬ k < m.length := by omega
    have HE : Hid (decide (recsOf l = recsOf m) = true) := decide_eq_true (take_all (k := k) (by rw [recsOf_length]; exact hlt) (by rw [recsOf_length]; exact hlm) HP.out)
    go_wp2
    go_ret
    exact ⟨ret_bool HE.out.symm, hbw⟩
 ·have HE : Hid (decide (recsOf l = recsOf m) = false) := decide_eq_false (len_ne (by rw [recsOf_length, recsOf_length]; exact hlen))
  have hb1 : ((l.length : Nat) != (m.length : Nat)) = true := by rw [bne_iff_ne]; exact hlen
  have hb2 : ((l.length : Int) != (m.length : Int)) = true := by rw [bne_iff_ne]; omega
  clear hlen
  go_enter Tryz.func15, Tryz.ntmps15
  go_wp2
  go_ret
  exact ⟨ret_bool HE.out.symm, by go_grown⟩
theorem range_ev2 {w : World} {b o : Nat} {x : Rec} {a : Option Addr} {cap : Nat} (h : w.rangeAt b o (recCells x a cap)) : w.rangeAt b (o + 2) (evCells x.e a cap) := fun j v hv => by
 have := h (j + 2) v hv
 rwa [Nat.add_assoc, Nat.add_comm 2 j]
theorem Tryz.infoRec2 : (Tryz.prog.info? 41).map (fun i => (i.zero, i.size, i.bytes)) = some (some (.agg (recCells rec0 none 0).toArray), 21, 192) := by kernel_rfl
def RetRows (t : TypeId) (ls : List RecIt) (w : World) (e : Ending) (w' : World) : Prop := ∃ v, e = .returned v ∧ w'.ownsRow w.heap.size t 21 v ls.length (itCells ls) ∧ Below w.heap.size w w'
theorem itCells_take (l : List RecIt) (k : Nat) (h : k < l.length) : itCells (l.take k) ++ recCells l[k].1 l[k].2.1 l[k].2.2 = itCells (l.take (k + 1)) := by
 rw [List.take_succ_eq_append_getElem h, itCells_snoc]
theorem Back_any (a : Option Addr) (cap : Nat) (l : List RecIt) (w : World) (hl : l.length ≤ 1073741824) (h : RecsIn w a l) :
 Calls Tryz.prog 14 #[.slice a l.length cap] w (RetRows 41 l w) := by
 obtain ⟨i0, hi, hz0, hz1, hz2⟩ := info_parts Tryz.infoRec2
 go_enter Tryz.func14, Tryz.ntmps14
 go_wp2
 have hown0 : (w.alloc (Obj.cells #[] 41)).ownsRow w.heap.size 41 21 (.slice (some ⟨w.heap.size, 0, none⟩) 0 0) ([] : List RecIt).length (itCells []) := World.ownsRow_made _ _ _ (Nat.le_refl _) (by decide) rfl
 have hb0 : Below w.heap.size w (w.alloc (Obj.cells #[] 41)) := (Below.refl _ _).alloc (Nat.le_refl _) _
 go_loopw [3, 4] (fun out i wr => ∃ k : Nat, i = .int .i64 k ∧ k ≤ l.length ∧ wr.ownsRow w.heap.size 41 21 out k (itCells (l.take k)) ∧ Below w.heap.size w wr) (fun _ i _ => l.length - (intOf i).toNat)
 case atStart => exact ⟨0, rfl, Nat.zero_le _, hown0, hb0⟩
 case round =>
  obtain ⟨k, rfl, hk, hown, hbw⟩ := hrel
  have hzw := hbw.size
  by_cases hlt : k < l.length
  ·obtain ⟨A, off, rfl, hra, hda⟩ := (h.kept hbw).at hlt
   have r1 := hra k hlt
   have HT := Lib.hid (itCells_take l k hlt)
   clear hra hda
   generalize l[k] = x at r1 HT
   obtain ⟨e, ax, cx⟩ := x
   simp only at r1 HT
   go_wp2_with (first
        | ((with_reducible refine wpList_load_to 44 _ A (off + k * 21) (recCells e ax cx) (recVal e ax cx) rfl _ Tryz.underlying44 rfl (by kernel_rfl) r1 ?_ rfl ?_); exact rfl)
        | (refine wpList_buildOne rfl 22 41 _ rfl (recCells e ax cx).toArray 21 rfl rfl (by decide) (by decide) Tryz.underlying22 (by kernel_rfl) (by kernel_rfl) ?_)
        | (at_builtin; go_loud (refine wpList_append_own _ rfl _ _ 22 rfl w.heap.size 41 i0 (.agg (recCells rec0 none 0).toArray) 21 192 Tryz.underlying22 hi hz0 hz1 hz2 rfl (by decide) _ _ _ rfl (hown.alloc _) ⟨wr.heap.size, 0, none⟩ 1 1 (recCells e ax cx) rfl rfl (recs_new wr e ax cx _) (recCells_one _ _ _) (by unfold maxLen; omega) (by omega) (by simp; omega) ?_); intro v' w2 hown3 hgrow _))
   have hb3 := (hbw.alloc hzw (Obj.cells (recCells e ax cx).toArray 41)).grown hgrow (by simp; omega) (fun k hk => (hown.lt k hk).1)
   rw [HT.out] at hown3
   go_roundw
   case rel => exact ⟨k + 1, by go_num, by omega, hown3, hb3⟩
   case measure => simp [intOf] <;> omega
  ·have hke : k = l.length := by omega
   subst hke
   rw [List.take_length] at hown
   go_wp2
   go_ret
   exact ⟨_, rfl, hown, hbw⟩
def okIt (x : RecIt) : Bool := recOk x.1
/-- where each ends -/
def endsN (rs : List Rec) (i : Nat) : Nat := (linesB (rs.take i)).length
def endVals (rs : List Rec) : List Value := (List.range (rs.length + 1)).map fun i => .int .i64 ((endsN rs i : Nat) : Int)
theorem linesB_len (rs : List Rec) (h : ∀ x ∈ rs, recOk x = true) : (linesB rs).length ≤ rs.length * 8226 := by
 induction rs with
 | nil => simp [linesB]
 | cons x r ih =>
   have e : linesB (x :: r) = recLine x ++ linesB r := List.flatMap_cons
   have h1 := recLine_len (h x (by simp))
   have h2 := ih (fun y hy => h y (by simp [hy]))
   rw [e, List.length_append, List.length_cons]; omega
/-- through the loop over the records: rs those that may be -/
structure LinesInv (w0 W : World) (va vr ve : Value) (rs : List RecIt) : Prop where
 all : W.ownsRow w0.heap.size 5 1 va (linesB (recsOf rs)).length (byteVals (linesB (recsOf rs)))
 right : W.ownsRow w0.heap.size 41 21 vr rs.length (itCells rs)
 ends : W.ownsRow w0.heap.size 3 1 ve (rs.length + 1) (endVals (recsOf rs))
 bel : Below w0.heap.size w0 W
theorem LinesInv.step {w0 W W' : World} {va vr ve : Value} {rs : List RecIt} (h : LinesInv w0 W va vr ve rs) (hb : Below W.heap.size W W') : LinesInv w0 W' va vr ve rs :=
 ⟨ownsRow_below h.all hb, ownsRow_below h.right hb, ownsRow_below h.ends hb, h.bel.trans (hb.mono h.bel.size)⟩
theorem recsOf_snoc (rs : List RecIt) (x : RecIt) : recsOf (rs ++ [x]) = recsOf rs ++ [x.1] := by simp [recsOf]
theorem filter_take_ok {l : List RecIt} {k : Nat} (h : k < l.length) (ho : okIt l[k] = true) : (l.take (k + 1)).filter okIt = (l.take k).filter okIt ++ [l[k]] := by
 rw [List.take_succ_eq_append_getElem h, List.filter_append]; simp [ho]
theorem filter_take_no {l : List RecIt} {k : Nat} (h : k < l.length) (ho : okIt l[k] = false) : (l.take (k + 1)).filter okIt = (l.take k).filter okIt := by
 rw [List.take_succ_eq_append_getElem h, List.filter_append]; simp [ho]
theorem filter_ok (l : List RecIt) : ∀ x ∈ recsOf (l.filter okIt), recOk x = true := by
 intro x hx
 simp only [recsOf, List.mem_map] at hx
 obtain ⟨y, hy, rfl⟩ := hx
 exact (List.mem_filter.1 hy).2
end Go.Proofs.YtlefejokpdjpgaaGreat
