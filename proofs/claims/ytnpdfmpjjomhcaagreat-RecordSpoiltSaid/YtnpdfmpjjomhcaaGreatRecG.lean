/- Lists of records: are they the same, are they light, copied, their lines. Conditions: at most 2^30 records. -/
import Derived.Test.YtnpdfmpjjomhcaaGreatRecP
set_option linter.unusedSimpArgs false
set_option linter.unusedVariables false
set_option linter.unnecessarySimpa false
namespace Go.Proofs.YtnpdfmpjjomhcaaGreat
open Go.RowKit

def recsOf (ls : List RecIt) : List Rec := ls.map (·.1)
theorem recsOf_length (ls : List RecIt) : (recsOf ls).length = ls.length := by simp [recsOf]
theorem recsOf_at {ls : List RecIt} {k : Nat} (h : k < ls.length) : (recsOf ls)[k]'(by rw [recsOf_length]; exact h) = ls[k].1 := by simp [recsOf]
theorem recsIn_own {w : World} {base : Nat} {t : TypeId} {v : Value} {ls : List RecIt} (h : w.ownsRow base t 21 v ls.length (itCells ls)) (hd : ∀ x ∈ ls, DotsIn w x.2.1 x.1.e.over) : ∃ a cap, v = .slice a ls.length cap ∧ RecsIn w a ls ∧ ls.length ≤ cap := by
  rcases h.2 with ⟨rfl, hn⟩ | ⟨g, cap, cur, hv, _, _, hc, _⟩
  · have : ls = [] := List.length_eq_zero_iff.1 hn
    subst this
    exact ⟨none, 0, rfl, ⟨Or.inl rfl, hd⟩, Nat.le_refl _⟩
  · refine ⟨some ⟨g, 0, none⟩, cap, hv, ⟨Or.inr ⟨g, 0, rfl, fun i hi j u hu => ?_⟩, hd⟩, hc⟩
    have := World.ownsRow.cells (g := g) h (by rw [hv]; rfl) (i * 21 + j) u (itCells_at ls i j u hi hu)
    rw [Addr.add_mid, Nat.zero_add] at this
    rwa [Nat.zero_add]
set_option maxRecDepth 100000 in
set_option maxHeartbeats 2000000 in
theorem rSameRecs_any (a b : Option Addr) (ca cb : Nat) (l m : List RecIt) (w : World) (hl : l.length ≤ 1073741824) (hm : m.length ≤ 1073741824) (hsl : ∀ x ∈ l, x.1.e.over.length ≤ 1073741824) (hsm : ∀ x ∈ m, x.1.e.over.length ≤ 1073741824) (ha : RecsIn w a l) (hb : RecsIn w b m) :
    Calls Tryz.prog 24 #[.slice a l.length ca, .slice b m.length cb] w fun x w' => x = .returned (.bool (decide (recsOf l = recsOf m))) ∧ Below w.heap.size w w' := by
  by_cases hlen : l.length = m.length
  · have hb1 : ((l.length : Nat) != (m.length : Nat)) = false := by rw [bne_eq_false_iff_eq]; exact hlen
    have hb2 : ((l.length : Int) != (m.length : Int)) = false := by rw [bne_eq_false_iff_eq]; omega
    have hl1 : l.length ≤ m.length := by omega
    have hl2 : m.length ≤ l.length := by omega
    clear hlen
    go_enter Tryz.func24, Tryz.ntmps24
    go_wp2
    go_loopw [5] (fun i wr => ∃ k : Nat, k ≤ l.length ∧ i = .int .i64 k ∧ (recsOf l).take k = (recsOf m).take k ∧ Below w.heap.size w wr) (fun i _ => l.length - (intOf i).toNat)
    case atStart => exact ⟨0, Nat.zero_le _, rfl, rfl, by go_grown⟩
    case round =>
      obtain ⟨k, hk, rfl, hpre, hbw⟩ := hrel
      have HP := Lib.hid hpre
      clear hpre
      have hzw := hbw.size
      by_cases hlt : k < l.length
      · have hlm : k < m.length := by omega
        obtain ⟨A, off, rfl, hra, hda⟩ := (ha.kept hbw).at hlt
        obtain ⟨B, ofb, rfl, hrb, hdb⟩ := (hb.kept hbw).at hlm
        have r1 := hra k hlt
        have r2 := hrb k hlm
        have s1 := hsl _ (List.getElem_mem hlt)
        have s2 := hsm _ (List.getElem_mem hlm)
        have g1 := @recsOf_at l k hlt
        have g2 := @recsOf_at m k hlm
        have HN := fun he : l[k].1 = m[k].1 => take_next (k := k) (by rw [recsOf_length]; exact hlt) (by rw [recsOf_length]; exact hlm) HP.out (by rw [g1, g2]; exact he)
        have HD := fun he : ¬ l[k].1 = m[k].1 => decide_eq_false (take_ne (k := k) (l := recsOf l) (m := recsOf m) (by rw [recsOf_length]; exact hlt) (by rw [recsOf_length]; exact hlm) (by rw [g1, g2]; exact he))
        clear hra hrb g1 g2 HP
        generalize l[k] = x at *
        generalize m[k] = y at *
        obtain ⟨e, ax, cx⟩ := x
        obtain ⟨f, ay, cy⟩ := y
        simp only at *
        have hS0 := fun (W : World) (h1 : DotsIn W ax e.e.over) (h2 : DotsIn W ay f.e.over) => rRecSame_any e f ax ay cx cy W s1 s2 h1 h2
        by_cases he : e = f
        · have HE := Lib.hid (HN he)
          rw [decide_eq_true he] at hS0
          have HS := Lib.hid hS0
          clear hS0 he HN HD
          go_upto_region 6 with fail
          refine wp_region_after (by kernel_rfl) (by kernel_rfl) (fun W2 hW2 => ?_)
          have R1 : W2.rangeAt A (off + k * 21) (recCells e ax cx) := by rw [hW2.out]; exact r1
          have R2 : W2.rangeAt B (ofb + k * 21) (recCells f ay cy) := by rw [hW2.out]; exact r2
          have D1 : ∀ i : After W2, DotsIn i.w ax e.e.over := fun i => (show DotsIn W2 ax e.e.over by rw [hW2.out]; exact hda).kept i.h
          have D2 : ∀ i : After W2, DotsIn i.w ay f.e.over := fun i => (show DotsIn W2 ay f.e.over by rw [hW2.out]; exact hdb).kept i.h
          go_big_quiet_step (fail)
          go_big_quiet_step (fail)
          go_big_quiet_step (fail)
          ((with_reducible refine wpQuiet_load_to 66 _ A (off + k * 21) (recCells e ax cx) (recVal e ax cx) rfl _ Tryz.underlying66 rfl (by kernel_rfl) R1 ?_ rfl ?_); exact rfl; go_simp)
          go_big_quiet_step (fail)
          go_big_quiet_step (fail)
          go_big_quiet_step (fail)
          ((with_reducible refine wpQuiet_load_to 66 _ B (ofb + k * 21) (recCells f ay cy) (recVal f ay cy) rfl _ Tryz.underlying66 rfl (by kernel_rfl) R2 ?_ rfl ?_); exact rfl; go_simp)
          go_big_quiet_step (exact Calls.after (HS.out _ (D1 _) (D2 _)))
          go_big_quiet_step (fail)
          refine wpQuiet_nil ?_
          first | (intro _ hi; obtain ⟨i, rfl⟩ := hi) | intro i
          have hib := i.h
          clear D1 D2 R1 R2
          generalize i.w = wi at hib ⊢
          rw [hW2.out] at hib
          go_wp2
          go_roundw
          case rel => exact ⟨k + 1, by omega, by go_num, HE.out, hbw.trans (hib.mono hzw)⟩
          case measure => simp [intOf] <;> omega
        · have HE := Lib.hid (HD he)
          rw [decide_eq_false he] at hS0
          have HS := Lib.hid hS0
          clear hS0 he HN HD
          go_upto_region 6 with fail
          refine wp_region_after (by kernel_rfl) (by kernel_rfl) (fun W2 hW2 => ?_)
          have R1 : W2.rangeAt A (off + k * 21) (recCells e ax cx) := by rw [hW2.out]; exact r1
          have R2 : W2.rangeAt B (ofb + k * 21) (recCells f ay cy) := by rw [hW2.out]; exact r2
          have D1 : ∀ i : After W2, DotsIn i.w ax e.e.over := fun i => (show DotsIn W2 ax e.e.over by rw [hW2.out]; exact hda).kept i.h
          have D2 : ∀ i : After W2, DotsIn i.w ay f.e.over := fun i => (show DotsIn W2 ay f.e.over by rw [hW2.out]; exact hdb).kept i.h
          go_big_quiet_step (fail)
          go_big_quiet_step (fail)
          go_big_quiet_step (fail)
          ((with_reducible refine wpQuiet_load_to 66 _ A (off + k * 21) (recCells e ax cx) (recVal e ax cx) rfl _ Tryz.underlying66 rfl (by kernel_rfl) R1 ?_ rfl ?_); exact rfl; go_simp)
          go_big_quiet_step (fail)
          go_big_quiet_step (fail)
          go_big_quiet_step (fail)
          ((with_reducible refine wpQuiet_load_to 66 _ B (ofb + k * 21) (recCells f ay cy) (recVal f ay cy) rfl _ Tryz.underlying66 rfl (by kernel_rfl) R2 ?_ rfl ?_); exact rfl; go_simp)
          go_big_quiet_step (exact Calls.after (HS.out _ (D1 _) (D2 _)))
          go_big_quiet_step (fail)
          refine wpQuiet_nil ?_
          first | (intro _ hi; obtain ⟨i, rfl⟩ := hi) | intro i
          have hib := i.h
          clear D1 D2 R1 R2
          generalize i.w = wi at hib ⊢
          rw [hW2.out] at hib
          go_wp2
          go_ret
          exact ⟨ret_bool HE.out.symm, hbw.trans (hib.mono hzw)⟩
      · have hlm : ¬ k < m.length := by omega
        have HE : Hid (decide (recsOf l = recsOf m) = true) := decide_eq_true (take_all (k := k) (by rw [recsOf_length]; exact hlt) (by rw [recsOf_length]; exact hlm) HP.out)
        go_wp2
        go_ret
        exact ⟨ret_bool HE.out.symm, hbw⟩
  · have HE : Hid (decide (recsOf l = recsOf m) = false) := decide_eq_false (len_ne (by rw [recsOf_length, recsOf_length]; exact hlen))
    have hb1 : ((l.length : Nat) != (m.length : Nat)) = true := by rw [bne_iff_ne]; exact hlen
    have hb2 : ((l.length : Int) != (m.length : Int)) = true := by rw [bne_iff_ne]; omega
    clear hlen
    go_enter Tryz.func24, Tryz.ntmps24
    go_wp2
    go_ret
    exact ⟨ret_bool HE.out.symm, by go_grown⟩

theorem range_ev2 {w : World} {b o : Nat} {x : Rec} {a : Option Addr} {cap : Nat} (h : w.rangeAt b o (recCells x a cap)) : w.rangeAt b (o + 2) (evCells x.e a cap) := fun j v hv => by
  have := h (j + 2) v hv
  rwa [Nat.add_assoc, Nat.add_comm 2 j]
/-- few and short -/
def rlight (ls : List Rec) : Bool := decide (ls.length ≤ 12) && ls.all fun x => light x.e
set_option maxRecDepth 100000 in
set_option maxHeartbeats 2000000 in
theorem rlight_any (a : Option Addr) (cap : Nat) (l : List RecIt) (w : World) (h : RecsArg w a l) :
    Calls Tryz.prog 20 #[.slice a l.length cap] w fun x w' => x = .returned (.bool (rlight (recsOf l))) ∧ Below w.heap.size w w' := by
  have hl := h.len
  unfold maxLen at hl
  by_cases hle : l.length ≤ 12
  · have hdn : decide (12 < l.length) = false := decide_eq_false (by omega)
    have hdi : decide ((12 : Int) < (l.length : Int)) = false := decide_eq_false (by omega)
    have HV : Hid (rlight (recsOf l) = (recsOf l).all fun x => light x.e) := by unfold Hid rlight; rw [recsOf_length, decide_eq_true hle]; rfl
    go_enter Tryz.func20, Tryz.ntmps20
    go_wp2
    go_loopw [3] (fun i wr => ∃ k : Nat, k ≤ l.length ∧ i = .int .i64 k ∧ rlight (recsOf l) = ((recsOf l).drop k).all (fun x => light x.e) ∧ Below w.heap.size w wr) (fun i _ => l.length - (intOf i).toNat)
    case atStart => exact ⟨0, Nat.zero_le _, rfl, HV.out, Below.refl _ _⟩
    case round =>
      obtain ⟨k, hk, rfl, hpre, hbw⟩ := hrel
      have HP := Lib.hid hpre
      clear hpre HV
      have hzw := hbw.size
      by_cases hlt : k < l.length
      · obtain ⟨A, off, rfl, hra, hda⟩ := (h.recs.kept hbw).at hlt
        have r1 := range_ev2 (hra k hlt)
        have g1 := @recsOf_at l k hlt
        have hd : (recsOf l).drop k = l[k].1 :: (recsOf l).drop (k + 1) := by rw [List.drop_eq_getElem_cons (by rw [recsOf_length]; exact hlt), g1]
        have hE := h.each _ (List.getElem_mem hlt)
        have HT : Hid (rlight (recsOf l) = (light l[k].1.e && ((recsOf l).drop (k + 1)).all (fun x => light x.e))) := by rw [Hid, HP.out, hd, List.all_cons]
        clear hra g1 hd HP hda
        generalize l[k] = x at *
        obtain ⟨e, ax, cx⟩ := x
        simp only at *
        have hL0 := fun (W : World) => Light_any e.e ax cx W hE.over hE.name hE.domain hE.path hE.value
        cases hli : light e.e with
        | true =>
          have HE : Hid (rlight (recsOf l) = ((recsOf l).drop (k + 1)).all fun x => light x.e) := by rw [Hid, HT.out, hli]; rfl
          rw [hli] at hL0
          have HL := Lib.hid hL0
          clear hL0 HT hli hE
          go_wp2_with (first
            | ((with_reducible refine wpList_load_evo _ A (off + k * 21 + 2) e.e ax cx r1 ?_ rfl ?_); exact rfl)
            | (go_at_call 10; (with_reducible refine (HL.out _).mono ?_); rintro v w1 ⟨rfl, hb⟩))
          go_roundw
          case rel => exact ⟨k + 1, by omega, by go_num, HE.out, hbw.trans (hb.mono hzw)⟩
          case measure => simp [intOf] <;> omega
        | false =>
          have HE : Hid (rlight (recsOf l) = false) := by rw [Hid, HT.out, hli]; rfl
          rw [hli] at hL0
          have HL := Lib.hid hL0
          clear hL0 HT hli hE
          go_wp2_with (first
            | ((with_reducible refine wpList_load_evo _ A (off + k * 21 + 2) e.e ax cx r1 ?_ rfl ?_); exact rfl)
            | (go_at_call 10; (with_reducible refine (HL.out _).mono ?_); rintro v w1 ⟨rfl, hb⟩))
          go_ret
          exact ⟨ret_bool HE.out.symm, hbw.trans (hb.mono hzw)⟩
      · have HE : Hid (rlight (recsOf l) = true) := by rw [Hid, HP.out, List.drop_eq_nil_of_le (by rw [recsOf_length]; omega)]; rfl
        go_wp2
        go_ret
        exact ⟨ret_bool HE.out.symm, hbw⟩
  · have hdn : decide (12 < l.length) = true := decide_eq_true (by omega)
    have hdi : decide ((12 : Int) < (l.length : Int)) = true := decide_eq_true (by omega)
    have HE : Hid (rlight (recsOf l) = false) := by unfold Hid rlight; rw [recsOf_length, decide_eq_false hle]; rfl
    go_enter Tryz.func20, Tryz.ntmps20
    go_wp2
    go_ret
    exact ⟨ret_bool HE.out.symm, by go_grown⟩

theorem Tryz.infoRec2 : (Tryz.prog.info? 66).map (fun i => (i.zero, i.size, i.bytes)) = some (some (.agg (recCells rec0 none 0).toArray), 21, 192) := by kernel_rfl
def RetRows (t : TypeId) (ls : List RecIt) (w : World) (e : Ending) (w' : World) : Prop := ∃ v, e = .returned v ∧ w'.ownsRow w.heap.size t 21 v ls.length (itCells ls) ∧ Below w.heap.size w w'
theorem itCells_take (l : List RecIt) (k : Nat) (h : k < l.length) : itCells (l.take k) ++ recCells l[k].1 l[k].2.1 l[k].2.2 = itCells (l.take (k + 1)) := by
  rw [List.take_succ_eq_append_getElem h, itCells_snoc]
set_option maxRecDepth 100000 in
set_option maxHeartbeats 2000000 in
theorem Back_any (a : Option Addr) (cap : Nat) (l : List RecIt) (w : World) (hl : l.length ≤ 1073741824) (h : RecsIn w a l) :
    Calls Tryz.prog 25 #[.slice a l.length cap] w (RetRows 66 l w) := by
  obtain ⟨i0, hi, hz0, hz1, hz2⟩ := info_parts Tryz.infoRec2
  go_enter Tryz.func25, Tryz.ntmps25
  go_wp2
  have hown0 : (w.alloc (Obj.cells #[] 66)).ownsRow w.heap.size 66 21 (.slice (some ⟨w.heap.size, 0, none⟩) 0 0) ([] : List RecIt).length (itCells []) := World.ownsRow_made _ _ _ (Nat.le_refl _) (by decide) rfl
  have hb0 : Below w.heap.size w (w.alloc (Obj.cells #[] 66)) := (Below.refl _ _).alloc (Nat.le_refl _) _
  go_loopw [3, 4] (fun out i wr => ∃ k : Nat, i = .int .i64 k ∧ k ≤ l.length ∧ wr.ownsRow w.heap.size 66 21 out k (itCells (l.take k)) ∧ Below w.heap.size w wr) (fun _ i _ => l.length - (intOf i).toNat)
  case atStart => exact ⟨0, rfl, Nat.zero_le _, hown0, hb0⟩
  case round =>
    obtain ⟨k, rfl, hk, hown, hbw⟩ := hrel
    have hzw := hbw.size
    by_cases hlt : k < l.length
    · obtain ⟨A, off, rfl, hra, hda⟩ := (h.kept hbw).at hlt
      have r1 := hra k hlt
      have HT := Lib.hid (itCells_take l k hlt)
      clear hra hda
      generalize l[k] = x at r1 HT
      obtain ⟨e, ax, cx⟩ := x
      simp only at r1 HT
      go_wp2_with (first
        | ((with_reducible refine wpList_load_to 68 _ A (off + k * 21) (recCells e ax cx) (recVal e ax cx) rfl _ Tryz.underlying68 rfl (by kernel_rfl) r1 ?_ rfl ?_); exact rfl)
        | (refine wpList_buildOne rfl 51 66 _ rfl (recCells e ax cx).toArray 21 rfl rfl (by decide) (by decide) Tryz.underlying51 (by kernel_rfl) (by kernel_rfl) ?_)
        | (at_builtin; go_loud (refine wpList_append_own _ rfl _ _ 51 rfl w.heap.size 66 i0 (.agg (recCells rec0 none 0).toArray) 21 192 Tryz.underlying51 hi hz0 hz1 hz2 rfl (by decide) _ _ _ rfl (hown.alloc _) ⟨wr.heap.size, 0, none⟩ 1 1 (recCells e ax cx) rfl rfl (recs_new wr e ax cx _) (recCells_one _ _ _) (by unfold maxLen; omega) (by omega) (by simp; omega) ?_); intro v' w2 hown3 hgrow _))
      have hb3 := (hbw.alloc hzw (Obj.cells (recCells e ax cx).toArray 66)).grown hgrow (by simp; omega) (fun k hk => (hown.lt k hk).1)
      rw [HT.out] at hown3
      go_roundw
      case rel => exact ⟨k + 1, by go_num, by omega, hown3, hb3⟩
      case measure => simp [intOf] <;> omega
    · have hke : k = l.length := by omega
      subst hke
      rw [List.take_length] at hown
      go_wp2
      go_ret
      exact ⟨_, rfl, hown, hbw⟩
end Go.Proofs.YtnpdfmpjjomhcaaGreat

/- The lines of records that may be, one behind the other. Conditions: few records, short. -/
namespace Go.Proofs.YtnpdfmpjjomhcaaGreat
open Go.RowKit

def okIt (x : RecIt) : Bool := recOk x.1
/-- where each ends -/
def endsN (rs : List Rec) (i : Nat) : Nat := (linesB (rs.take i)).length
def endVals (rs : List Rec) : List Value := (List.range (rs.length + 1)).map fun i => .int .i64 ((endsN rs i : Nat) : Int)
theorem endVals_length (rs : List Rec) : (endVals rs).length = rs.length + 1 := by simp [endVals]
theorem endVals_snoc (rs : List Rec) (x : Rec) : endVals (rs ++ [x]) = endVals rs ++ [.int .i64 (((linesB (rs ++ [x])).length : Nat) : Int)] := by
  unfold endVals
  rw [List.length_append, List.length_singleton, List.range_succ, List.map_append]
  congr 1
  · apply List.map_congr_left
    intro i hi
    have hi' : i ≤ rs.length := by have := List.mem_range.1 hi; omega
    unfold endsN
    rw [List.take_append_of_le_length hi']
  · simp only [endsN, List.map_cons, List.map_nil]
    rw [List.take_of_length_le (by simp)]
theorem endVals_at (rs : List Rec) (i : Nat) (h : i ≤ rs.length) : (endVals rs)[i]? = some (.int .i64 ((endsN rs i : Nat) : Int)) := by
  unfold endVals
  rw [List.getElem?_map, List.getElem?_range (by omega)]; rfl
theorem linesB_len (rs : List Rec) (h : ∀ x ∈ rs, recOk x = true) : (linesB rs).length ≤ rs.length * 8226 := by
  induction rs with
  | nil => simp [linesB]
  | cons x r ih =>
    have e : linesB (x :: r) = recLine x ++ linesB r := List.flatMap_cons
    have h1 := recLine_len (h x (by simp))
    have h2 := ih (fun y hy => h y (by simp [hy]))
    rw [e, List.length_append, List.length_cons]; omega
/-- through the loop over the records: rs those that may be -/
structure LinesInv (w0 W : World) (va vr ve : Value) (rs : List RecIt) : Prop where
  all : W.ownsRow w0.heap.size 5 1 va (linesB (recsOf rs)).length (byteVals (linesB (recsOf rs)))
  right : W.ownsRow w0.heap.size 66 21 vr rs.length (itCells rs)
  ends : W.ownsRow w0.heap.size 3 1 ve (rs.length + 1) (endVals (recsOf rs))
  bel : Below w0.heap.size w0 W
theorem LinesInv.step {w0 W W' : World} {va vr ve : Value} {rs : List RecIt} (h : LinesInv w0 W va vr ve rs) (hb : Below W.heap.size W W') : LinesInv w0 W' va vr ve rs :=
  ⟨ownsRow_below h.all hb, ownsRow_below h.right hb, ownsRow_below h.ends hb, h.bel.trans (hb.mono h.bel.size)⟩
theorem recsOf_snoc (rs : List RecIt) (x : RecIt) : recsOf (rs ++ [x]) = recsOf rs ++ [x.1] := by simp [recsOf]
theorem Tryz.infoInt : (Tryz.prog.info? 3).map (fun i => (i.zero, i.size, i.bytes)) = some (some (.int .i64 0), 1, 8) := by kernel_rfl
def RetLines (rs : List RecIt) (w : World) (e : Ending) (w' : World) : Prop := ∃ va vr ve, e = .returned (.tuple #[va, vr, ve]) ∧ LinesInv w w' va vr ve rs
theorem filter_take_ok {l : List RecIt} {k : Nat} (h : k < l.length) (ho : okIt l[k] = true) : (l.take (k + 1)).filter okIt = (l.take k).filter okIt ++ [l[k]] := by
  rw [List.take_succ_eq_append_getElem h, List.filter_append]; simp [ho]
theorem filter_take_no {l : List RecIt} {k : Nat} (h : k < l.length) (ho : okIt l[k] = false) : (l.take (k + 1)).filter okIt = (l.take k).filter okIt := by
  rw [List.take_succ_eq_append_getElem h, List.filter_append]; simp [ho]
theorem filter_ok (l : List RecIt) : ∀ x ∈ recsOf (l.filter okIt), recOk x = true := by
  intro x hx
  simp only [recsOf, List.mem_map] at hx
  obtain ⟨y, hy, rfl⟩ := hx
  exact (List.mem_filter.1 hy).2
set_option maxRecDepth 100000 in
set_option maxHeartbeats 4000000 in
theorem lines_any (a : Option Addr) (cap : Nat) (l : List RecIt) (w : World) (hl : l.length ≤ 12) (hs : ∀ x ∈ l, EvSmall x.1.e) (h : RecsIn w a l) :
    Calls Tryz.prog 22 #[.slice a l.length cap] w (RetLines (l.filter okIt) w) := by
  obtain ⟨i0, hi, hz0, hz1, hz2⟩ := info_parts Tryz.infoRec2
  obtain ⟨j0, hj, hy0, hy1, hy2⟩ := info_parts Tryz.infoInt
  go_enter Tryz.func22, Tryz.ntmps22
  go_upto_block 0 with fail
  refine wp_name (fun W0 hW0 => ?_)
  have hb1 : Below w.heap.size w (w.alloc (Obj.cells #[] 5)) := (Below.refl _ _).alloc (Nat.le_refl _) _
  have hb2 : Below w.heap.size w ((w.alloc (Obj.cells #[] 5)).alloc (Obj.cells #[] 66)) := hb1.alloc (by simp) _
  have hinv0 : LinesInv w W0 (.slice (some ⟨w.heap.size, 0, none⟩) 0 0) (.slice (some ⟨w.heap.size + 1, 0, none⟩) 0 0) (.slice (some ⟨w.heap.size + 1 + 1, 0, none⟩) 1 1) [] := by
    rw [hW0.out]
    have o1 : (w.alloc (Obj.cells #[] 5)).ownsRow w.heap.size 5 1 (.slice (some ⟨w.heap.size, 0, none⟩) 0 0) ([] : Bytes).length (byteVals []) := World.ownsRow_made _ _ _ (Nat.le_refl _) (by decide) rfl
    have o2 : ((w.alloc (Obj.cells #[] 5)).alloc (Obj.cells #[] 66)).ownsRow w.heap.size 66 21 (.slice (some ⟨w.heap.size + 1, 0, none⟩) 0 0) ([] : List RecIt).length (itCells []) := by
      have := World.ownsRow_made (base := w.heap.size) (e := 66) (size := 21) (w.alloc (Obj.cells #[] 5)) #[] 0 (by simp) (by decide) rfl
      rw [show (w.alloc (Obj.cells #[] 5)).heap.size = w.heap.size + 1 from by simp] at this
      exact this
    refine ⟨(o1.alloc _).alloc _, o2.alloc _, ⟨rfl, Or.inr ⟨w.heap.size + 1 + 1, 1, #[.int .i64 0], rfl, by omega, ?_, Nat.le_refl _, by decide, rfl, rfl⟩⟩, hb2.alloc (by simp; omega) _⟩
    have := heap_alloc_new ((w.alloc (Obj.cells #[] 5)).alloc (Obj.cells #[] 66)) (Obj.cells #[.int .i64 0] 3)
    simpa using this
  clear hW0 hb1 hb2
  go_wp2
  go_loopw [5, 6, 7, 8] (fun va vr ve i wr => ∃ k : Nat, i = .int .i64 k ∧ k ≤ l.length ∧ LinesInv w wr va vr ve ((l.take k).filter okIt)) (fun _ _ _ i _ => l.length - (intOf i).toNat)
  case atStart => exact ⟨0, rfl, Nat.zero_le _, hinv0⟩
  case round =>
    obtain ⟨k, rfl, hk, hinv⟩ := hrel
    have hzw := hinv.bel.size
    by_cases hlt : k < l.length
    · obtain ⟨A, off, rfl, hra, hda0⟩ := h.at hlt
      have r0 := hra k hlt
      have hso := hs _ (List.getElem_mem hlt)
      have fok := filter_take_ok hlt
      have fno := filter_take_no hlt
      have hlen : ((l.take k).filter okIt).length ≤ 12 := by have := List.length_filter_le okIt (l.take k); simp at this; omega
      have hok := filter_ok (l.take k)
      have hll := linesB_len _ hok
      rw [recsOf_length] at hll
      clear hra hinv0
      generalize l[k] = x at r0 hso fok fno hda0
      generalize (l.take k).filter okIt = rs at hinv fok fno hlen hok hll
      obtain ⟨e, ax, cx⟩ := x
      simp only [okIt] at r0 hso fok fno hda0
      have hR0 := fun (W : World) (h : DotsIn W ax e.e.over) => rRecRight_any e ax cx W hso h
      cases ho : recOk e with
      | false =>
        rw [ho] at hR0
        have HR := Lib.hid hR0
        have HF := Lib.hid (fno ho)
        have r1 := rangeAt_kept r0 hinv.bel
        have hda := hda0.kept hinv.bel
        clear hR0 ho fok fno
        go_wp2_with (first
          | ((with_reducible refine wpList_load_to 66 _ A (off + k * 21) (recCells e ax cx) (recVal e ax cx) rfl _ Tryz.underlying66 rfl (by kernel_rfl) r1 ?_ rfl ?_); exact rfl)
          | (go_at_call 28; (with_reducible refine (HR.out _ hda).mono ?_); rintro v w1 ⟨rfl, hb⟩))
        go_roundw
        case rel => exact ⟨k + 1, by go_num, by omega, by rw [HF.out]; exact hinv.step hb⟩
        case measure => simp [intOf] <;> omega
      | true =>
        have hxl := recLine_len ho
        have hxn := recLine_ne e
        have HL := Lib.hid (fun (W : World) (h : DotsIn W ax e.e.over) => rRecLine_any e ax cx W ho h)
        rw [ho] at hR0
        have HR := Lib.hid hR0
        have HF := Lib.hid (fok ho)
        have HS1 := Lib.hid (recsOf_snoc rs (e, ax, cx))
        have HS2 := Lib.hid (linesB_snoc (recsOf rs) e)
        clear hR0 ho fok fno
        obtain ⟨LB, hLB⟩ : ∃ LB, LB = linesB (recsOf rs) := ⟨_, rfl⟩
        obtain ⟨LN, hLN⟩ : ∃ LN, LN = recLine e := ⟨_, rfl⟩
        obtain ⟨iall, iright, iends, ibel⟩ := hinv
        rw [← hLB] at iall hll
        rw [← hLN] at hxl hxn HL
        have hLBL : (LB ++ LN).length ≤ 200000 := by rw [List.length_append]; omega
        have HLB := Lib.hid hLB
        have HLN := Lib.hid hLN
        clear hLB hLN
        go_upto_region 9 with (first
          | ((with_reducible refine wpList_load_to 66 _ A (off + k * 21) (recCells e ax cx) (recVal e ax cx) rfl _ Tryz.underlying66 rfl (by kernel_rfl) (rangeAt_kept r0 ibel) ?_ rfl ?_); exact rfl)
          | (go_at_call 28; (with_reducible refine (HR.out _ (hda0.kept ibel)).mono ?_); rintro v w1 ⟨rfl, hb⟩; replace iall := ownsRow_below iall hb; replace iright := ownsRow_below iright hb; replace iends := ownsRow_below iends hb; replace ibel := ibel.trans (hb.mono hzw); replace hzw := Nat.le_trans hzw hb.size; clear hb)
          | (go_at_call 32; (with_reducible refine (HL.out _ (hda0.kept ibel)).mono ?_); rintro v w2 ⟨vl, rfl, hown, hb⟩; obtain ⟨al, cl, rfl, hinl⟩ := own_bytes hown; replace iall := ownsRow_below iall hb; replace iright := ownsRow_below iright hb; replace iends := ownsRow_below iends hb; replace ibel := ibel.trans (hb.mono hzw); replace hzw := Nat.le_trans hzw hb.size; clear hb hown)
          | (at_builtin; go_loud (refine wpList_append_bytes rfl _ _ rfl rfl w.heap.size _ LB rfl iall al LN cl rfl hinl (by omega) hzw ?_); intro va2 w3 iall2 hg))
        have ir2 : w3.ownsRow w.heap.size 66 21 _ rs.length (itCells rs) := World.ownsRow.kept iright hg (own_apart iright iall (by decide))
        have ie2 : w3.ownsRow w.heap.size 3 1 _ (rs.length + 1) (endVals (recsOf rs)) := World.ownsRow.kept iends hg (own_apart iends iall (by decide))
        have ib2 := ibel.grown hg hzw (fun k hk => (iall.lt k hk).1)
        obtain ⟨LL, hLL⟩ : ∃ LL, LL = LB ++ LN := ⟨_, rfl⟩
        rw [← hLL] at iall2 hLBL
        have HLL := Lib.hid hLL
        clear hLL
        obtain ⟨aa, ca, rfl, _⟩ := own_bytes iall2
        have hz3 := ib2.size
        clear iall iright iends ibel hg hinl
        go_upto_region 10 with (first
          | ((with_reducible refine wpList_load_to 66 _ A (off + k * 21) (recCells e ax cx) (recVal e ax cx) rfl _ Tryz.underlying66 rfl (by kernel_rfl) (rangeAt_kept r0 ib2) ?_ rfl ?_); exact rfl)
          | (refine wpList_buildOne rfl 51 66 _ rfl (recCells e ax cx).toArray 21 rfl rfl (by decide) (by decide) Tryz.underlying51 (by kernel_rfl) (by kernel_rfl) ?_)
          | (at_builtin; go_loud (refine wpList_append_own _ rfl _ _ 51 rfl w.heap.size 66 i0 (.agg (recCells rec0 none 0).toArray) 21 192 Tryz.underlying51 hi hz0 hz1 hz2 rfl (by decide) _ _ _ rfl (ir2.alloc _) ⟨w3.heap.size, 0, none⟩ 1 1 (recCells e ax cx) rfl rfl (recs_new w3 e ax cx _) (recCells_one _ _ _) (by unfold maxLen; omega) (by omega) (by simp; omega) ?_); intro vr2 w4 ir3 hg4 _))
        have ia3 := World.ownsRow.kept (iall2.alloc _) hg4 (own_apart iall2 ir2 (by decide))
        have ie3 := World.ownsRow.kept (ie2.alloc _) hg4 (own_apart ie2 ir2 (by decide))
        have ib4 := (ib2.alloc hz3 (Obj.cells (recCells e ax cx).toArray 66)).grown hg4 (by simp; omega) (fun k hk => (ir2.lt k hk).1)
        have hz4 := ib4.size
        clear iall2 ir2 ie2 hg4 ib2
        go_wp2_with (at_builtin; go_loud (refine wpList_append_own _ rfl _ _ 53 rfl w.heap.size 3 j0 (.int .i64 0) 1 8 Tryz.underlying53 hj hy0 hy1 hy2 rfl (by decide) _ _ _ rfl (ie3.alloc _) ⟨w4.heap.size, 0, none⟩ 1 1 [_] rfl rfl (cell_one_new _ _ _) (by simp [Value.oneCell']) (by unfold maxLen; omega) (by omega) (by simp; omega) ?_))
        intro ve2 w5 ie4 hg5 _
        have ia5 := World.ownsRow.kept (ia3.alloc _) hg5 (own_apart ia3 ie3 (by decide))
        have ir5 := World.ownsRow.kept (ir3.alloc _) hg5 (own_apart ir3 ie3 (by decide))
        have ib5 := (ib4.alloc hz4 (Obj.cells #[.int .i64 ((LL.length : Nat) : Int)] 3)).grown hg5 (by simp; omega) (fun k hk => (ie3.lt k hk).1)
        have e1 : linesB (recsOf (rs ++ [(e, ax, cx)])) = LL := by rw [HS1.out, HS2.out, HLL.out, HLB.out, HLN.out]
        have e2 : endVals (recsOf (rs ++ [(e, ax, cx)])) = endVals (recsOf rs) ++ [.int .i64 ((LL.length : Nat) : Int)] := by
          rw [HS1.out, endVals_snoc, HS2.out, HLL.out, HLB.out, HLN.out]
        have hinv5 : LinesInv w w5 (.slice aa LL.length ca) vr2 ve2 (rs ++ [(e, ax, cx)]) := by
          refine ⟨by rw [e1]; exact ia5, by rw [itCells_snoc, List.length_append]; exact ir5, ?_, ib5⟩
          rw [e2, List.length_append]
          exact ie4
        clear e1 e2
        go_wp2
        go_roundw
        case rel => exact ⟨k + 1, by go_num, by omega, by rw [HF.out]; exact hinv5⟩
        case measure => simp [intOf] <;> omega
    · have hke : k = l.length := by omega
      subst hke
      rw [List.take_length] at hinv
      go_wp2
      go_returns
      exact ⟨_, _, _, rfl, hinv⟩
end Go.Proofs.YtnpdfmpjjomhcaaGreat
