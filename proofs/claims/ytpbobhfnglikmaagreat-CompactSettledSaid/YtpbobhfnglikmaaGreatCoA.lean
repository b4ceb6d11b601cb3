/- compact's laws: the reference's Bare, lower. Conditions: as in the text. -/
import Derived.Test.YtpbobhfnglikmaaGreatComp
import Derived.Test.YtpbobhfnglikmaaGreatRefCo
import Derived.Test.YtpbobhfnglikmaaGreatIs
set_option linter.unusedSimpArgs false
set_option linter.unusedVariables false
set_option linter.unnecessarySimpa false
set_option maxHeartbeats 16000000
set_option maxRecDepth 100000
namespace Go.Proofs.YtpbobhfnglikmaaGreat
open Go.RowKit
theorem bare_take (ls : List EvIt) (k : Nat) (h : k < ls.length) : (ls.take (k + 1)).map bareIt = (ls.take k).map bareIt ++ [bareIt ls[k]] := by
 rw [List.take_add_one, List.getElem?_eq_getElem h, Option.toList_some, List.map_append]
 rfl
theorem evsOf_bare (ls : List EvIt) : evsOf (ls.map bareIt) = (evsOf ls).map bareEv := by
 unfold evsOf
 rw [List.map_map, List.map_map]
 rfl
theorem rBare23_any (a : Option Addr) (cap : Nat) (ls : List EvIt) (w : World) (hl : ls.length ≤ 4096) (hE : EvsIn w a ls) :
 Calls Tryz.prog 34 #[.slice a ls.length cap] w fun x w' => ∃ a' c', x = .returned (.slice a' (ls.map bareIt).length c') ∧ EvsIn w' a' (ls.map bareIt) ∧ Below w.heap.size w w' := by
 obtain ⟨i0, hiE, hz0, hz1, hz2⟩ := info_parts Tryz.infoEv
 go_enter Tryz.func34, Tryz.ntmps34
 go_wp2
 have hown0 : (w.alloc (Obj.cells #[] 43)).ownsRow w.heap.size 43 19 (.slice (some ⟨w.heap.size, 0, none⟩) 0 0) 0 [] := World.ownsRow_made _ _ _ (Nat.le_refl _) (by decide) rfl
 have hbM : Below w.heap.size w (w.alloc (Obj.cells #[] 43)) := (Below.refl _ _).alloc (Nat.le_refl _) _
 go_loopw [3, 4] (fun u i wr => ∃ k : Nat, i = .int .i64 k ∧ k ≤ ls.length ∧ wr.ownsRow w.heap.size 43 19 u ((ls.take k).map bareIt).length (evItCells ((ls.take k).map bareIt)) ∧ Below w.heap.size w wr) (fun _ i _ => ls.length - (intOf i).toNat)
 case atStart => exact ⟨0, rfl, Nat.zero_le _, hown0, hbM⟩
 case round =>
  obtain ⟨k, rfl, hk, hown, hB⟩ := hrel
  clear hown0 hbM
  have hzr := hB.size
  have hfl : ((ls.take k).map bareIt).length ≤ 4096 := by
   rw [List.length_map, List.length_take]
   omega
  obtain ⟨u, hu⟩ : ∃ u, u = u3 := ⟨_, rfl⟩
  rw [← hu] at hown ⊢
  clear hu
  by_cases hlt : k < ls.length
  ·obtain ⟨A, off, rfl, hra, _⟩ := (hE.kept hB).at hlt
   have r1 := hra k hlt
   have HS := Lib.hid (bare_take ls k hlt)
   have HLT := Lib.hid hlt
   have hkl : k ≤ 4096 := by omega
   generalize ls[k] = x at *
   obtain ⟨e, ax, cx⟩ := x
   simp only [itEv] at r1
   clear hra
   generalize (ls.take k).map bareIt = T at *
   go_upto_region 6 with (first
        | ((with_reducible refine wpList_load_evo _ A (off + k * 19) e ax cx r1 ?_ rfl ?_); exact rfl)
        | (refine wpList_store_new 43 _ _ _ (evCells e ax cx).toArray rfl rfl (by kernel_rfl) rfl (by kernel_rfl) ?_))
   refine wp_name (fun Wx hWx => ?_)
   have hbx : Below wr.heap.size wr Wx := by rw [hWx.out]; exact (Below.refl _ _).alloc (Nat.le_refl _) _
   have hRx : Wx.rangeAt wr.heap.size 0 (evCells e ax cx) := by rw [hWx.out]; exact evCells_box e ax cx wr _
   have hg9 : Wx.heap[wr.heap.size]? = some (.cells (evCells e ax cx).toArray 43 (0, 0)) := by rw [hWx.out]; exact heap_last0 _ _
   have hfz : Wx.frozen? ⟨wr.heap.size, 18, none⟩ = false := by simp [World.frozen?, hg9]
   have v18 : Wx.cell? ⟨wr.heap.size, 18, none⟩ = some (.slice ax e.over.length cx) := by have := hRx 18 _ rfl; rwa [Nat.zero_add] at this
   clear hWx r1 hg9
   go_upto_region 7 with fail
   refine wp_name (fun W6 hW6 => ?_)
   have hb6 : Below wr.heap.size wr W6 := by rw [hW6.out]; exact hbx.setCell (Nat.le_refl _) _
   have R5 : W6.rangeAt wr.heap.size 0 (evCells (bareEv e) none 0) := by rw [hW6.out]; exact range_bare hRx
   have hown5 := ownsRow_below hown hb6
   have hB6 := hB.trans (hb6.mono hzr)
   have hz6 := hB6.size
   have hv18 : W6.cell? ⟨wr.heap.size, 18, none⟩ = some (.slice none 0 0) := by have := R5 18 _ rfl; rwa [Nat.zero_add] at this
   clear hW6 hRx v18 hbx hown hB hfz
   obtain ⟨e9, he9⟩ : ∃ e9, e9 = bareEv e := ⟨_, rfl⟩
   rw [← he9] at R5
   have HB9 : Hid (bareIt (e, ax, cx) = (e9, none, 0)) := by unfold Hid; rw [he9]; rfl
   clear he9
   go_wp2_with (first
        | ((with_reducible refine wpList_load_evo _ wr.heap.size 0 e9 none 0 R5 ?_ rfl ?_); exact rfl)
        | (refine wpList_buildOne rfl 28 43 _ rfl (evCells e9 none 0).toArray 19 rfl rfl (by decide) (by decide) Tryz.underlying28 (by kernel_rfl) (by kernel_rfl) ?_)
        | (at_builtin; go_loud (refine wpList_append_own_at _ rfl _ _ 28 rfl w.heap.size 43 i0 (.agg (evCells ev0 none 0).toArray) 19 176 Tryz.underlying28 hiE hz0 hz1 hz2 rfl (by decide) _ _ _ rfl (hown5.alloc _) ⟨W6.heap.size, 0, none⟩ 1 1 (evCells e9 none 0) rfl rfl (evs_new W6 e9 none 0 _) (evCells_one _ _ _) (by unfold maxLen; omega) (by omega) (by simp; omega) ?_)))
   intro v' wf hownf hgrow _ hat
   have hal : Below W6.heap.size W6 (W6.alloc (Obj.cells (evCells e9 none 0).toArray 43)) := (Below.refl _ _).alloc (Nat.le_refl _) _
   have hbF : Below w.heap.size w wf := (hB6.trans (hal.mono hz6)).grown hgrow (by have := hal.size; omega) (fun j hj => (hown5.lt j hj).1)
   have HZ : Hid (wf.ownsRow w.heap.size 43 19 v' ((ls.take (k + 1)).map bareIt).length (evItCells ((ls.take (k + 1)).map bareIt)) ∧ Below w.heap.size w wf) := by
        refine ⟨?_, hbF⟩
        rw [HS.out, HB9.out, evItCells_snoc, List.length_append]
        exact hownf
   clear hownf hgrow hat hal hbF hown5 R5 hB6 hb6
   go_wp2
   go_roundw
   case rel => exact ⟨k + 1, by go_num, HLT.out, HZ.out.1, HZ.out.2⟩
   case measure => have := HLT.out; simp [intOf] <;> omega
  ·obtain rfl : k = ls.length := by omega
   rw [List.take_length] at hown
   obtain ⟨a2, c2, rfl, hF⟩ := evsIn_own hown (fun z hz => by
        obtain ⟨q, _, rfl⟩ := List.mem_map.1 hz
        exact Or.inl rfl)
   go_wp2
   go_ret
   exact ⟨a2, c2, rfl, hF, hB⟩
theorem lowM_any (a ac : Option Addr) (ca cc : Nat) (l : List Dot) (cut : Bytes) (w : World) (hl : l.length ≤ 4096) (hD : DotsIn w a l) (hok : ∀ d ∈ l, dotOk d = true) (hcl : cut.length ≤ maxLen) (hC : BytesIn w ac cut) :
 Calls Tryz.prog 30 #[.slice a l.length ca, .slice ac cut.length cc] w fun x w' => ∃ a' c', x = .returned (.slice a' (lowFrom cut 0 l).length c') ∧ DotsIn w' a' (lowFrom cut 0 l) ∧ Below w.heap.size w w' := by
 obtain ⟨i0, hi, hz0, hz1, hz2⟩ := info_parts Tryz.infoMark
 unfold maxLen at hcl
 have HOK := Lib.hid hok
 clear hok
 go_enter Tryz.func30, Tryz.ntmps30
 go_wp2
 have hown0 : (w.alloc (Obj.cells #[] 127)).ownsRow w.heap.size 127 3 (.slice (some ⟨w.heap.size, 0, none⟩) 0 0) 0 [] := World.ownsRow_made _ _ _ (Nat.le_refl _) (by decide) rfl
 have hbM : Below w.heap.size w (w.alloc (Obj.cells #[] 127)) := (Below.refl _ _).alloc (Nat.le_refl _) _
 go_loopw [5, 6] (fun u i wr => ∃ (k : Nat) (T : List Dot), i = .int .i64 k ∧ k ≤ l.length ∧ wr.ownsRow w.heap.size 127 3 u T.length (dotVals T) ∧ T.length ≤ k ∧ lowFrom cut 0 l = T ++ lowFrom cut k (l.drop k) ∧ Below w.heap.size w wr) (fun _ i _ => l.length - (intOf i).toNat)
 case atStart => exact ⟨0, [], rfl, Nat.zero_le _, hown0, Nat.le_refl _, rfl, hbM⟩
 case round =>
  obtain ⟨k, T, rfl, hk, hown, hTk, hP, hB⟩ := hrel
  clear hown0 hbM
  have HP := Lib.hid hP
  clear hP
  have hzr := hB.size
  obtain ⟨u, hu⟩ : ∃ u, u = u5 := ⟨_, rfl⟩
  rw [← hu] at hown ⊢
  clear hu
  by_cases hlt : k < l.length
  ·obtain ⟨A, off, rfl, c0, c1, c2⟩ := (hD.kept hB).at hlt
   have HS := Lib.hid (lowFrom_step cut l k k hlt T)
   have HLT := Lib.hid hlt
   have hdk := HOK.out _ (List.getElem_mem hlt)
   have hsq : 1 ≤ l[k].seq ∧ l[k].seq ≤ 4294967296 := by
        unfold dotOk at hdk
        simp only [Bool.and_eq_true, decide_eq_true_eq] at hdk
        exact hdk.2
   have hkl : k ≤ 4096 := by omega
   have hC1 := hC.kept hB
   have hcn := cutN_nat cut k
   generalize l[k] = d at *
   by_cases hck : k < cut.length
   ·obtain ⟨B, ob, rfl, hby⟩ : ∃ B ob, ac = some ⟨B, ob, none⟩ ∧ BytesAt wr B ob cut := by
     rcases hC1 with h0 | ⟨B, ob, h1, h2⟩
     ·rw [h0] at hck; simp at hck
     ·exact ⟨B, ob, h1, h2⟩
    have q := hby k hck
    have hcu : cutN cut k = ((cut[k].toNat % 5 : Nat) : Int) := by unfold cutN; rw [dif_pos hck]
    have hbt : cut[k].toNat < 256 := UInt8.toNat_lt _
    generalize cut[k] = c at *
    have hrm : ((c.toNat : Int)).tmod 5 = ((c.toNat % 5 : Nat) : Int) := rfl
    rw [hcu] at hcn HS
    generalize hm9 : c.toNat % 5 = m9 at *
    have hwm : IntKind.u8.wrap (m9 : Int) = (m9 : Int) := IntWalk.u8_in _ (by omega)
    have hwm6 : IntKind.i64.wrap (m9 : Int) = (m9 : Int) := IntWalk.i64_in _ (by omega)
    have hws : IntKind.i64.wrap (d.seq - (m9 : Int)) = d.seq - (m9 : Int) := IntWalk.i64_in _ (by omega)
    generalize hn : d.seq - (m9 : Int) = nn at *
    clear hby hC1 hcu hm9
    by_cases hp : 0 < nn
    ·rw [if_pos hp] at HS
     have hnn : decide (nn > 0) = true := decide_eq_true hp
     clear hp
     go_wp2_with (at_builtin; go_loud (refine wpList_append_own _ rfl _ _ 27 rfl w.heap.size 127 i0 (.agg #[.int .i64 0, .int .i64 0, .int .i64 0]) 3 24 Tryz.underlying27 hi hz0 hz1 hz2 rfl (by decide) _ _ _ rfl (hown.alloc _) ⟨wr.heap.size, 0, none⟩ 1 1 [.int .i64 d.a.dev, .int .i64 d.a.inc, .int .i64 nn] rfl rfl (cells_new _ _ _) (by simp [Value.oneCell']) (by unfold maxLen; omega) (by omega) (by simp; omega) ?_); intro v2 w4 hown4 hgrow _)
     have hal4 : Below wr.heap.size wr (wr.alloc (.cells #[.int .i64 d.a.dev, .int .i64 d.a.inc, .int .i64 nn] 127)) := (Below.refl _ _).alloc (Nat.le_refl _) _
     have HZ : Hid (w4.ownsRow w.heap.size 127 3 v2 (T ++ [(⟨d.a, nn⟩ : Dot)]).length (dotVals (T ++ [(⟨d.a, nn⟩ : Dot)])) ∧ (T ++ [(⟨d.a, nn⟩ : Dot)]).length ≤ k + 1 ∧ Below w.heap.size w w4) := by
      refine ⟨?_, by rw [List.length_append]; simp; omega, (hB.trans (hal4.mono hzr)).grown hgrow (Nat.le_trans hzr hal4.size) (fun j hj => (hown.lt j hj).1)⟩
      rw [dotVals_snoc, List.length_append]
      exact hown4
     clear hown4 hgrow hal4 hown hB
     go_wp2
     go_roundw
     case rel => exact ⟨k + 1, T ++ [(⟨d.a, nn⟩ : Dot)], by go_num, HLT.out, HZ.out.1, HZ.out.2.1, by rw [HP.out, HS.out], HZ.out.2.2⟩
     case measure => have := HLT.out; simp [intOf] <;> omega
    ·rw [if_neg hp] at HS
     have hnn : decide (nn > 0) = false := decide_eq_false hp
     have HZ := Lib.hid (And.intro hown hB)
     have HTK := Lib.hid hTk
     clear hp hown hB
     go_wp2
     go_roundw
     case rel => exact ⟨k + 1, T, by go_num, HLT.out, HZ.out.1, Nat.le_succ_of_le HTK.out, by rw [HP.out, HS.out], HZ.out.2⟩
     case measure => have := HLT.out; simp [intOf] <;> omega
   ·have hcu : cutN cut k = 0 := by unfold cutN; rw [dif_neg hck]
    rw [hcu, Int.sub_zero] at HS
    generalize hn : d.seq = nn at *
    clear hcu hC1
    by_cases hp : 0 < nn
    ·rw [if_pos hp] at HS
     have hnn : decide (nn > 0) = true := decide_eq_true hp
     clear hp
     go_wp2_with (at_builtin; go_loud (refine wpList_append_own _ rfl _ _ 27 rfl w.heap.size 127 i0 (.agg #[.int .i64 0, .int .i64 0, .int .i64 0]) 3 24 Tryz.underlying27 hi hz0 hz1 hz2 rfl (by decide) _ _ _ rfl (hown.alloc _) ⟨wr.heap.size, 0, none⟩ 1 1 [.int .i64 d.a.dev, .int .i64 d.a.inc, .int .i64 nn] rfl rfl (cells_new _ _ _) (by simp [Value.oneCell']) (by unfold maxLen; omega) (by omega) (by simp; omega) ?_); intro v2 w4 hown4 hgrow _)
     have hal4 : Below wr.heap.size wr (wr.alloc (.cells #[.int .i64 d.a.dev, .int .i64 d.a.inc, .int .i64 nn] 127)) := (Below.refl _ _).alloc (Nat.le_refl _) _
     have HZ : Hid (w4.ownsRow w.heap.size 127 3 v2 (T ++ [(⟨d.a, nn⟩ : Dot)]).length (dotVals (T ++ [(⟨d.a, nn⟩ : Dot)])) ∧ (T ++ [(⟨d.a, nn⟩ : Dot)]).length ≤ k + 1 ∧ Below w.heap.size w w4) := by
      refine ⟨?_, by rw [List.length_append]; simp; omega, (hB.trans (hal4.mono hzr)).grown hgrow (Nat.le_trans hzr hal4.size) (fun j hj => (hown.lt j hj).1)⟩
      rw [dotVals_snoc, List.length_append]
      exact hown4
     clear hown4 hgrow hal4 hown hB
     go_wp2
     go_roundw
     case rel => exact ⟨k + 1, T ++ [(⟨d.a, nn⟩ : Dot)], by go_num, HLT.out, HZ.out.1, HZ.out.2.1, by rw [HP.out, HS.out], HZ.out.2.2⟩
     case measure => have := HLT.out; simp [intOf] <;> omega
    ·rw [if_neg hp] at HS
     have hnn : decide (nn > 0) = false := decide_eq_false hp
     have HZ := Lib.hid (And.intro hown hB)
     have HTK := Lib.hid hTk
     clear hp hown hB
     go_wp2
     go_roundw
     case rel => exact ⟨k + 1, T, by go_num, HLT.out, HZ.out.1, Nat.le_succ_of_le HTK.out, by rw [HP.out, HS.out], HZ.out.2⟩
     case measure => have := HLT.out; simp [intOf] <;> omega
  ·obtain rfl : k = l.length := by omega
   have hE : lowFrom cut 0 l = T := by rw [HP.out, List.drop_length]; exact List.append_nil T
   have HE := Lib.hid hE
   obtain ⟨a2, c2, rfl, hF⟩ := own_marks hown
   clear hE
   go_wp2
   go_ret
   rw [HE.out]
   exact ⟨a2, c2, rfl, hF, hB⟩
theorem cWasteR_any {m : Nat} {b : MB} {s : MS} {r : RM} {n : Nat} (w : World) (h : MpIn w m b s) (hg : SGood s n) (hr : Rel s r) :
 Calls Tryz.prog 40 #[.pointer (some ⟨m, 0, none⟩)] w fun x w' => x = .returned (.int .i64 ((r.kept.length : Int) - ((aliveR r).filter fun e => decide (e.over.length = 0)).length)) ∧ Below w.heap.size w w' := by
 rw [aliveR_eq hg.inv hr, hr.kept, eventsOf_len hg.nd]
 exact cWaste_any w h hg
def evZ : Ev := ⟨⟨⟨0, 1⟩, 2⟩, stamp0, 2, key0, ck0, [dA]⟩
theorem evZ_small : EvSmall evZ := ⟨by decide, by decide, by decide, by decide, by decide⟩
def rZ : RM := ⟨[⟨⟨0, 1⟩, 2⟩], [evY, evZ], [dA]⟩
def rE : RM := ⟨[⟨⟨0, 1⟩, 2⟩], [], []⟩
theorem rZ_is : rmAp (rmAp RM.empty evY) evZ = rZ := by kernel_rfl
theorem rE_is : cpDo [⟨⟨0, 1⟩, 2⟩] rZ = rE := by kernel_rfl
theorem wZ : ((rZ.kept.length : Int) - ((aliveR rZ).filter fun e => decide (e.over.length = 0)).length) = 2 := by kernel_rfl
theorem wE : ((rE.kept.length : Int) - ((aliveR rE).filter fun e => decide (e.over.length = 0)).length) = 0 := by kernel_rfl
abbrev valZ (A : Nat) : Value := .agg #[.int .i64 0, .int .i64 1, .int .i64 2, .int .i64 0, .int .i64 0, .int .i64 0, .int .i64 2, .string ⟨#[]⟩, .string ⟨#[]⟩, .string ⟨#[]⟩, .string ⟨#[]⟩, .bool false, .bool false, .bool false, .bool false, .int .i64 0, .int .i64 0, .int .i64 0, .slice (some ⟨A, 0, none⟩) 1 1]
/-- behind an Apply -/
structure Ap2 (m : Nat) (b : MB) (s : MS) (e : Ev) (n : Nat) (r : RM) (w w' : World) (s' : MS) : Prop where
 map : MpIn w' m b s'
 good : SGood s' (n + 1)
 rel : Rel s' (rmAp r e)
 keeps : KeepsC w w'
 below : ∀ k0, k0 ≤ w.heap.size → (∀ k, foot b s.A k → k0 ≤ k) → Below k0 w w' ∧ ∀ k, foot b s'.A k → k0 ≤ k
theorem RetAp.ap2 {m : Nat} {b : MB} {s : MS} {e : Ev} {n : Nat} {r : RM} {w w' : World} {x : Ending} (h : RetAp m b s e w x w') (hm : MpIn w m b s) (hg : SGood s n) (hs : EvSmall e) (hr : Rel s r) : ∃ s' v, x = .returned v ∧ Ap2 m b s e n r w w' s' := by
 obtain ⟨s', rfl, h1, h2, h3, h4⟩ := h
 refine ⟨s', _, rfl, h1, hg.ap hs h4, hr.any hg.inv h4, hm.keeps h2 (fun _ h => h), fun k0 hn hf => ⟨h2.below hn hf, fun k hk => ?_⟩⟩
 rcases h3 k hk with h5 | h5
 ·exact hf k h5
 ·omega
theorem callY2 {m : Nat} {b : MB} (w : World) (h : MpIn w m b MS.empty) : Calls Tryz.prog 17 #[.pointer (some ⟨m, 0, none⟩), valY] w fun x w' => ∃ s' v, x = .returned v ∧ Ap2 m b MS.empty evY 0 RM.empty w w' s' := by
 have hc : Calls Tryz.prog 17 #[.pointer (some ⟨m, 0, none⟩), valY] w (RetAp m b MS.empty evY w) := mApply_any evY none 0 w h MInv.empty evY_small (Or.inl rfl) (fun _ => rfl) (by decide) (by decide)
 exact hc.mono fun x w' h2 => h2.ap2 h SGood.empty evY_small Rel.empty
theorem callZ2 {m : Nat} {b : MB} {s : MS} {r : RM} (A : Nat) (w : World) (h : MpIn w m b s) (hg : SGood s 1) (hr : Rel s r) (hd : DotsIn w (some ⟨A, 0, none⟩) [dA]) : Calls Tryz.prog 17 #[.pointer (some ⟨m, 0, none⟩), valZ A] w fun x w' => ∃ s' v, x = .returned v ∧ Ap2 m b s evZ 1 r w w' s' := by
 have hc : Calls Tryz.prog 17 #[.pointer (some ⟨m, 0, none⟩), valZ A] w (RetAp m b s evZ w) := mApply_any evZ (some ⟨A, 0, none⟩) 1 w h hg.inv evZ_small hd (fun h => by cases h) (by have := hg.ctx; omega) (by have := hg.dead; omega)
 exact hc.mono fun x w' h2 => h2.ap2 h hg evZ_small hr
theorem callDoZ {m : Nat} {b : MB} {s : MS} (w : World) (a : Option Addr) (cap : Nat) (h : MpIn w m b s) (hg : SGood s 2) (hr : Rel s rZ) (hd : DotsIn w a s.ctx) :
 Calls Tryz.prog 29 #[.pointer (some ⟨m, 0, none⟩), .slice a s.ctx.length cap] w fun x w' => ∃ s3, x = .returned (.tuple #[.int .i64 2, .int .i64 0]) ∧ MpIn w' m b s3 ∧ SGood s3 2 ∧ Rel s3 rE ∧ Fr (foot b s.A) w w' := by
 have hc : s.ctx = [⟨⟨0, 1⟩, 2⟩] := hr.ctx.symm
 refine (cDo_any a cap s.ctx w h hg (by decide) hd (hg.inv.marks (by rw [hc]; decide)) (by rw [hc]; decide +kernel)).mono ?_
 rintro x w' ⟨s3, rfl, h1, h2, _, h3, h4⟩
 have hrm : s.rm = rZ := hg.rel.uniq hr
 rw [hrm, hc, rE_is] at h3
 have hl : s3.K.length = 0 := by
  have := congrArg List.length h3.kept
  rw [eventsOf_len h2.nd] at this
  exact this.symm
 have hl2 : s.K.length = 2 := by
  have := congrArg List.length hr.kept
  rw [eventsOf_len hg.nd] at this
  exact this.symm
 exact ⟨s3, by rw [hl, hl2]; rfl, h1, h2, h3, h4⟩
theorem awake23_any (w : World) : Calls Tryz.prog 27 #[] w fun x w' => x = .returned (.bool true) ∧ Below w.heap.size w w' := by
 have HN := Lib.hid (fun X => mNew_any X)
 go_enter Tryz.func27, Tryz.ntmps27
 go_upto_region 3 with (go_at_call 15; (with_reducible refine (HN.out _).mono ?_); rintro x w1 ⟨m, b, rfl, hm, hb, hlo, hfo⟩)
 refine wp_name (fun W hW => ?_)
 have hbt : Below w1.heap.size w1 W := by rw [hW.out]; go_grown
 have hb2 : Below w.heap.size w W := hb.trans (hbt.mono hb.size)
 have hm2 := hm.kept_w hbt
 have x0 : W.cell? ⟨w1.heap.size, 0, none⟩ = some (.int .i64 0) := by rw [hW.out]; go_simp
 have x1 : W.cell? ⟨w1.heap.size, 1, none⟩ = some (.int .i64 1) := by rw [hW.out]; go_simp
 have x2 : W.cell? ⟨w1.heap.size, 2, none⟩ = some (.int .i64 1) := by rw [hW.out]; go_simp
 clear hW hm hbt hb
 generalize w1.heap.size = D at *
 have HY := Lib.hid (callY2 W hm2)
 go_upto_region 4 with (first
  | (refine Great.wpList_buildTo rfl 43 _ rfl _ rfl #[.int .i64 0, .int .i64 1, .int .i64 1, .int .i64 0, .int .i64 0, .int .i64 0, .int .i64 1, .string ⟨#[110]⟩, .string ⟨#[100]⟩, .string ⟨#[47]⟩, .string ⟨#[]⟩, .bool false, .bool false, .bool false, .bool false, .int .i64 1099511627776, .int .i64 0, .int .i64 0, .slice none 0 0] (by kernel_rfl) ?_)
  | (go_at_call 17; (with_reducible refine HY.out.mono ?_); rintro x w2 ⟨s1, v1, rfl, hd1⟩))
 obtain ⟨hb3, hfo3⟩ := hd1.below w.heap.size hb2.size hfo
 have hb4 := hb2.trans hb3
 replace x0 := hd1.keeps.cell x0
 replace x1 := hd1.keeps.cell x1
 replace x2 := hd1.keeps.cell x2
 have hm4 := hd1.map
 have HG1 := Lib.hid (And.intro hd1.good hd1.rel)
 clear hd1 hb3 hfo hb2 hm2 HY HN
 have HX := Lib.hid (fun t => callZ2 (m := m) (b := b) w2.heap.size (w2.alloc (.cells #[.int .i64 0, .int .i64 1, .int .i64 1] t)) (hm4.kept_w ((Below.refl _ w2).alloc (Nat.le_refl _) _)) HG1.out.1 HG1.out.2 (dots_new w2 dA t))
 go_upto_region 5 with (first
  | (refine Great.wpList_buildTo rfl 43 _ rfl _ rfl #[.int .i64 0, .int .i64 1, .int .i64 2, .int .i64 0, .int .i64 0, .int .i64 0, .int .i64 2, .string ⟨#[]⟩, .string ⟨#[]⟩, .string ⟨#[]⟩, .string ⟨#[]⟩, .bool false, .bool false, .bool false, .bool false, .int .i64 0, .int .i64 0, .int .i64 0, .slice (some ⟨w2.heap.size, 0, none⟩) 1 1] (by kernel_rfl) ?_)
  | (go_at_call 17; (with_reducible refine (HX.out _).mono ?_); rintro x w3 ⟨s2, v2, rfl, hd2⟩))
 have hba : Below w2.heap.size w2 (w2.alloc (.cells #[.int .i64 0, .int .i64 1, .int .i64 1] 35)) := (Below.refl _ w2).alloc (Nat.le_refl _) _
 obtain ⟨hb5, hfo5⟩ := hd2.below w.heap.size (Nat.le_trans hb4.size hba.size) hfo3
 have hb6 := (hb4.trans (hba.mono hb4.size)).trans hb5
 replace x0 := hd2.keeps.cell (kept hba x0)
 replace x1 := hd2.keeps.cell (kept hba x1)
 replace x2 := hd2.keeps.cell (kept hba x2)
 have hm6 := hd2.map
 have hg6 : SGood s2 2 := hd2.good
 have hr6 : Rel s2 rZ := by rw [← rZ_is]; exact hd2.rel
 clear hd2 hb5 hba hfo3 hb4 hm4 HX HG1
 have HW0 := cWasteR_any w3 hm6 hg6 hr6
 rw [wZ] at HW0
 have HW := Lib.hid HW0
 have HC := Lib.hid (fun (X : World) (h : MpIn X m b s2) => callCtx X h hg6.inv (by have := hg6.ctx; omega))
 have HD := Lib.hid (fun (X : World) (a : Option Addr) (c : Nat) (h : MpIn X m b s2) (hd : DotsIn X a s2.ctx) => callDoZ X a c h hg6 hr6 hd)
 clear HW0
 go_upto_region 7 with (first
  | (go_at_call 40; (with_reducible refine HW.out.mono ?_); rintro x w4 ⟨rfl, hb7⟩; have hm7 := hm6.kept_w hb7)
  | (go_at_call 32; (with_reducible refine (HC.out _ hm7).mono ?_); rintro x w5 ⟨aC, cC, rfl, hdC, hb8⟩; have hm8 := hm7.kept_w hb8)
  | (go_at_call 29; (with_reducible refine (HD.out _ _ _ hm8 hdC).mono ?_); rintro x w6 ⟨s3, rfl, hm9, hg9, hr9, hf9⟩))
 have hb78 := hb7.trans (hb8.mono hb7.size)
 have hK := hm8.keeps hf9 (fun _ h => h)
 have HB := Lib.hid ((hb6.trans (hb78.mono hb6.size)).trans (hf9.below (Nat.le_trans hb6.size hb78.size) hfo5))
 replace x0 := hK.cell (kept hb78 x0)
 replace x1 := hK.cell (kept hb78 x1)
 replace x2 := hK.cell (kept hb78 x2)
 have hl : s3.K.length = 0 := by
  have := congrArg List.length hr9.kept
  rw [eventsOf_len hg9.nd] at this
  exact this.symm
 have HL0 := mLen_any w6 hm9
 rw [hl] at HL0
 have HL := Lib.hid (show Calls Tryz.prog 65 #[.pointer (some ⟨m, 0, none⟩)] w6 fun e w' => e = .returned (.int .i64 0) ∧ w6 = w' from HL0)
 have HH0 := fun (X : World) (h : MpIn X m b s3) => mHas_any dA X h
 rw [show hasM s3.ctx dA = true by rw [← hr9.ctx]; decide +kernel] at HH0
 have HH := Lib.hid (fun (X : World) (h : MpIn X m b s3) => show Calls Tryz.prog 83 #[.pointer (some ⟨m, 0, none⟩), .agg #[.int .i64 0, .int .i64 1, .int .i64 1]] X _ from HH0 X h)
 have HW0 := fun (X : World) (h : MpIn X m b s3) => cWasteR_any X h hg9 hr9
 rw [wE] at HW0
 have HWE := Lib.hid HW0
 clear HW0 HH0 HL0 hl hK hb78 hb7 hb8 hm6 hm7 hm8 hdC hf9 hfo5 hb6 HW HC HD hg6 hr6
 go_wp2_with (first
  | (go_at_call 65; (with_reducible refine HL.out.mono ?_); rintro x w7 ⟨rfl, rfl⟩)
  | (go_at_call 83; (with_reducible refine (HH.out _ hm9).mono ?_); rintro x w8 ⟨rfl, hb9⟩; have hm10 := hm9.kept_w hb9)
  | (go_at_call 40; (with_reducible refine (HWE.out _ hm10).mono ?_); rintro x w9 ⟨rfl, hb10⟩))
 go_ret
 exact ⟨rfl, (HB.out.trans (hb9.mono HB.out.size)).trans (hb10.mono (Nat.le_trans HB.out.size hb9.size))⟩
/-- a map, and the reference's row in the block R -/
structure Hd (w0 : World) (R : Nat) (w : World) (m : Nat) (b : MB) (s : MS) (y : RMIt) : Prop where
 map : MpIn w m b s
 ref : RMIn w y
 row : RMAt w R y
 low : ∀ z, foot b s.A z → w0.heap.size ≤ z
 up : w0.heap.size ≤ R
 below : Below w0.heap.size w0 w
section
variable {R m : Nat} {w0 w w' : World} {b : MB} {s s' : MS} {y z : RMIt}
theorem Hd.size (h : Hd w0 R w m b s y) : w0.heap.size ≤ w.heap.size := h.below.size
theorem Hd.kept (h : Hd w0 R w m b s y) (hb : Below w.heap.size w w') : Hd w0 R w' m b s y :=
 ⟨h.map.kept_w hb, h.ref.keep hb, h.row.kept hb, h.low, h.up, h.below.trans (hb.mono h.size)⟩
theorem Hd.keeps (h : Hd w0 R w m b s y) {S : Nat → Prop} (hf : Fr S w w') (hS : ∀ k, S k → foot b s.A k) : KeepsC w w' := h.map.keeps hf hS
theorem Hd.op (h : Hd w0 R w m b s y) {S : Nat → Prop} (hm : MpIn w' m b s') (hf : Fr S w w') (hS : ∀ k, S k → foot b s.A k) (hA : ∀ k, foot b s'.A k → foot b s.A k ∨ w.heap.size ≤ k) : Hd w0 R w' m b s' y := by
 have hk := h.keeps hf hS
 refine ⟨hm, ⟨hk.dots h.ref.ctx, hk.evs h.ref.kept, hk.dots h.ref.dead, h.ref.cc, h.ref.cK, h.ref.cd⟩, hk _ _ _ _ h.row, fun z hz => ?_, h.up, h.below.trans (hf.below h.size fun k hk => h.low k (hS k hk))⟩
 rcases hA z hz with h1 | h1
 ·exact h.low z h1
 ·exact Nat.le_trans h.size h1
theorem Hd.notFoot (h : Hd w0 R w m b s y) : ¬ foot b s.A R := fun hf => by
 obtain ⟨es, cl, h1⟩ := h.map.maps hf
 have h2 := h.row
 unfold RMAt at h2
 rw [h2] at h1
 cases h1
theorem Hd.set (h : Hd w0 R w m b s y) (hz : RMIn w z) : Hd w0 R (w.setRow R (rmRow z)) m b s z :=
 ⟨h.map.set3 h.row.sl3 h.notFoot _, RMIn.not3 (R := R) hz h.row.sl3 (fun k9 hk9 => heap_setRow_other _ _ _ _ (fun e9 => hk9 e9.symm)), setRow_heap _ _ _ _ _ _ h.row, h.low, h.up, below_setRow h.below h.up _⟩
end
theorem MadeIn.hd {w0 w : World} {m : Nat} {b : MB} {s : MS} {y : RMIt} {l : List Ev} {n1 : Nat} (h : MadeIn w m b s y l n1) (hn : w0.heap.size ≤ n1) (hb : Below w0.heap.size w0 w) : Hd w0 w.heap.size (w.alloc (.cells (rmRow y) 31)) m b s y := by
 have hbA := (Below.refl w.heap.size w).alloc (Nat.le_refl _) (.cells (rmRow y) 31)
 exact ⟨h.map.kept_w hbA, h.ref.keep hbA, heap_last0 _ _, fun z hz => Nat.le_trans hn (h.low z hz), hb.size, hb.trans (hbA.mono hb.size)⟩
theorem MadeIn.sgood {w : World} {m : Nat} {b : MB} {s : MS} {y : RMIt} {ls : List EvIt} {n1 : Nat} (h : MadeIn w m b s y (evsOf ls) n1) (hsl : EvsSmall ls) : SGood s ls.length := by
 refine ⟨h.inv, h.rel.nd, by have := h.ctx; rwa [evsOf_length] at this, by have := h.dead; rwa [evsOf_length] at this, fun x hx => ?_⟩
 obtain ⟨n9, f9, hM9⟩ := h.merged
 rcases hM9.come x hx with ⟨z9, hz9, _⟩ | h9
 ·cases hz9
 ·obtain ⟨v, hv, e8⟩ := List.mem_map.1 h9
  rw [← e8]
  exact hsl v hv
/-- the reference's alive Puts, told for one who holds the map -/
theorem callRAl {s : MS} {y : RMIt} {n : Nat} (hg : SGood s n) (hn : n ≤ 1000) (hr : Rel s y.rm) (X : World) (h : RMIn X y) :
 Calls Tryz.prog 36 #[rmVal y] X fun e w' => ∃ a d c, e = .returned (.slice a d.length c) ∧ EvsIn w' a d ∧ evsOf d = aliveOf s ∧ Below X.heap.size X w' := by
 have h1 := (hg.sizes hr).2.2
 have h2 : y.dead.length ≤ 64 * n := h1
 have h3 : y.K.length = s.K.length := by
  have := congrArg List.length hr.kept
  rw [eventsOf_len hr.nd] at this
  rw [← this]
  exact (evsOf_length y.K).symm
 have h4 := hg.inv.len
 refine (rAlive21_any y X (by omega) (by omega) h).mono ?_
 rintro e w' ⟨a, c, rfl, h5, _, h6⟩
 exact ⟨a, _, c, rfl, h5, alive_eq hg.inv hr, h6⟩
theorem rmK_len {s : MS} {y : RMIt} (h : Rel s y.rm) : y.K.length = s.K.length := by
 have := congrArg List.length h.kept
 rw [eventsOf_len h.nd] at this
 rw [← this]
 exact (evsOf_length y.K).symm
end Go.Proofs.YtpbobhfnglikmaaGreat
