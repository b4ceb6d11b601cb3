/- The law CanonMost, walked. Conditions: none. -/
import Derived.Test.YtpbobhfnglikmaaGreatCanB
import Derived.Test.YtpbobhfnglikmaaGreatCanP
set_option linter.unusedSimpArgs false
set_option linter.unusedVariables false
set_option linter.unnecessarySimpa false
set_option maxHeartbeats 16000000
set_option maxRecDepth 100000
namespace Go.Proofs.YtpbobhfnglikmaaGreat
open Go.RowKit
def putsOf (ls : List EvIt) : List EvIt := (ls.map bareIt).filter fun x => decide (x.1.kind = 1)
theorem puts_take (ls : List EvIt) (k : Nat) (h : k < ls.length) : putsOf (ls.take (k + 1)) = if ls[k].1.kind = 1 then putsOf (ls.take k) ++ [bareIt ls[k]] else putsOf (ls.take k) := by
 unfold putsOf
 rw [List.take_add_one, List.getElem?_eq_getElem h, Option.toList_some, List.map_append, List.filter_append]
 show _ ++ List.filter _ [bareIt ls[k]] = _
 have : (bareIt ls[k]).1.kind = ls[k].1.kind := rfl
 split
 ·rename_i h1
  rw [List.filter_cons, if_pos (by rw [this]; exact decide_eq_true h1)]
  rfl
 ·rename_i h1
  rw [List.filter_cons, if_neg (by rw [this]; simpa using h1)]
  simp
theorem puts_len (ls : List EvIt) : (putsOf ls).length ≤ ls.length := by
 refine Nat.le_trans (List.length_filter_le _ _) ?_
 rw [List.length_map]
 exact Nat.le_refl _
theorem puts_mem {ls : List EvIt} {x : EvIt} (h : x ∈ putsOf ls) : ∃ y ∈ ls, x = bareIt y := by
 obtain ⟨y, hy, e⟩ := List.mem_map.1 (List.mem_filter.1 h).1
 exact ⟨y, hy, e.symm⟩
theorem puts_small {ls : List EvIt} (h : EvsSmall ls) : EvsSmall (putsOf ls) := fun x hx => by
 obtain ⟨y, hy, rfl⟩ := puts_mem hx
 have h1 := h y hy
 exact ⟨h1.name, h1.domain, h1.path, h1.value, Nat.zero_le _⟩
theorem puts_over {ls : List EvIt} : ∀ e ∈ evsOf (putsOf ls), e.over = [] := fun e he => by
 obtain ⟨x, hx, rfl⟩ := List.mem_map.1 he
 obtain ⟨y, _, rfl⟩ := puts_mem hx
 rfl
theorem MadeIn.sg24 {w : World} {m : Nat} {b : MB} {s : MS} {y : RMIt} {ls : List EvIt} {n1 : Nat} (h : MadeIn w m b s y (evsOf ls) n1) (hsl : EvsSmall ls) : SGood s ls.length := by
 refine ⟨h.inv, h.rel.nd, by have := h.ctx; rwa [evsOf_length] at this, by have := h.dead; rwa [evsOf_length] at this, fun x hx => ?_⟩
 obtain ⟨n9, f9, hM9⟩ := h.merged
 rcases hM9.come x hx with ⟨z9, hz9, _⟩ | h9
 ·cases hz9
 ·obtain ⟨v, hv, e8⟩ := List.mem_map.1 h9
  rw [← e8]
  exact hsl v hv
theorem MadeIn.fold24 {w : World} {m : Nat} {b : MB} {s : MS} {y : RMIt} {l : List Ev} {n1 : Nat} (h : MadeIn w m b s y l n1) : y.rm = l.foldl rmAp RM.empty := by
 obtain ⟨n9, f9, hM9⟩ := h.merged
 exact h.rel.uniq (hM9.rel Rel.empty MInv.empty)
/-- what a map of bare Puts packs into -/
theorem MadeIn.full24 {w : World} {m : Nat} {b : MB} {s : MS} {y : RMIt} {ls : List EvIt} {n1 : Nat} (h : MadeIn w m b s y (evsOf (putsOf ls)) n1) (hl : ls.length ≤ 60) : (fullB s).length ≤ 8 + 9 * y.ctx.length + 1840 * y.K.length ∧ y.ctx.length ≤ 60 ∧ y.K.length ≤ 60 ∧ s.K.length ≤ 60 := by
 have hp := puts_len ls
 have hf := h.fold24
 have hgl := h.good
 have h1 : y.ctx = s.ctx := h.rel.ctx
 have h2 : y.K.length = s.K.length := by
  have h3 := congrArg List.length h.rel.kept
  rw [eventsOf_len h.rel.nd] at h3
  rw [← h3]
  exact (evsOf_length _).symm
 have h3 : s.ctx.length ≤ 60 := by have := h.ctx; rw [evsOf_length] at this; omega
 have h4 : s.K.length ≤ 60 := by
  have h5 : y.rm.kept.length ≤ (evsOf (putsOf ls)).length := hgl.kept
  rw [evsOf_length] at h5
  have h6 : y.rm.kept.length = y.K.length := evsOf_length y.K
  omega
 refine ⟨?_, by rw [h1]; exact h3, by omega, h4⟩
 rw [h1, h2]
 refine fullB_len h.inv h.rel.nd h3 h4 ?_ ?_
 ·rw [← h.rel.dead, hf]
  exact rmFold_dead _ rfl puts_over
 ·rw [← h.rel.kept, hf]
  exact rmFold_kept _ (fun x hx => (nomatch hx)) puts_over
theorem lawCm_any (a : Option Addr) (ca : Nat) (ls : List EvIt) (p q : Int) (w : World) (hE : EvsArg w a ls) :
 Calls Tryz.prog 8 #[.slice a ls.length ca, .int .i64 p, .int .i64 q] w fun x w' => x = .returned (.bool true) ∧ Below w.heap.size w w' := by
 have HL0 : Calls Tryz.prog 26 #[.slice a ls.length ca, .int .i64 30] w fun x w' => x = .returned (.bool (lightAll 30 (evsOf ls))) ∧ Below w.heap.size w w' := LightAll_any a ca 30 ls w (by decide) hE.len hE.evs (fun x hx => ⟨(hE.each x hx).over, (hE.each x hx).name, (hE.each x hx).domain, (hE.each x hx).path, (hE.each x hx).value⟩)
 have HA := Lib.hid awake24_any
 have hEi := hE.evs
 clear hE
 cases hli : lightAll 30 (evsOf ls) with
 | false =>
   rw [hli] at HL0
   have HL := Lib.hid HL0
   clear HL0 hli
   go_enter Tryz.func8, Tryz.ntmps8
   go_wp2_with (first
    | (go_at_call 26; (with_reducible refine HL.out.mono ?_); rintro x w1 ⟨rfl, hb1⟩)
    | (go_at_call 51; (with_reducible refine (HA.out _).mono ?_); rintro x w2 ⟨rfl, hb2⟩))
   go_ret
   exact ⟨rfl, hb1.trans (hb2.mono hb1.size)⟩
 | true =>
   obtain ⟨hls, hsl⟩ := light_evs hli
   rw [hli] at HL0
   have HL := Lib.hid HL0
   clear HL0 hli
   obtain ⟨i0, hiE, hz0, hz1, hz2⟩ := info_parts Tryz.infoEv
   have HSL := Lib.hid hsl
   clear hsl
   go_enter Tryz.func8, Tryz.ntmps8
   go_upto_region 3 with (go_at_call 26; (with_reducible refine HL.out.mono ?_); rintro x w1 ⟨rfl, hb1⟩)
   have hE1 := hEi.kept hb1
   have HB1 := Lib.hid hb1
   clear hEi hb1 HL
   go_wp2
   have hown0 : (w1.alloc (Obj.cells #[] 43)).ownsRow w1.heap.size 43 19 (.slice (some ⟨w1.heap.size, 0, none⟩) 0 0) 0 [] := World.ownsRow_made _ _ _ (Nat.le_refl _) (by decide) rfl
   have hbM : Below w1.heap.size w1 (w1.alloc (Obj.cells #[] 43)) := (Below.refl _ _).alloc (Nat.le_refl _) _
   go_loopw [7, 8] (fun u i wr => ∃ k : Nat, i = .int .i64 k ∧ k ≤ ls.length ∧ wr.ownsRow w1.heap.size 43 19 u (putsOf (ls.take k)).length (evItCells (putsOf (ls.take k))) ∧ Below w1.heap.size w1 wr) (fun _ i _ => ls.length - (intOf i).toNat)
   case atStart => exact ⟨0, rfl, Nat.zero_le _, hown0, hbM⟩
   case round =>
    obtain ⟨k, rfl, hk, hown, hB⟩ := hrel
    clear hown0 hbM
    have hzr := hB.size
    have hfl : (putsOf (ls.take k)).length ≤ 4096 := by
        have := puts_len (ls.take k)
        rw [List.length_take] at this
        omega
    obtain ⟨u, hu⟩ : ∃ u, u = u7 := ⟨_, rfl⟩
    rw [← hu] at hown ⊢
    clear hu
    by_cases hlt : k < ls.length
    ·obtain ⟨A, off, rfl, hra, _⟩ := (hE1.kept hB).at hlt
     have r1 := hra k hlt
     have hs := puts_take ls k hlt
     have HLT := Lib.hid hlt
     have hkl : k ≤ 4096 := by omega
     generalize ls[k] = x at *
     obtain ⟨e, ax, cx⟩ := x
     simp only [itEv] at r1
     simp only at hs
     clear hra
     generalize putsOf (ls.take k) = T at *
     go_upto_region 8 with (first
      | ((with_reducible refine wpList_load_evo _ A (off + k * 19) e ax cx r1 ?_ rfl ?_); exact rfl)
      | (refine wpList_store_new 43 _ _ _ (evCells e ax cx).toArray rfl rfl (by kernel_rfl) rfl (by kernel_rfl) ?_))
     refine wp_name (fun Wx hWx => ?_)
     have hbx : Below wr.heap.size wr Wx := by rw [hWx.out]; exact (Below.refl _ _).alloc (Nat.le_refl _) _
     have hRx : Wx.rangeAt wr.heap.size 0 (evCells e ax cx) := by rw [hWx.out]; exact evCells_box e ax cx wr _
     have hg9 : Wx.heap[wr.heap.size]? = some (.cells (evCells e ax cx).toArray 43 (0, 0)) := by rw [hWx.out]; exact heap_last0 _ _
     have hfz : Wx.frozen? ⟨wr.heap.size, 18, none⟩ = false := by simp [World.frozen?, hg9]
     have v18 : Wx.cell? ⟨wr.heap.size, 18, none⟩ = some (.slice ax e.over.length cx) := by have := hRx 18 _ rfl; rwa [Nat.zero_add] at this
     clear hWx r1 hg9
     go_upto_region 9 with fail
     refine wp_name (fun W6 hW6 => ?_)
     have hb6 : Below wr.heap.size wr W6 := by rw [hW6.out]; exact hbx.setCell (Nat.le_refl _) _
     have R5 : W6.rangeAt wr.heap.size 0 (evCells { e with over := [] } none 0) := by rw [hW6.out]; exact range_bare hRx
     have hown5 := ownsRow_below hown hb6
     have hB6 := hB.trans (hb6.mono hzr)
     have hz6 := hB6.size
     have hv6 : W6.cell? ⟨wr.heap.size, 6, none⟩ = some (.int .i64 e.kind) := by have := R5 6 _ rfl; rwa [Nat.zero_add] at this
     clear hW6 hRx v18 hbx hown hB hfz
     by_cases h1 : e.kind = 1
     ·have hb1 : (e.kind == 1) = true := beq_iff_eq.2 h1
      rw [if_pos h1] at hs
      obtain ⟨e9, he9⟩ : ∃ e9 : Ev, e9 = { e with over := [] } := ⟨_, rfl⟩
      rw [← he9] at R5
      have HB9 : Hid (bareIt (e, ax, cx) = (e9, none, 0)) := by unfold Hid; rw [he9]; rfl
      have HS := Lib.hid hs
      clear he9 h1 hs
      go_wp2_with (first
       | ((with_reducible refine wpList_load_evo _ wr.heap.size 0 e9 none 0 R5 ?_ rfl ?_); exact rfl)
       | (refine wpList_buildOne rfl 28 43 _ rfl (evCells e9 none 0).toArray 19 rfl rfl (by decide) (by decide) Tryz.underlying28 (by kernel_rfl) (by kernel_rfl) ?_)
       | (at_builtin; go_loud (refine wpList_append_own_at _ rfl _ _ 28 rfl w1.heap.size 43 i0 (.agg (evCells ev0 none 0).toArray) 19 176 Tryz.underlying28 hiE hz0 hz1 hz2 rfl (by decide) _ _ _ rfl (hown5.alloc _) ⟨W6.heap.size, 0, none⟩ 1 1 (evCells e9 none 0) rfl rfl (evs_new W6 e9 none 0 _) (evCells_one _ _ _) (by unfold maxLen; omega) (by omega) (by simp; omega) ?_)))
      intro v' wf hownf hgrow _ hat
      have hal : Below W6.heap.size W6 (W6.alloc (Obj.cells (evCells e9 none 0).toArray 43)) := (Below.refl _ _).alloc (Nat.le_refl _) _
      have hbF : Below w1.heap.size w1 wf := (hB6.trans (hal.mono hz6)).grown hgrow (by have := hal.size; omega) (fun j hj => (hown5.lt j hj).1)
      have HZ : Hid (wf.ownsRow w1.heap.size 43 19 v' (putsOf (ls.take (k + 1))).length (evItCells (putsOf (ls.take (k + 1)))) ∧ Below w1.heap.size w1 wf) := by
       refine ⟨?_, hbF⟩
       rw [HS.out, HB9.out, evItCells_snoc, List.length_append]
       exact hownf
      clear hownf hgrow hat hal hbF hown5 R5 hB6 hb6
      go_wp2
      go_roundw
      case rel => exact ⟨k + 1, by go_num, HLT.out, HZ.out.1, HZ.out.2⟩
      case measure => have := HLT.out; simp [intOf] <;> omega
     ·have hb1 : (e.kind == 1) = false := beq_eq_false_iff_ne.2 h1
      rw [if_neg h1] at hs
      have HZ := Lib.hid (And.intro hown5 hB6)
      have HS := Lib.hid hs
      clear hown5 R5 hB6 hb6 h1 hs
      go_wp2
      go_roundw
      case rel => exact ⟨k + 1, by go_num, HLT.out, by rw [HS.out]; exact HZ.out.1, HZ.out.2⟩
      case measure => have := HLT.out; simp [intOf] <;> omega
    ·obtain rfl : k = ls.length := by omega
     rw [List.take_length] at hown hfl
     obtain ⟨a2, c2, rfl, hF⟩ := evsIn_own hown (fun z hz => by
      obtain ⟨q9, _, rfl⟩ := puts_mem hz
      exact Or.inl rfl)
     have HM0 := made24_any a2 c2 (putsOf ls) wr (by have := puts_len ls; omega) hF (puts_small HSL.out)
     have HM := Lib.hid HM0
     have HB := Lib.hid (HB1.out.trans (hB.mono HB1.out.size))
     clear HM0 hown hF hB hk hlt HB1 hzr
     go_upto_region 12 with (first
      | (go_at_call 52; (with_reducible refine HM.out.mono ?_); rintro x w3 ⟨m, b, s, y, rfl, hm3, hb3⟩)
      | (refine wpList_store_new 31 _ _ _ (rmRow y) rfl rfl (by kernel_rfl) rfl (by kernel_rfl) ?_))
     have hp := puts_len ls
     have hsg : SGood s 60 := (hm3.sg24 (puts_small HSL.out)).mono (by omega)
     obtain ⟨g1, g2, g3, g4⟩ := hm3.full24 (by omega)
     have hbA := (Below.refl w3.heap.size w3).alloc (Nat.le_refl _) (.cells (rmRow y) 31)
     have hAt : RMAt (w3.alloc (.cells (rmRow y) 31)) w3.heap.size y := heap_last0 _ _
     have HF := Lib.hid (cFull_any (w3.alloc (.cells (rmRow y) 31)) (hm3.map.kept_w hbA) hsg g4)
     have hb23 := HB.out.trans (hb3.mono HB.out.size)
     have HB2 := Lib.hid (hb23.trans (hbA.mono hb23.size))
     clear hm3 hsg hbA hb23 hb3 HB HM HSL hp
     obtain ⟨W, hW⟩ : ∃ W, W = w3.alloc (.cells (rmRow y) 31) := ⟨_, rfl⟩
     rw [← hW] at HF HB2 hAt ⊢
     clear hW
     generalize w3.heap.size = B at *
     generalize hfn : fullB s = fb at *
     clear hfn
     go_upto_region 13 with (go_at_call 53; (with_reducible refine HF.out.mono ?_); rintro x w4 ⟨a4, c4, rfl, _, hb4⟩)
     obtain ⟨c0, c1, c2⟩ := (hAt.kept hb4).cells
     have HB4 := Lib.hid (HB2.out.trans (hb4.mono HB2.out.size))
     have HMa0 := fun (X : World) => most_any y.ctx.length y.K.length X
     rw [show clampI (y.ctx.length : Int) = y.ctx.length by unfold clampI; omega, show clampI (y.K.length : Int) = y.K.length by unfold clampI; omega] at HMa0
     have hle : decide ((fb.length : Int) ≤ 8 + 9 * (y.ctx.length : Int) + 1840 * (y.K.length : Int)) = true := decide_eq_true (by omega)
     have HMb0 := fun (X : World) => most_any p q X
     have hcp := clampI_range p
     have hcq := clampI_range q
     generalize hnc : (8 : Int) + 9 * (y.ctx.length : Int) + 1840 * (y.K.length : Int) = nc at *
     clear hnc g1 g2 g3 g4
     have HMa := Lib.hid HMa0
     clear hAt hb4 HF HB2 HMa0
     go_upto_region 15 with fail
     rw [show min (max p 0) 1048576 = clampI p from rfl, show min (max q 0) 1048576 = clampI q from rfl]
     generalize clampI p = cp at *
     generalize clampI q = cq at *
     have h1 : IntKind.i64.wrap (9 * cp) = 9 * cp := IntWalk.i64_in _ (by omega)
     have h2 : IntKind.i64.wrap (8 + 9 * cp) = 8 + 9 * cp := IntWalk.i64_in _ (by omega)
     have h3 : IntKind.i64.wrap (1840 * cq) = 1840 * cq := IntWalk.i64_in _ (by omega)
     have h4 : IntKind.i64.wrap (8 + 9 * cp + 1840 * cq) = 8 + 9 * cp + 1840 * cq := IntWalk.i64_in _ (by omega)
     have HMb := Lib.hid HMb0
     clear HMb0 hcp hcq
     have heq : (8 + 9 * cp + 1840 * cq == 8 + 9 * cp + 1840 * cq) = true := beq_self_eq_true _
     go_wp2_with (first
      | (go_at_call 54; (with_reducible refine (HMa.out _).mono ?_); rintro x w5 ⟨rfl, rfl⟩)
      | (go_at_call 54; (with_reducible refine (HMb.out _).mono ?_); rintro x w6 ⟨rfl, rfl⟩)
      | (go_at_call 51; (with_reducible refine (HA.out _).mono ?_); rintro x w7 ⟨rfl, hb7⟩))
     go_ret
     exact ⟨rfl, HB4.out.trans (hb7.mono HB4.out.size)⟩
end Go.Proofs.YtpbobhfnglikmaaGreat
