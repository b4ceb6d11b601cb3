/- canon's laws: split. Conditions: as in the text. -/
import Derived.Test.YtpbobhfnglikmaaGreatStepP
set_option linter.unusedSimpArgs false
set_option linter.unusedVariables false
set_option linter.unnecessarySimpa false
set_option maxHeartbeats 16000000
set_option maxRecDepth 100000
namespace Go.Proofs.YtpbobhfnglikmaaGreat
open Go.RowKit
def spB (dv : Int) (first : Bool) (z : EvIt) : Bool := (z.1.dot.a.dev == dv) == first
def spE (dv : Int) (first : Bool) (e : Ev) : Bool := (e.dot.a.dev == dv) == first
def spL (dv : Int) (first : Bool) (ls : List EvIt) : List EvIt := ls.filter (spB dv first) ++ ls.filter (fun z => !spB dv first z)
theorem spL_mem {dv : Int} {first : Bool} {ls : List EvIt} {x : EvIt} (h : x ∈ spL dv first ls) : x ∈ ls := by
 rcases List.mem_append.1 h with h | h <;> exact (List.mem_filter.1 h).1
theorem spL_len (dv : Int) (first : Bool) : ∀ ls : List EvIt, (spL dv first ls).length = ls.length
 | [] => rfl
 | x :: ls => by
   have ih := spL_len dv first ls
   unfold spL at ih ⊢
   rw [List.length_append] at ih ⊢
   rw [List.filter_cons, List.filter_cons]
   cases h : spB dv first x
   ·simp; omega
   ·simp; omega
theorem spL_evs (dv : Int) (first : Bool) (ls : List EvIt) : evsOf (spL dv first ls) = (evsOf ls).filter (spE dv first) ++ (evsOf ls).filter (fun e => !spE dv first e) := by
 unfold spL
 rw [show ∀ a b : List EvIt, evsOf (a ++ b) = evsOf a ++ evsOf b from fun a b => by unfold evsOf; rw [List.map_append]]
 congr 1
 ·exact evsOf_filter (spE dv first) ls
 ·exact evsOf_filter (fun e => !spE dv first e) ls
def RetTu (ls : List EvIt) (w : World) (e : Ending) (w' : World) : Prop := ∃ a ds c, e = .returned (.slice a ds.length c) ∧ EvsIn w' a ds ∧ (ds.length = ls.length ∧ (∀ x ∈ ds, x ∈ ls) ∧ ∃ p : Ev → Bool, (∀ x y : Ev, x.dot.a = y.dot.a → p x = p y) ∧ evsOf ds = (evsOf ls).filter p ++ (evsOf ls).filter fun e => !p e) ∧ Below w.heap.size w w'
def RetSp (l : List EvIt) (w : World) (e : Ending) (w' : World) : Prop := ∃ a c, e = .returned (.slice a l.length c) ∧ EvsIn w' a l ∧ Below w.heap.size w w'
theorem rSpl24_any (a : Option Addr) (ca : Nat) (ls : List EvIt) (dv : Int) (first : Bool) (w : World) (hl : ls.length ≤ 4096) (hE : EvsIn w a ls) :
 Calls Tryz.prog 57 #[.slice a ls.length ca, .int .i64 dv, .bool first] w (RetSp (spL dv first ls) w) := by
 obtain ⟨i0, hi, hz0, hz1, hz2⟩ := info_parts Tryz.infoEv
 obtain ⟨p, hp⟩ : ∃ p, p = spB dv first := ⟨_, rfl⟩
 have HPD : Hid (∀ z : EvIt, p z = ((z.1.dot.a.dev == dv) == first)) := fun z => by rw [hp]; rfl
 obtain ⟨q, hq⟩ : ∃ q : EvIt → Bool, q = fun z => !p z := ⟨_, rfl⟩
 have HQD : Hid (∀ z : EvIt, q z = !p z) := fun z => by rw [hq]
 have HL : Hid (spL dv first ls = ls.filter p ++ ls.filter q) := by unfold Hid; rw [hq, hp]; rfl
 have HLL : Hid ((ls.filter p ++ ls.filter q).length = ls.length) := by unfold Hid; rw [← HL.out, spL_len]
 clear hp hq
 go_enter Tryz.func57, Tryz.ntmps57
 go_upto_region 3 with fail
 refine wp_name (fun V hV => ?_)
 have hb0 : Below w.heap.size w V := by rw [hV.out]; exact ((Below.refl _ _).alloc (Nat.le_refl _) _).alloc (by simp) _
 have hA0 : V.ownsRow w.heap.size 43 19 (.slice (some ⟨w.heap.size, 0, none⟩) 0 0) 0 [] := by
  rw [hV.out]
  exact (World.ownsRow_made _ _ _ (Nat.le_refl _) (by decide) rfl : (w.alloc (Obj.cells #[] 43)).ownsRow w.heap.size 43 19 (.slice (some ⟨w.heap.size, 0, none⟩) 0 0) 0 []).alloc _
 have hB0 : V.ownsRow w.heap.size 43 19 (.slice (some ⟨w.heap.size + 1, 0, none⟩) 0 0) 0 [] := by
  rw [hV.out]
  have h9 : ((w.alloc (Obj.cells #[] 43)).alloc (Obj.cells #[] 43)).ownsRow w.heap.size 43 19 (.slice (some ⟨(w.alloc (Obj.cells #[] 43)).heap.size, 0, none⟩) 0 0) 0 [] := World.ownsRow_made _ _ _ (by simp) (by decide) rfl
  rwa [show (w.alloc (Obj.cells #[] 43)).heap.size = w.heap.size + 1 by simp] at h9
 have hne0 : ∀ g, (Value.slice (some ⟨w.heap.size, 0, none⟩) 0 0).ownBlock = some g → (Value.slice (some ⟨w.heap.size + 1, 0, none⟩) 0 0).ownBlock ≠ some g := fun g h1 h2 => by
  simp [Value.ownBlock] at h1 h2
  omega
 clear hV
 go_wp2
 go_loopw [7, 8, 9] (fun u v i wr => ∃ k : Nat, i = .int .i64 k ∧ k ≤ ls.length ∧ wr.ownsRow w.heap.size 43 19 u ((ls.take k).filter p).length (evItCells ((ls.take k).filter p)) ∧ wr.ownsRow w.heap.size 43 19 v ((ls.take k).filter q).length (evItCells ((ls.take k).filter q)) ∧ (∀ g, u.ownBlock = some g → v.ownBlock ≠ some g) ∧ Below w.heap.size w wr) (fun _ _ i _ => ls.length - (intOf i).toNat)
 case atStart => exact ⟨0, rfl, Nat.zero_le _, hA0, hB0, hne0, hb0⟩
 case round =>
  obtain ⟨k, rfl, hk, hownA, hownB, hne, hB⟩ := hrel
  clear hA0 hB0 hne0 hb0
  obtain ⟨u, hu⟩ : ∃ u, u = u7 := ⟨_, rfl⟩
  obtain ⟨v, hv⟩ : ∃ v, v = u8 := ⟨_, rfl⟩
  rw [← hu, ← hv] at hne
  rw [← hu] at hownA ⊢
  rw [← hv] at hownB ⊢
  clear hu hv
  have hzr := hB.size
  have hfa : ((ls.take k).filter p).length ≤ 4096 := by
   have h1 := List.length_filter_le p (ls.take k)
   rw [List.length_take] at h1
   omega
  have hfb : ((ls.take k).filter q).length ≤ 4096 := by
   have h1 := List.length_filter_le q (ls.take k)
   rw [List.length_take] at h1
   omega
  by_cases hlt : k < ls.length
  ·obtain ⟨A, off, rfl, hra, _⟩ := (hE.kept hB).at hlt
   have r1 := hra k hlt
   have HAY := Lib.hid (fun h => filt_yes (p := p) hlt h)
   have HAN := Lib.hid (fun h => filt_no (p := p) hlt h)
   have HBY := Lib.hid (fun h => filt_yes (p := q) hlt h)
   have HBN := Lib.hid (fun h => filt_no (p := q) hlt h)
   have HP1 := Lib.hid (HPD.out ls[k])
   have HQ1 := Lib.hid (HQD.out ls[k])
   have HLT := Lib.hid hlt
   have HNE := Lib.hid hne
   generalize ls[k] = x at *
   obtain ⟨e, ax, cx⟩ := x
   simp only [itEv] at r1
   have HP2 : Hid (p (e, ax, cx) = ((e.dot.a.dev == dv) == first)) := HP1.out
   have q0 := r1 0 _ rfl
   simp only [Nat.add_zero] at q0
   clear hra HP1 hne
   cases hpz : ((e.dot.a.dev == dv) == first) with
   | true =>
     have HS : Hid ((ls.take (k + 1)).filter p = (ls.take k).filter p ++ [(e, ax, cx)] ∧ (ls.take (k + 1)).filter q = (ls.take k).filter q) := ⟨HAY.out (by rw [HP2.out, hpz]), HBN.out (by rw [HQ1.out, HP2.out, hpz]; rfl)⟩
     go_wp2_with (first
      | ((with_reducible refine wpList_load_evo _ A (off + k * 19) e ax cx r1 ?_ rfl ?_); exact rfl)
      | (refine wpList_buildOne rfl 28 43 _ rfl (evCells e ax cx).toArray 19 rfl rfl (by decide) (by decide) Tryz.underlying28 (by kernel_rfl) (by kernel_rfl) ?_)
      | (at_builtin; go_loud (refine wpList_append_own_at _ rfl _ _ 28 rfl w.heap.size 43 i0 (.agg (evCells ev0 none 0).toArray) 19 176 Tryz.underlying28 hi hz0 hz1 hz2 rfl (by decide) _ _ _ rfl (hownA.alloc _) ⟨wr.heap.size, 0, none⟩ 1 1 (evCells e ax cx) rfl rfl (evs_new wr e ax cx _) (evCells_one _ _ _) (by unfold maxLen; omega) (by omega) (by simp; omega) ?_)))
     intro v' wf hownf hgrow _ hat
     have hal : Below wr.heap.size wr (wr.alloc (Obj.cells (evCells e ax cx).toArray 43)) := (Below.refl _ _).alloc (Nat.le_refl _) _
     have hbF : Below w.heap.size w wf := (hB.trans (hal.mono hzr)).grown hgrow (by have := hal.size; omega) (fun j hj => (hownA.lt j hj).1)
     have hBf := own_grown_ne (hownB.alloc _) (fun g hg => HNE.out g hg) hgrow
     have hnef : ∀ g, v'.ownBlock = some g → v.ownBlock ≠ some g := fun g hg e9 => by
      rcases hat with h9 | h9
      ·exact HNE.out g (h9.symm.trans hg) e9
      ·rw [h9] at hg
       simp only [Option.some.injEq, World.size_alloc] at hg
       have := (hownB.lt g e9).2
       omega
     have HZ : Hid (wf.ownsRow w.heap.size 43 19 v' ((ls.take (k + 1)).filter p).length (evItCells ((ls.take (k + 1)).filter p)) ∧ wf.ownsRow w.heap.size 43 19 v ((ls.take (k + 1)).filter q).length (evItCells ((ls.take (k + 1)).filter q)) ∧ (∀ g, v'.ownBlock = some g → v.ownBlock ≠ some g) ∧ Below w.heap.size w wf) := by
      refine ⟨?_, ?_, hnef, hbF⟩
      ·rw [HS.out.1, evItCells_snoc, List.length_append]
       exact hownf
      ·rw [HS.out.2]
       exact hBf
     clear hownf hgrow hat hal hbF hownA hownB hBf hnef r1 q0 hpz
     go_wp2
     go_roundw
     case rel => exact ⟨k + 1, by go_num, HLT.out, HZ.out.1, HZ.out.2.1, HZ.out.2.2.1, HZ.out.2.2.2⟩
     case measure => have := HLT.out; simp [intOf] <;> omega
   | false =>
     have HS : Hid ((ls.take (k + 1)).filter q = (ls.take k).filter q ++ [(e, ax, cx)] ∧ (ls.take (k + 1)).filter p = (ls.take k).filter p) := ⟨HBY.out (by rw [HQ1.out, HP2.out, hpz]; rfl), HAN.out (by rw [HP2.out, hpz])⟩
     go_wp2_with (first
      | ((with_reducible refine wpList_load_evo _ A (off + k * 19) e ax cx r1 ?_ rfl ?_); exact rfl)
      | (refine wpList_buildOne rfl 28 43 _ rfl (evCells e ax cx).toArray 19 rfl rfl (by decide) (by decide) Tryz.underlying28 (by kernel_rfl) (by kernel_rfl) ?_)
      | (at_builtin; go_loud (refine wpList_append_own_at _ rfl _ _ 28 rfl w.heap.size 43 i0 (.agg (evCells ev0 none 0).toArray) 19 176 Tryz.underlying28 hi hz0 hz1 hz2 rfl (by decide) _ _ _ rfl (hownB.alloc _) ⟨wr.heap.size, 0, none⟩ 1 1 (evCells e ax cx) rfl rfl (evs_new wr e ax cx _) (evCells_one _ _ _) (by unfold maxLen; omega) (by omega) (by simp; omega) ?_)))
     intro v' wf hownf hgrow _ hat
     have hal : Below wr.heap.size wr (wr.alloc (Obj.cells (evCells e ax cx).toArray 43)) := (Below.refl _ _).alloc (Nat.le_refl _) _
     have hbF : Below w.heap.size w wf := (hB.trans (hal.mono hzr)).grown hgrow (by have := hal.size; omega) (fun j hj => (hownB.lt j hj).1)
     have hAf := own_grown_ne (hownA.alloc _) (fun g hg e9 => HNE.out g e9 hg) hgrow
     have hnef : ∀ g, u.ownBlock = some g → v'.ownBlock ≠ some g := fun g e9 hg => by
      rcases hat with h9 | h9
      ·exact HNE.out g e9 (h9.symm.trans hg)
      ·rw [h9] at hg
       simp only [Option.some.injEq, World.size_alloc] at hg
       have := (hownA.lt g e9).2
       omega
     have HZ : Hid (wf.ownsRow w.heap.size 43 19 u ((ls.take (k + 1)).filter p).length (evItCells ((ls.take (k + 1)).filter p)) ∧ wf.ownsRow w.heap.size 43 19 v' ((ls.take (k + 1)).filter q).length (evItCells ((ls.take (k + 1)).filter q)) ∧ (∀ g, u.ownBlock = some g → v'.ownBlock ≠ some g) ∧ Below w.heap.size w wf) := by
      refine ⟨?_, ?_, hnef, hbF⟩
      ·rw [HS.out.2]
       exact hAf
      ·rw [HS.out.1, evItCells_snoc, List.length_append]
       exact hownf
     clear hownf hgrow hat hal hbF hownA hownB hAf hnef r1 q0 hpz
     go_wp2
     go_roundw
     case rel => exact ⟨k + 1, by go_num, HLT.out, HZ.out.1, HZ.out.2.1, HZ.out.2.2.1, HZ.out.2.2.2⟩
     case measure => have := HLT.out; simp [intOf] <;> omega
  ·obtain rfl : k = ls.length := by omega
   rw [List.take_length] at hownA hownB
   have HEr := Lib.hid (hE.kept hB)
   obtain ⟨aB, cB, rfl, hinB, hcB⟩ := own_cellsIn hownB
   have hfa2 : (ls.filter p).length ≤ 4096 := Nat.le_trans (List.length_filter_le _ _) hl
   have hfb2 : (ls.filter q).length ≤ 4096 := Nat.le_trans (List.length_filter_le _ _) hl
   have hlenB := evIt_length (ls.filter q)
   go_wp2_with (at_builtin; go_loud (refine wpList_append_cells rfl _ _ 28 rfl w.heap.size 43 i0 (.agg (evCells ev0 none 0).toArray) 19 176 Tryz.underlying28 hi hz0 hz1 hz2 rfl (by decide) _ _ _ rfl hownA aB _ cB (evItCells (ls.filter q)) rfl hlenB hinB (evIt_one _) (by unfold maxLen; omega) (by omega) hzr ?_))
   intro v' wf hownf hgrow
   have hbF : Below w.heap.size w wf := hB.grown hgrow hzr (fun j hj => (hownA.lt j hj).1)
   have hown9 : wf.ownsRow w.heap.size 43 19 v' (ls.filter p ++ ls.filter q).length (evItCells (ls.filter p ++ ls.filter q)) := by
        rw [List.length_append, show evItCells (ls.filter p ++ ls.filter q) = evItCells (ls.filter p) ++ evItCells (ls.filter q) from List.flatMap_append]
        exact hownf
   have hd9 : ∀ x ∈ ls.filter p ++ ls.filter q, DotsIn wf x.2.1 x.1.over := fun x hx => (hE.dots x (by rcases List.mem_append.1 hx with h | h <;> exact (List.mem_filter.1 h).1)).kept hbF
   obtain ⟨aF, cF, rfl, hEF⟩ := evsIn_own hown9 hd9
   have HZ := Lib.hid (And.intro hEF hbF)
   clear hEF hbF hown9 hd9 hownf hgrow hownA hownB hlenB hinB hfa2 hfb2 hne
   go_wp2
   go_ret
   rw [HL.out]
   exact ⟨aF, cF, rfl, HZ.out.1, HZ.out.2⟩
end Go.Proofs.YtpbobhfnglikmaaGreat
