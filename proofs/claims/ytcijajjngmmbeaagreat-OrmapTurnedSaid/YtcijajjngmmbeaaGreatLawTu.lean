/- The law OrmapTurned, walked. Conditions: none. -/
import Derived.Test.YtcijajjngmmbeaaGreatOwnM
import Derived.Test.YtcijajjngmmbeaaGreatTurnP
set_option linter.unusedSimpArgs false
set_option linter.unusedVariables false
set_option linter.unnecessarySimpa false
namespace Go.Proofs.YtcijajjngmmbeaaGreat
open Go.RowKit

def spB (dv : Int) (first : Bool) (z : EvIt) : Bool := (z.1.dot.a.dev == dv) == first
def spE (dv : Int) (first : Bool) (e : Ev) : Bool := (e.dot.a.dev == dv) == first
def spL (dv : Int) (first : Bool) (ls : List EvIt) : List EvIt := ls.filter (spB dv first) ++ ls.filter (fun z => !spB dv first z)
theorem spL_mem {dv : Int} {first : Bool} {ls : List EvIt} {x : EvIt} (h : x ∈ spL dv first ls) : x ∈ ls := by
  rcases List.mem_append.1 h with h | h <;> exact (List.mem_filter.1 h).1
theorem spL_len (dv : Int) (first : Bool) : ∀ ls : List EvIt, (spL dv first ls).length = ls.length
  | [] => rfl
  | x :: ls => by
    have ih := spL_len dv first ls
    unfold spL at ih ⊢
    rw [List.length_append] at ih ⊢
    rw [List.filter_cons, List.filter_cons]
    cases h : spB dv first x
    · simp; omega
    · simp; omega
theorem spL_evs (dv : Int) (first : Bool) (ls : List EvIt) : evsOf (spL dv first ls) = (evsOf ls).filter (spE dv first) ++ (evsOf ls).filter (fun e => !spE dv first e) := by
  unfold spL
  rw [show ∀ a b : List EvIt, evsOf (a ++ b) = evsOf a ++ evsOf b from fun a b => by unfold evsOf; rw [List.map_append]]
  congr 1
  · exact evsOf_filter (spE dv first) ls
  · exact evsOf_filter (fun e => !spE dv first e) ls
def RetTu (ls : List EvIt) (w : World) (e : Ending) (w' : World) : Prop := ∃ a ds c, e = .returned (.slice a ds.length c) ∧ EvsIn w' a ds ∧ (ds.length = ls.length ∧ (∀ x ∈ ds, x ∈ ls) ∧ ∃ p : Ev → Bool, (∀ x y : Ev, x.dot.a = y.dot.a → p x = p y) ∧ evsOf ds = (evsOf ls).filter p ++ (evsOf ls).filter fun e => !p e) ∧ Below w.heap.size w w'
def RetSp (l : List EvIt) (w : World) (e : Ending) (w' : World) : Prop := ∃ a c, e = .returned (.slice a l.length c) ∧ EvsIn w' a l ∧ Below w.heap.size w w'

set_option maxRecDepth 100000 in
set_option maxHeartbeats 8000000 in
theorem rSpl_any (a : Option Addr) (ca : Nat) (ls : List EvIt) (dv : Int) (first : Bool) (w : World) (hl : ls.length ≤ 4096) (hE : EvsIn w a ls) :
    Calls Tryz.prog 39 #[.slice a ls.length ca, .int .i64 dv, .bool first] w (RetSp (spL dv first ls) w) := by
  obtain ⟨i0, hi, hz0, hz1, hz2⟩ := info_parts Tryz.infoEv
  obtain ⟨p, hp⟩ : ∃ p, p = spB dv first := ⟨_, rfl⟩
  have HPD : Hid (∀ z : EvIt, p z = ((z.1.dot.a.dev == dv) == first)) := fun z => by rw [hp]; rfl
  obtain ⟨q, hq⟩ : ∃ q : EvIt → Bool, q = fun z => !p z := ⟨_, rfl⟩
  have HQD : Hid (∀ z : EvIt, q z = !p z) := fun z => by rw [hq]
  have HL : Hid (spL dv first ls = ls.filter p ++ ls.filter q) := by unfold Hid; rw [hq, hp]; rfl
  have HLL : Hid ((ls.filter p ++ ls.filter q).length = ls.length) := by unfold Hid; rw [← HL.out, spL_len]
  clear hp hq
  go_enter Tryz.func39, Tryz.ntmps39
  go_upto_region 3 with fail
  refine wp_name (fun V hV => ?_)
  have hb0 : Below w.heap.size w V := by rw [hV.out]; exact ((Below.refl _ _).alloc (Nat.le_refl _) _).alloc (by simp) _
  have hA0 : V.ownsRow w.heap.size 42 19 (.slice (some ⟨w.heap.size, 0, none⟩) 0 0) 0 [] := by
    rw [hV.out]
    exact (World.ownsRow_made _ _ _ (Nat.le_refl _) (by decide) rfl : (w.alloc (Obj.cells #[] 42)).ownsRow w.heap.size 42 19 (.slice (some ⟨w.heap.size, 0, none⟩) 0 0) 0 []).alloc _
  have hB0 : V.ownsRow w.heap.size 42 19 (.slice (some ⟨w.heap.size + 1, 0, none⟩) 0 0) 0 [] := by
    rw [hV.out]
    have h9 : ((w.alloc (Obj.cells #[] 42)).alloc (Obj.cells #[] 42)).ownsRow w.heap.size 42 19 (.slice (some ⟨(w.alloc (Obj.cells #[] 42)).heap.size, 0, none⟩) 0 0) 0 [] := World.ownsRow_made _ _ _ (by simp) (by decide) rfl
    rwa [show (w.alloc (Obj.cells #[] 42)).heap.size = w.heap.size + 1 by simp] at h9
  have hne0 : ∀ g, (Value.slice (some ⟨w.heap.size, 0, none⟩) 0 0).ownBlock = some g → (Value.slice (some ⟨w.heap.size + 1, 0, none⟩) 0 0).ownBlock ≠ some g := fun g h1 h2 => by
    simp [Value.ownBlock] at h1 h2
    omega
  clear hV
  go_wp2
  go_loopw [7, 8, 9] (fun u v i wr => ∃ k : Nat, i = .int .i64 k ∧ k ≤ ls.length ∧ wr.ownsRow w.heap.size 42 19 u ((ls.take k).filter p).length (evItCells ((ls.take k).filter p)) ∧ wr.ownsRow w.heap.size 42 19 v ((ls.take k).filter q).length (evItCells ((ls.take k).filter q)) ∧ (∀ g, u.ownBlock = some g → v.ownBlock ≠ some g) ∧ Below w.heap.size w wr) (fun _ _ i _ => ls.length - (intOf i).toNat)
  case atStart => exact ⟨0, rfl, Nat.zero_le _, hA0, hB0, hne0, hb0⟩
  case round =>
    obtain ⟨k, rfl, hk, hownA, hownB, hne, hB⟩ := hrel
    clear hA0 hB0 hne0 hb0
    obtain ⟨u, hu⟩ : ∃ u, u = u7 := ⟨_, rfl⟩
    obtain ⟨v, hv⟩ : ∃ v, v = u8 := ⟨_, rfl⟩
    rw [← hu, ← hv] at hne
    rw [← hu] at hownA ⊢
    rw [← hv] at hownB ⊢
    clear hu hv
    have hzr := hB.size
    have hfa : ((ls.take k).filter p).length ≤ 4096 := by
      have h1 := List.length_filter_le p (ls.take k)
      rw [List.length_take] at h1
      omega
    have hfb : ((ls.take k).filter q).length ≤ 4096 := by
      have h1 := List.length_filter_le q (ls.take k)
      rw [List.length_take] at h1
      omega
    by_cases hlt : k < ls.length
    · obtain ⟨A, off, rfl, hra, _⟩ := (hE.kept hB).at hlt
      have r1 := hra k hlt
      have HAY := Lib.hid (fun h => filt_yes (p := p) hlt h)
      have HAN := Lib.hid (fun h => filt_no (p := p) hlt h)
      have HBY := Lib.hid (fun h => filt_yes (p := q) hlt h)
      have HBN := Lib.hid (fun h => filt_no (p := q) hlt h)
      have HP1 := Lib.hid (HPD.out ls[k])
      have HQ1 := Lib.hid (HQD.out ls[k])
      have HLT := Lib.hid hlt
      have HNE := Lib.hid hne
      generalize ls[k] = x at *
      obtain ⟨e, ax, cx⟩ := x
      simp only [itEv] at r1
      have HP2 : Hid (p (e, ax, cx) = ((e.dot.a.dev == dv) == first)) := HP1.out
      have q0 := r1 0 _ rfl
      simp only [Nat.add_zero] at q0
      clear hra HP1 hne
      cases hpz : ((e.dot.a.dev == dv) == first) with
      | true =>
        have HS : Hid ((ls.take (k + 1)).filter p = (ls.take k).filter p ++ [(e, ax, cx)] ∧ (ls.take (k + 1)).filter q = (ls.take k).filter q) := ⟨HAY.out (by rw [HP2.out, hpz]), HBN.out (by rw [HQ1.out, HP2.out, hpz]; rfl)⟩
        go_wp2_with (first
          | ((with_reducible refine wpList_load_evo _ A (off + k * 19) e ax cx r1 ?_ rfl ?_); exact rfl)
          | (refine wpList_buildOne rfl 22 42 _ rfl (evCells e ax cx).toArray 19 rfl rfl (by decide) (by decide) Tryz.underlying22 (by kernel_rfl) (by kernel_rfl) ?_)
          | (at_builtin; go_loud (refine wpList_append_own_at _ rfl _ _ 22 rfl w.heap.size 42 i0 (.agg (evCells ev0 none 0).toArray) 19 176 Tryz.underlying22 hi hz0 hz1 hz2 rfl (by decide) _ _ _ rfl (hownA.alloc _) ⟨wr.heap.size, 0, none⟩ 1 1 (evCells e ax cx) rfl rfl (evs_new wr e ax cx _) (evCells_one _ _ _) (by unfold maxLen; omega) (by omega) (by simp; omega) ?_)))
        intro v' wf hownf hgrow _ hat
        have hal : Below wr.heap.size wr (wr.alloc (Obj.cells (evCells e ax cx).toArray 42)) := (Below.refl _ _).alloc (Nat.le_refl _) _
        have hbF : Below w.heap.size w wf := (hB.trans (hal.mono hzr)).grown hgrow (by have := hal.size; omega) (fun j hj => (hownA.lt j hj).1)
        have hBf := own_grown_ne (hownB.alloc _) (fun g hg => HNE.out g hg) hgrow
        have hnef : ∀ g, v'.ownBlock = some g → v.ownBlock ≠ some g := fun g hg e9 => by
          rcases hat with h9 | h9
          · exact HNE.out g (h9.symm.trans hg) e9
          · rw [h9] at hg
            simp only [Option.some.injEq, World.size_alloc] at hg
            have := (hownB.lt g e9).2
            omega
        have HZ : Hid (wf.ownsRow w.heap.size 42 19 v' ((ls.take (k + 1)).filter p).length (evItCells ((ls.take (k + 1)).filter p)) ∧ wf.ownsRow w.heap.size 42 19 v ((ls.take (k + 1)).filter q).length (evItCells ((ls.take (k + 1)).filter q)) ∧ (∀ g, v'.ownBlock = some g → v.ownBlock ≠ some g) ∧ Below w.heap.size w wf) := by
          refine ⟨?_, ?_, hnef, hbF⟩
          · rw [HS.out.1, evItCells_snoc, List.length_append]
            exact hownf
          · rw [HS.out.2]
            exact hBf
        clear hownf hgrow hat hal hbF hownA hownB hBf hnef r1 q0 hpz
        go_wp2
        go_roundw
        case rel => exact ⟨k + 1, by go_num, HLT.out, HZ.out.1, HZ.out.2.1, HZ.out.2.2.1, HZ.out.2.2.2⟩
        case measure => have := HLT.out; simp [intOf] <;> omega
      | false =>
        have HS : Hid ((ls.take (k + 1)).filter q = (ls.take k).filter q ++ [(e, ax, cx)] ∧ (ls.take (k + 1)).filter p = (ls.take k).filter p) := ⟨HBY.out (by rw [HQ1.out, HP2.out, hpz]; rfl), HAN.out (by rw [HP2.out, hpz])⟩
        go_wp2_with (first
          | ((with_reducible refine wpList_load_evo _ A (off + k * 19) e ax cx r1 ?_ rfl ?_); exact rfl)
          | (refine wpList_buildOne rfl 22 42 _ rfl (evCells e ax cx).toArray 19 rfl rfl (by decide) (by decide) Tryz.underlying22 (by kernel_rfl) (by kernel_rfl) ?_)
          | (at_builtin; go_loud (refine wpList_append_own_at _ rfl _ _ 22 rfl w.heap.size 42 i0 (.agg (evCells ev0 none 0).toArray) 19 176 Tryz.underlying22 hi hz0 hz1 hz2 rfl (by decide) _ _ _ rfl (hownB.alloc _) ⟨wr.heap.size, 0, none⟩ 1 1 (evCells e ax cx) rfl rfl (evs_new wr e ax cx _) (evCells_one _ _ _) (by unfold maxLen; omega) (by omega) (by simp; omega) ?_)))
        intro v' wf hownf hgrow _ hat
        have hal : Below wr.heap.size wr (wr.alloc (Obj.cells (evCells e ax cx).toArray 42)) := (Below.refl _ _).alloc (Nat.le_refl _) _
        have hbF : Below w.heap.size w wf := (hB.trans (hal.mono hzr)).grown hgrow (by have := hal.size; omega) (fun j hj => (hownB.lt j hj).1)
        have hAf := own_grown_ne (hownA.alloc _) (fun g hg e9 => HNE.out g e9 hg) hgrow
        have hnef : ∀ g, u.ownBlock = some g → v'.ownBlock ≠ some g := fun g e9 hg => by
          rcases hat with h9 | h9
          · exact HNE.out g e9 (h9.symm.trans hg)
          · rw [h9] at hg
            simp only [Option.some.injEq, World.size_alloc] at hg
            have := (hownA.lt g e9).2
            omega
        have HZ : Hid (wf.ownsRow w.heap.size 42 19 u ((ls.take (k + 1)).filter p).length (evItCells ((ls.take (k + 1)).filter p)) ∧ wf.ownsRow w.heap.size 42 19 v' ((ls.take (k + 1)).filter q).length (evItCells ((ls.take (k + 1)).filter q)) ∧ (∀ g, u.ownBlock = some g → v'.ownBlock ≠ some g) ∧ Below w.heap.size w wf) := by
          refine ⟨?_, ?_, hnef, hbF⟩
          · rw [HS.out.2]
            exact hAf
          · rw [HS.out.1, evItCells_snoc, List.length_append]
            exact hownf
        clear hownf hgrow hat hal hbF hownA hownB hAf hnef r1 q0 hpz
        go_wp2
        go_roundw
        case rel => exact ⟨k + 1, by go_num, HLT.out, HZ.out.1, HZ.out.2.1, HZ.out.2.2.1, HZ.out.2.2.2⟩
        case measure => have := HLT.out; simp [intOf] <;> omega
    · obtain rfl : k = ls.length := by omega
      rw [List.take_length] at hownA hownB
      have HEr := Lib.hid (hE.kept hB)
      obtain ⟨aB, cB, rfl, hinB, hcB⟩ := own_cellsIn hownB
      have hfa2 : (ls.filter p).length ≤ 4096 := Nat.le_trans (List.length_filter_le _ _) hl
      have hfb2 : (ls.filter q).length ≤ 4096 := Nat.le_trans (List.length_filter_le _ _) hl
      have hlenB := evIt_length (ls.filter q)
      go_wp2_with (at_builtin; go_loud (refine wpList_append_cells rfl _ _ 22 rfl w.heap.size 42 i0 (.agg (evCells ev0 none 0).toArray) 19 176 Tryz.underlying22 hi hz0 hz1 hz2 rfl (by decide) _ _ _ rfl hownA aB _ cB (evItCells (ls.filter q)) rfl hlenB hinB (evIt_one _) (by unfold maxLen; omega) (by omega) hzr ?_))
      intro v' wf hownf hgrow
      have hbF : Below w.heap.size w wf := hB.grown hgrow hzr (fun j hj => (hownA.lt j hj).1)
      have hown9 : wf.ownsRow w.heap.size 42 19 v' (ls.filter p ++ ls.filter q).length (evItCells (ls.filter p ++ ls.filter q)) := by
        rw [List.length_append, show evItCells (ls.filter p ++ ls.filter q) = evItCells (ls.filter p) ++ evItCells (ls.filter q) from List.flatMap_append]
        exact hownf
      have hd9 : ∀ x ∈ ls.filter p ++ ls.filter q, DotsIn wf x.2.1 x.1.over := fun x hx => (hE.dots x (by rcases List.mem_append.1 hx with h | h <;> exact (List.mem_filter.1 h).1)).kept hbF
      obtain ⟨aF, cF, rfl, hEF⟩ := evsIn_own hown9 hd9
      have HZ := Lib.hid (And.intro hEF hbF)
      clear hEF hbF hown9 hd9 hownf hgrow hownA hownB hlenB hinB hfa2 hfb2 hne
      go_wp2
      go_ret
      rw [HL.out]
      exact ⟨aF, cF, rfl, HZ.out.1, HZ.out.2⟩

set_option maxRecDepth 100000 in
set_option maxHeartbeats 16000000 in
theorem lawTu_any (a : Option Addr) (ca : Nat) (ls : List EvIt) (c : UInt8) (first : Bool) (w : World) (hE : EvsArg w a ls) :
    Calls Tryz.prog 7 #[.slice a ls.length ca, .int .u8 c.toNat, .bool first] w fun x w' => x = .returned (.bool true) ∧ Below w.heap.size w w' := by
  have HL0 : ∀ X, EvsIn X a ls → Calls Tryz.prog 14 #[.slice a ls.length ca, .int .i64 40] X fun x w' => x = .returned (.bool (lightAll 40 (evsOf ls))) ∧ Below X.heap.size X w' := fun X h => LightAll_any a ca 40 ls X (by decide) hE.len h (fun x hx => ⟨(hE.each x hx).over, (hE.each x hx).name, (hE.each x hx).domain, (hE.each x hx).path, (hE.each x hx).value⟩)
  have HA := Lib.hid awake21_any
  have hEi := hE.evs
  clear hE
  cases hli : lightAll 40 (evsOf ls) with
  | false =>
    rw [hli] at HL0
    have HL := Lib.hid (HL0 w hEi)
    clear HL0 hli
    go_enter Tryz.func7, Tryz.ntmps7
    go_wp2_with (first
      | (go_at_call 14; (with_reducible refine HL.out.mono ?_); rintro x w1 ⟨rfl, hb1⟩)
      | (go_at_call 15; (with_reducible refine (HA.out _).mono ?_); rintro x w2 ⟨rfl, hb2⟩))
    go_ret
    exact ⟨rfl, hb1.trans (hb2.mono hb1.size)⟩
  | true =>
    obtain ⟨hls, hsl⟩ := light_evs hli
    rw [hli] at HL0
    have HL := Lib.hid (HL0 w hEi)
    clear HL0 hli
    have HN := Lib.hid (fun X => mNew_any X)
    have HFo := Lib.hid (fun (X : World) (hE : EvsIn X a ls) => rFold_any a ca ls X (by omega) hE hsl)
    have hsp : ∀ (dv : Int) (X : World) (hE : EvsIn X a ls), Calls Tryz.prog 39 #[.slice a ls.length ca, .int .i64 dv, .bool first] X (RetTu ls X) := fun dv X hE => (rSpl_any a ca ls dv first X (by omega) hE).mono fun e w' ⟨a, c, h1, h2, h3⟩ => ⟨a, _, c, h1, h2, ⟨spL_len dv first ls, fun x hx => spL_mem hx, spE dv first, fun x y h => by unfold spE; rw [h], spL_evs dv first ls⟩, h3⟩
    have HSp := Lib.hid hsp
    clear hsp
    have HSM := Lib.hid hsl
    go_enter Tryz.func7, Tryz.ntmps7
    go_upto_region 4 with (first
      | (go_at_call 14; (with_reducible refine HL.out.mono ?_); rintro x w9 ⟨rfl, hb9⟩)
      | (go_at_call 16; (with_reducible refine (HN.out _).mono ?_); rintro x w1 ⟨m, b, rfl, hm, hb1, hlo, hfo⟩))
    have hE9 := hEi.kept hb9
    have hmlow : ∀ z, foot b MS.empty.A z → z < w1.heap.size := fun z hz => hm.low hz
    clear hlo hEi
    go_upto_region 5 with (go_at_call 16; (with_reducible refine (HN.out _).mono ?_); rintro x w2 ⟨n, bn, rfl, hn, hb2, hlo, hfn⟩)
    have hm2 := hm.kept_w hb2
    have hnlow : ∀ z, foot bn MS.empty.A z → w1.heap.size ≤ z ∧ z < w2.heap.size := fun z hz => ⟨hfn z hz, hn.low hz⟩
    have hfb : ∀ z, foot b MS.empty.A z → w9.heap.size ≤ z ∧ ¬ (w1.heap.size ≤ z ∧ z < w2.heap.size) := fun z hz => ⟨hfo z hz, fun h => by have := hmlow z hz; omega⟩
    have hbV : Below w9.heap.size w9 w2 := hb1.trans (hb2.mono hb1.size)
    have hb91 := hb1.size
    generalize w1.heap.size = lo at *
    obtain ⟨hi', hhi⟩ : ∃ x, x = w2.heap.size := ⟨_, rfl⟩
    rw [← hhi] at hnlow hfb
    have hhi2 : hi' ≤ w2.heap.size := Nat.le_of_eq hhi
    have HNL := Lib.hid hnlow
    clear hhi hm hb1 hb2 hmlow hfn hlo hfo HL HN hnlow
    go_wp2
    go_loopw [9] (fun i wr => ∃ (j : Nat) (s : MS) (k : Nat) (f : Int), i = .int .i64 j ∧ j ≤ ls.length ∧ MpIn wr m b s ∧ MpIn wr n bn MS.empty ∧ Merged MS.empty ((evsOf ls).take j) s k f ∧ (∀ z, foot b s.A z → w9.heap.size ≤ z ∧ ¬ (lo ≤ z ∧ z < hi')) ∧ hi' ≤ wr.heap.size ∧ Below w9.heap.size w9 wr) (fun i _ => ls.length - (intOf i).toNat)
    case atStart => exact ⟨0, MS.empty, 0, 0, rfl, Nat.zero_le _, hm2, hn, Merged.nil, hfb, hhi2, hbV⟩
    case round =>
      obtain ⟨j, s, k, f, rfl, hj, hmr, hnr, hM, hfr, hhr, hbr⟩ := hrel
      clear hm2 hn hfb hbV hhi2
      obtain ⟨hiv, g1, g2, g3⟩ := hM.facts MInv.empty
      rw [List.length_take, evsOf_length] at g1 g2 g3
      have hMe : MS.empty.ctx.length = 0 ∧ MS.empty.dead.length = 0 := ⟨rfl, rfl⟩
      have HM := Lib.hid hM
      by_cases hlt : j < ls.length
      · obtain ⟨A, off, rfl, hra, hda⟩ := (hE9.kept hbr).at hlt
        have r1 := hra j hlt
        have hse := HSM.out _ (List.getElem_mem hlt)
        have HT : Hid ((evsOf ls).take (j + 1) = (evsOf ls).take j ++ [ls[j].1]) := by
          unfold Hid
          rw [List.take_add_one, List.getElem?_eq_getElem (by rw [evsOf_length]; exact hlt), evsOf_at hlt]
          rfl
        have HLT := Lib.hid hlt
        have hkl : j ≤ 40 := by omega
        generalize ls[j] = x at *
        obtain ⟨e, ax, cx⟩ := x
        simp only [itEv] at r1
        simp only at hda hse HT
        have hn0 : ax = none → e.over = [] := fun hn => by rcases hda with h | ⟨A, off, h3, _⟩; exact h; rw [hn] at h3; cases h3
        have HAp := Lib.hid (mApply_any e ax cx wr hmr hiv hse hda hn0 (by omega) (by omega))
        have HB := Lib.hid (And.intro hbr (And.intro hfr (And.intro hmr (And.intro hnr hhr))))
        clear hra hse hda hM hmr hnr hfr hhr hiv g1 g2 g3 hbr hn0
        go_wp2_with (first
          | ((with_reducible refine wpList_load_evo _ A (off + j * 19) e ax cx r1 ?_ rfl ?_); exact rfl)
          | (go_at_call 17; (with_reducible refine HAp.out.mono ?_); rintro v w3 ⟨s2, rfl, hm3, hf3, hft3, hap3⟩))
        have HZ : Hid (MpIn w3 m b s2 ∧ MpIn w3 n bn MS.empty ∧ Merged MS.empty ((evsOf ls).take (j + 1)) s2 (if apOk s e = true then k + 1 else k) (if f = 0 then apErr s e else f) ∧ (∀ z, foot b s2.A z → w9.heap.size ≤ z ∧ ¬ (lo ≤ z ∧ z < hi')) ∧ hi' ≤ w3.heap.size ∧ Below w9.heap.size w9 w3) := by
          obtain ⟨hbr, hfr, hmr, hnr, hhr⟩ := HB.out
          have hz3 := hf3.size
          refine ⟨hm3, hnr.other hf3 (hmr.keeps hf3 (fun _ h => h)) (fun q hq hq2 => (hfr q hq).2 (HNL.out q hq2)), by rw [HT.out]; exact Merged.snoc HM.out hap3, fun z hz => ?_, by omega, hbr.trans (hf3.below hbr.size (fun q hq => (hfr q hq).1))⟩
          rcases hft3 z hz with h3 | h3
          · exact hfr z h3
          · exact ⟨Nat.le_trans hbr.size h3, fun h => by omega⟩
        clear hm3 hf3 hft3 hap3 HAp r1
        go_roundw
        case rel => exact ⟨j + 1, s2, _, _, by go_num, HLT.out, HZ.out.1, HZ.out.2.1, HZ.out.2.2.1, HZ.out.2.2.2.1, HZ.out.2.2.2.2.1, HZ.out.2.2.2.2.2⟩
        case measure => have := HLT.out; simp [intOf] <;> omega
      · obtain rfl : j = ls.length := by omega
        have hM2 : Merged MS.empty (evsOf ls) s k f := by
          have := HM.out
          rwa [List.take_of_length_le (by rw [evsOf_length]; exact Nat.le_refl _)] at this
        have HM2 := Lib.hid hM2
        have HI := Lib.hid hiv
        have HSp1 := Lib.hid (fun dv => HSp.out dv wr (hE9.kept hbr))
        have HGG := Lib.hid (And.intro g1 g2)
        clear hM hiv hM2 HM g1 g2 g3 HSp hMe
        go_upto_region 10 with (go_at_call 39; (with_reducible refine (HSp1.out _).mono ?_); rintro v w5 ⟨aS, ds, cS, rfl, hES, hdd, hb5⟩; have HDD := Lib.hid hdd; clear hdd)
        obtain ⟨hdl, hdm, pp, hpp, hde⟩ := HDD.out
        have HSM2 : Hid (∀ x ∈ ds, EvSmall x.1) := fun x hx => HSM.out x (hdm x hx)
        have HSE : Hid ((evsOf ds).foldl rmAp RM.empty = (evsOf ls).foldl rmAp RM.empty) := by
          unfold Hid
          rw [hde]
          exact fold_split pp hpp (evsOf ls) RInv.empty (by rw [evsOf_length]; show 0 + _ ≤ _; omega)
        have hdl2 : ds.length ≤ 40 := by omega
        have hm5 := hmr.kept_w hb5
        have hn5 := hnr.kept_w hb5
        have hlow5 : ∀ z, foot b s.A z → z < w5.heap.size := fun z hz => hm5.low hz
        have hb95 : Below w9.heap.size w9 w5 := hbr.trans (hb5.mono hbr.size)
        have hfn5 : ∀ z, foot bn MS.empty.A z → (lo ≤ z ∧ z < hi') ∨ w5.heap.size ≤ z := fun z hz => Or.inl (HNL.out z hz)
        have HFB := Lib.hid (And.intro hfr hlow5)
        have HB95 : Hid (w9.heap.size ≤ w5.heap.size) := hb95.size
        clear hdl hdm hpp hde HDD hmr hnr hb5 hlow5 hfr hbr hhr HSp1
        go_wp2
        go_loopw [11] (fun i wr => ∃ (j : Nat) (t : MS) (k : Nat) (f : Int), i = .int .i64 j ∧ j ≤ ds.length ∧ MpIn wr m b s ∧ MpIn wr n bn t ∧ Merged MS.empty ((evsOf ds).take j) t k f ∧ (∀ z, foot bn t.A z → (lo ≤ z ∧ z < hi') ∨ w5.heap.size ≤ z) ∧ KeepsC w5 wr ∧ w5.heap.size ≤ wr.heap.size ∧ Below w9.heap.size w9 wr) (fun i _ => ds.length - (intOf i).toNat)
        case atStart => exact ⟨0, MS.empty, 0, 0, rfl, Nat.zero_le _, hm5, hn5, Merged.nil, hfn5, fun _ _ _ _ h => h, Nat.le_refl _, hb95⟩
        case round =>
          obtain ⟨j, t, k, f, rfl, hj, hmr, hnr, hM, hfr, hkr, hz5, hbr⟩ := hrel
          clear hm5 hn5 hfn5 hb95
          obtain ⟨hiv, g1, g2, g3⟩ := hM.facts MInv.empty
          rw [List.length_take, evsOf_length] at g1 g2 g3
          have hMe : MS.empty.ctx.length = 0 ∧ MS.empty.dead.length = 0 := ⟨rfl, rfl⟩
          have HM := Lib.hid hM
          by_cases hlt : j < ds.length
          · obtain ⟨A, off, rfl, hra, hda⟩ := (hkr.evs hES).at hlt
            have r1 := hra j hlt
            have hse := HSM2.out _ (List.getElem_mem hlt)
            have HT : Hid ((evsOf ds).take (j + 1) = (evsOf ds).take j ++ [ds[j].1]) := by
              unfold Hid
              rw [List.take_add_one, List.getElem?_eq_getElem (by rw [evsOf_length]; exact hlt), evsOf_at hlt]
              rfl
            have HLT := Lib.hid hlt
            have hkl : j ≤ 40 := by omega
            generalize ds[j] = x at *
            obtain ⟨e, ax, cx⟩ := x
            simp only [itEv] at r1
            simp only at hda hse HT
            have hn0 : ax = none → e.over = [] := fun hn => by rcases hda with h | ⟨A, off, h3, _⟩; exact h; rw [hn] at h3; cases h3
            have HAp := Lib.hid (mApply_any e ax cx wr hnr hiv hse hda hn0 (by omega) (by omega))
            have HB := Lib.hid (And.intro hbr (And.intro hfr (And.intro hmr (And.intro hnr (And.intro hkr hz5)))))
            clear hra hse hda hM hmr hnr hfr hkr hz5 hiv g1 g2 g3 hbr hn0
            go_wp2_with (first
              | ((with_reducible refine wpList_load_evo _ A (off + j * 19) e ax cx r1 ?_ rfl ?_); exact rfl)
              | (go_at_call 17; (with_reducible refine HAp.out.mono ?_); rintro v w3 ⟨s2, rfl, hm3, hf3, hft3, hap3⟩))
            have HZ : Hid (MpIn w3 m b s ∧ MpIn w3 n bn s2 ∧ Merged MS.empty ((evsOf ds).take (j + 1)) s2 (if apOk t e = true then k + 1 else k) (if f = 0 then apErr t e else f) ∧ (∀ z, foot bn s2.A z → (lo ≤ z ∧ z < hi') ∨ w5.heap.size ≤ z) ∧ KeepsC w5 w3 ∧ w5.heap.size ≤ w3.heap.size ∧ Below w9.heap.size w9 w3) := by
              obtain ⟨hbr, hfr, hmr, hnr, hkr, hz5⟩ := HB.out
              have hz3 := hf3.size
              have hk3 := hnr.keeps hf3 (fun _ h => h)
              refine ⟨hmr.other hf3 hk3 (fun q hq hq2 => ?_), hm3, by rw [HT.out]; exact Merged.snoc HM.out hap3, fun z hz => ?_, hkr.trans hk3, by omega, hbr.trans (hf3.below hbr.size (fun q hq => ?_))⟩
              · rcases hfr q hq with h9 | h9
                · exact (HFB.out.1 q hq2).2 h9
                · have := HFB.out.2 q hq2; omega
              · rcases hft3 z hz with h3 | h3
                · exact hfr z h3
                · exact Or.inr (Nat.le_trans hz5 h3)
              · rcases hfr q hq with h9 | h9
                · exact Nat.le_trans hb91 h9.1
                · have := HB95.out; omega
            clear hm3 hf3 hft3 hap3 HAp r1
            go_roundw
            case rel => exact ⟨j + 1, s2, _, _, by go_num, HLT.out, HZ.out.1, HZ.out.2.1, HZ.out.2.2.1, HZ.out.2.2.2.1, HZ.out.2.2.2.2.1, HZ.out.2.2.2.2.2.1, HZ.out.2.2.2.2.2.2⟩
            case measure => have := HLT.out; simp [intOf] <;> omega
          · obtain rfl : j = ds.length := by omega
            have hN2 : Merged MS.empty (evsOf ds) t k f := by
              have := HM.out
              rwa [List.take_of_length_le (by rw [evsOf_length]; exact Nat.le_refl _)] at this
            have HN2 := Lib.hid hN2
            have HI2 := Lib.hid hiv
            have HFo1 := Lib.hid (HFo.out wr (hE9.kept hbr))
            have HGG2 := Lib.hid (And.intro g1 g2)
            clear hM hiv hN2 HM g1 g2 g3 hMe hES hkr hz5 hfr HFo
            go_upto_region 15 with (first
              | (go_at_call 18; (with_reducible refine HFo1.out.mono ?_); rintro v w6 ⟨y, rfl, hIn, hy, hb6⟩)
              | (refine wpList_store_new 45 _ _ _ (rmRow y) rfl rfl (by kernel_rfl) rfl (by kernel_rfl) ?_))
            have hbA := (Below.refl w6.heap.size w6).alloc (Nat.le_refl _) (.cells (rmRow y) 45)
            have hAt : RMAt (w6.alloc (.cells (rmRow y) 45)) w6.heap.size y := heap_last0 _ _
            obtain ⟨W6, hW6⟩ : ∃ W6, W6 = w6.alloc (.cells (rmRow y) 45) := ⟨_, rfl⟩
            rw [← hW6] at hbA hAt ⊢
            have hb6A : Below wr.heap.size wr W6 := hb6.trans (hbA.mono hb6.size)
            have hrel := HM2.out.rel Rel.empty MInv.empty
            rw [← hy] at hrel
            have hrel2 := HN2.out.rel Rel.empty MInv.empty
            rw [HSE.out, ← hy] at hrel2
            have hMe : MS.empty.ctx.length = 0 ∧ MS.empty.dead.length = 0 := ⟨rfl, rfl⟩
            obtain ⟨g1, g2⟩ := HGG.out
            obtain ⟨g3, g4⟩ := HGG2.out
            have hm6 := hmr.kept_w hb6A
            have hn6 := hnr.kept_w hb6A
            have hI6 := hIn.keep hbA
            have HIs1 := Lib.hid (isMap_any (isEnd HI.out hrel (by omega) (by omega) (HM2.out.small (fun x hx => (nomatch hx)) HSM.out)) W6 hm6 hI6)
            have HIs2 := Lib.hid (fun (X : World) (h : MpIn X n bn t) (hI : RMIn X y) => isMap_any (isEnd HI2.out hrel2 (by omega) (by omega) (HN2.out.small (fun x hx => (nomatch hx)) HSM2.out)) X h hI)
            have HB := Lib.hid (hb9.trans (((hbr.trans (hb6A.mono hbr.size))).mono hb9.size))
            obtain ⟨c0, c1, c2⟩ := hAt.cells
            clear hW6 hbA hb6 hrel hrel2 g1 g2 g3 g4 hMe hmr hnr hm6 hIn hy hb6A hbr HFo1
            go_wp2_with (first
              | (go_at_call 40; (with_reducible refine HIs1.out.mono ?_); rintro x w7 ⟨rfl, hb7⟩; have d0 := kept hb7 c0; have d1 := kept hb7 c1; have d2 := kept hb7 c2; have hn7 := hn6.kept_w hb7; have hI7 := hI6.keep hb7)
              | (go_at_call 40; (with_reducible refine (HIs2.out _ hn7 hI7).mono ?_); rintro x w8 ⟨rfl, hb8⟩)
              | (go_at_call 15; (with_reducible refine (HA.out _).mono ?_); rintro x w10 ⟨rfl, hb10⟩))
            go_ret
            exact ⟨rfl, ((HB.out.trans (hb7.mono HB.out.size)).trans (hb8.mono (Nat.le_trans HB.out.size hb7.size))).trans (hb10.mono (Nat.le_trans (Nat.le_trans HB.out.size hb7.size) hb8.size))⟩
end Go.Proofs.YtcijajjngmmbeaaGreat
