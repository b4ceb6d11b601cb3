/- The references' Covers and Of. Conditions: as in the text. -/
import Derived.Test.YtcijajjngmmbeaaGreatRelP
set_option linter.unusedSimpArgs false
set_option linter.unusedVariables false
set_option linter.unnecessarySimpa false
namespace Go.Proofs.YtcijajjngmmbeaaGreat
open Go.RowKit

/-! ### 17.Covers -/
set_option maxRecDepth 100000 in
set_option maxHeartbeats 2000000 in
theorem rCovM_any (a a2 : Option Addr) (ca c2 : Nat) (l m : List Dot) (w : World) (hl : l.length ≤ 1073741824) (hm : m.length ≤ 1073741824) (h : DotsIn w a l) (h2 : DotsIn w a2 m) :
    Calls Tryz.prog 36 #[.slice a l.length ca, .slice a2 m.length c2] w fun e w' => e = .returned (.bool (coversM l m)) ∧ Below w.heap.size w w' := by
  have HG := Lib.hid (fun (x : Actor) (X : World) (h : DotsIn X a l) => rGetM_any a ca l x X hl h)
  go_enter Tryz.func36, Tryz.ntmps36
  go_wp2
  go_loopw [5] (fun i wr => ∃ k : Nat, i = .int .i64 k ∧ k ≤ m.length ∧ coversM l m = coversM l (m.drop k) ∧ Below w.heap.size w wr) (fun i _ => m.length - (intOf i).toNat)
  case atStart => exact ⟨0, rfl, Nat.zero_le _, rfl, Below.refl _ _⟩
  case round =>
    obtain ⟨k, rfl, hk, hC0, hbw⟩ := hrel
    have HC := Lib.hid hC0
    clear hC0
    by_cases hlt : k < m.length
    · obtain ⟨A, off, rfl, hda⟩ : ∃ A off, a2 = some ⟨A, off, none⟩ ∧ DotsAt wr A off m := by
        rcases h2.kept hbw with h | ⟨A, off, h1, h2⟩
        · rw [h] at hlt; simp at hlt
        · exact ⟨A, off, h1, h2⟩
      have e0 := hda.dev k hlt
      have e1 := hda.inc k hlt
      have e2 := hda.seq k hlt
      have hr := h.kept hbw
      have HS : Hid (coversM l (m.drop k) = (decide (m[k].seq ≤ getM l m[k].a) && coversM l (m.drop (k + 1)))) := coversM_drop l m k hlt
      have HLT := Lib.hid hlt
      have HG1 := fun (X : World) (h : DotsIn X a l) => HG.out m[k].a X h
      generalize m[k] = d at *
      clear hda
      by_cases hle : d.seq ≤ getM l d.a
      · have hdec : decide (getM l d.a < d.seq) = false := by simpa using hle
        have HE : Hid (coversM l m = coversM l (m.drop (k + 1))) := by unfold Hid; rw [HC.out, HS.out, decide_eq_true hle]; exact Bool.true_and _
        clear hle HS HC
        go_upto_region 4 with fail
        refine wp_region_after (by kernel_rfl) (by kernel_rfl) (fun W hW => ?_)
        have hbW : Below wr.heap.size wr W := by rw [hW.out]; go_grown
        have hcW := hr.kept hbW
        have p0 : ∀ i : After W, i.w.cell? ⟨A, off + k * 3, none⟩ = some (.int .i64 d.a.dev) := fun i => i.cell (kept hbW e0)
        have p1 : ∀ i : After W, i.w.cell? ⟨A, off + k * 3 + 1, none⟩ = some (.int .i64 d.a.inc) := fun i => i.cell (kept hbW e1)
        have p2 : ∀ i : After W, i.w.cell? ⟨A, off + k * 3 + 2, none⟩ = some (.int .i64 d.seq) := fun i => i.cell (kept hbW e2)
        clear hW
        go_big_quiet_step (fail)
        go_big_quiet_step (fail)
        go_big_quiet_step (fail)
        go_big_quiet_step (fail)
        go_big_quiet_step (fail)
        go_big_quiet_step (fail)
        go_big_quiet_step (exact Calls.after (HG1 _ (hcW.kept (After.h _))))
        go_big_quiet_step (fail)
        go_big_quiet_step (fail)
        go_big_quiet_step (fail)
        go_big_quiet_step (fail)
        go_big_quiet_step (fail)
        go_big_quiet_step (fail)
        refine wpQuiet_nil ?_
        rintro _ ⟨i, rfl⟩
        have hib := i.h
        generalize i.w = wi at hib ⊢
        go_wp2
        go_roundw
        case rel => exact ⟨k + 1, by go_num, HLT.out, HE.out, hbw.trans ((below2 hbW hib).mono hbw.size)⟩
        case measure => have := HLT.out; simp [intOf] <;> omega
      · have hdec : decide (getM l d.a < d.seq) = true := by simpa using hle
        have HE : Hid (coversM l m = false) := by unfold Hid; rw [HC.out, HS.out, decide_eq_false hle]; rfl
        clear hle HS HC
        go_upto_region 4 with fail
        refine wp_region_after (by kernel_rfl) (by kernel_rfl) (fun W hW => ?_)
        have hbW : Below wr.heap.size wr W := by rw [hW.out]; go_grown
        have hcW := hr.kept hbW
        have p0 : ∀ i : After W, i.w.cell? ⟨A, off + k * 3, none⟩ = some (.int .i64 d.a.dev) := fun i => i.cell (kept hbW e0)
        have p1 : ∀ i : After W, i.w.cell? ⟨A, off + k * 3 + 1, none⟩ = some (.int .i64 d.a.inc) := fun i => i.cell (kept hbW e1)
        have p2 : ∀ i : After W, i.w.cell? ⟨A, off + k * 3 + 2, none⟩ = some (.int .i64 d.seq) := fun i => i.cell (kept hbW e2)
        clear hW
        go_big_quiet_step (fail)
        go_big_quiet_step (fail)
        go_big_quiet_step (fail)
        go_big_quiet_step (fail)
        go_big_quiet_step (fail)
        go_big_quiet_step (fail)
        go_big_quiet_step (exact Calls.after (HG1 _ (hcW.kept (After.h _))))
        go_big_quiet_step (fail)
        go_big_quiet_step (fail)
        go_big_quiet_step (fail)
        go_big_quiet_step (fail)
        go_big_quiet_step (fail)
        go_big_quiet_step (fail)
        refine wpQuiet_nil ?_
        rintro _ ⟨i, rfl⟩
        have hib := i.h
        generalize i.w = wi at hib ⊢
        go_wp2
        go_ret
        exact ⟨ret_bool HE.out.symm, hbw.trans ((below2 hbW hib).mono hbw.size)⟩
    · obtain rfl : k = m.length := by omega
      have HE : Hid (coversM l m = true) := by unfold Hid; rw [HC.out, List.drop_length]; rfl
      go_wp2
      go_ret
      exact ⟨ret_bool HE.out.symm, hbw⟩

/-! ### 22.Of -/
def rofFrom (mk : List Dot) (most : Int) : List Ev → List Ev → List Ev
  | out, [] => out
  | out, x :: r => rofFrom mk most (if hasM mk x.dot = false ∧ (most < 0 ∨ (out.length : Int) < most) then out ++ [x] else out) r
theorem rof_stop (mk : List Dot) (most : Int) : ∀ (l out : List Ev), (out.length : Int) = most → rofFrom mk most out l = out
  | [], _, _ => rfl
  | x :: l, out, h => by
    unfold rofFrom
    rw [if_neg (by omega)]
    exact rof_stop mk most l out h
theorem rof_eq (mk : List Dot) (most : Int) : ∀ (l out : List Ev), (most < 0 ∨ (out.length : Int) ≤ most) → rofFrom mk most out l = ofFrom mk most out l
  | [], _, _ => rfl
  | x :: l, out, h => by
    unfold ofFrom
    by_cases he : (out.length : Int) = most
    · rw [if_pos he, rof_stop mk most _ _ he]
    · rw [if_neg he]
      unfold rofFrom
      cases hh : hasM mk x.dot with
      | true => rw [if_neg (by simp), if_pos rfl]; exact rof_eq mk most l out h
      | false =>
        have hc : most < 0 ∨ (out.length : Int) < most := by omega
        rw [if_pos ⟨rfl, hc⟩, if_neg (by decide)]
        refine rof_eq mk most l _ ?_
        rw [List.length_append]
        simp only [List.length_cons, List.length_nil]
        omega
def RetEvL (L : List Ev) (w : World) (e : Ending) (w' : World) : Prop :=
  ∃ a ls cap, e = .returned (.slice a ls.length cap) ∧ EvsIn w' a ls ∧ evsOf ls = L ∧ Below w.heap.size w w'
set_option maxRecDepth 100000 in
set_option maxHeartbeats 4000000 in
theorem rOf22_any (x : RMIt) (a : Option Addr) (cap : Nat) (l : List Dot) (most : Int) (w : World) (hK : x.K.length ≤ 4096) (hl : l.length ≤ 1073741824) (hI : RMIn w x) (h : DotsIn w a l) :
    Calls Tryz.prog 35 #[rmVal x, .slice a l.length cap, .int .i64 most] w (RetEvL (rofFrom l most [] (evsOf x.K)) w) := by
  obtain ⟨i0, hiE, hz0, hz1, hz2⟩ := info_parts Tryz.infoEv
  have HH := Lib.hid (fun (d : Dot) (X : World) (h : DotsIn X a l) => rHasM_any a cap l d X hl h)
  go_enter Tryz.func35, Tryz.ntmps35
  go_upto_region 1 with fail
  refine wp_name (fun W0 hW0 => ?_)
  have hb0 : Below w.heap.size w W0 := by rw [hW0.out]; go_grown
  have C1 : W0.cell? ⟨w.heap.size, 1, none⟩ = some (.slice x.aK x.K.length x.cK) := by rw [hW0.out]; go_simp
  have hE0 := hI.kept.kept hb0
  have hd0 := h.kept hb0
  have hz0' := hb0.size
  clear hW0 h hI
  go_wp2
  have hown0 : (W0.alloc (Obj.cells #[] 42)).ownsRow W0.heap.size 42 19 (.slice (some ⟨W0.heap.size, 0, none⟩) 0 0) 0 [] := World.ownsRow_made _ _ _ (Nat.le_refl _) (by decide) rfl
  have hbM : Below W0.heap.size W0 (W0.alloc (Obj.cells #[] 42)) := (Below.refl _ _).alloc (Nat.le_refl _) _
  go_loopw [7, 8] (fun u i wr => ∃ (k : Nat) (os : List EvIt), i = .int .i64 k ∧ k ≤ x.K.length ∧ wr.ownsRow W0.heap.size 42 19 u os.length (evItCells os) ∧ (∀ z ∈ os, DotsIn W0 z.2.1 z.1.over) ∧ os.length ≤ k ∧ rofFrom l most [] (evsOf x.K) = rofFrom l most (evsOf os) ((evsOf x.K).drop k) ∧ Below W0.heap.size W0 wr) (fun _ i _ => x.K.length - (intOf i).toNat)
  case atStart => exact ⟨0, [], rfl, Nat.zero_le _, hown0, fun z hz => (nomatch hz), Nat.zero_le _, rfl, hbM⟩
  case round =>
    obtain ⟨k, os, rfl, hk, hown, hdo, hol, hP, hB⟩ := hrel
    obtain ⟨aO, cO, rfl⟩ := own_sl hown
    have HP := Lib.hid hP
    have HDO0 := Lib.hid hdo
    clear hP hown0 hbM hdo
    have c1 := kept hB C1
    have hzr := hB.size
    by_cases hlt : k < x.K.length
    · obtain ⟨A, off, haK, hra, _⟩ := (hE0.kept hB).at hlt
      rw [haK] at c1
      have HK := Lib.hid haK
      clear haK
      have hda := hE0.dots _ (List.getElem_mem hlt)
      have r1 := hra k hlt
      have HS : Hid (rofFrom l most (evsOf os) ((evsOf x.K).drop k) = rofFrom l most (if hasM l x.K[k].1.dot = false ∧ (most < 0 ∨ (os.length : Int) < most) then evsOf os ++ [x.K[k].1] else evsOf os) ((evsOf x.K).drop (k + 1))) := by
        unfold Hid
        rw [List.drop_eq_getElem_cons (by rw [evsOf_length]; exact hlt), evsOf_at hlt]
        show rofFrom l most (if _ ∧ (_ ∨ ((evsOf os).length : Int) < most) then _ else _) _ = _
        rw [evsOf_length]
      have HLT := Lib.hid hlt
      have HOL := Lib.hid hol
      have hkl : k ≤ 4096 := by omega
      have HH1 := fun (X : World) (h : DotsIn X a l) => HH.out x.K[k].1.dot X h
      generalize x.K[k] = z at *
      obtain ⟨e, ax, cx⟩ := z
      simp only [itEv] at r1
      simp only at hda HS HH1
      have q0 := r1 0 _ rfl
      have q1 := r1 1 _ rfl
      have q2 := r1 2 _ rfl
      simp only [Nat.add_zero] at q0
      have hdr := hd0.kept hB
      have HDO := Lib.hid hda
      clear hra hda
      by_cases hc : hasM l e.dot = false ∧ (most < 0 ∨ (os.length : Int) < most)
      · obtain ⟨hc1, hc2⟩ := hc
        rw [if_pos ⟨hc1, hc2⟩] at HS
        rw [hc1] at HH1
        have HHa := Lib.hid HH1
        clear HH1 hc1
        have hll : os.length ≤ 4096 := by omega
        by_cases hm0 : most < 0
        · have hd9 : decide (most < 0) = true := decide_eq_true hm0
          clear hm0 hc2
          go_upto_region 6 with (go_at_call 26; (with_reducible refine (HHa.out _ hdr).mono ?_); rintro v w5 ⟨rfl, hb5⟩)
          replace hB := hB.trans (hb5.mono hzr)
          have hown5 := ownsRow_below hown hb5
          have R5 := rangeAt_kept r1 hb5
          have c5 := kept hb5 c1
          have hz5 := hB.size
          clear r1 hown hb5 q0 q1 q2 hdr c1 HHa
          go_wp2_with (first
            | ((with_reducible refine wpList_load_evo _ A (off + k * 19) e ax cx R5 ?_ rfl ?_); exact rfl)
            | (refine wpList_buildOne rfl 22 42 _ rfl (evCells e ax cx).toArray 19 rfl rfl (by decide) (by decide) Tryz.underlying22 (by kernel_rfl) (by kernel_rfl) ?_)
            | (at_builtin; go_loud (refine wpList_append_own_at _ rfl _ _ 22 rfl W0.heap.size 42 i0 (.agg (evCells ev0 none 0).toArray) 19 176 Tryz.underlying22 hiE hz0 hz1 hz2 rfl (by decide) _ _ _ rfl (hown5.alloc _) ⟨w5.heap.size, 0, none⟩ 1 1 (evCells e ax cx) rfl rfl (evs_new w5 e ax cx _) (evCells_one _ _ _) (by unfold maxLen; omega) (by omega) (by simp; omega) ?_)))
          intro v' wf hownf hgrow _ hat
          have hal : Below w5.heap.size w5 (w5.alloc (Obj.cells (evCells e ax cx).toArray 42)) := (Below.refl _ _).alloc (Nat.le_refl _) _
          have hbF : Below W0.heap.size W0 wf := (hB.trans (hal.mono hz5)).grown hgrow (by have := hal.size; omega) (fun j hj => (hown5.lt j hj).1)
          have HZ : Hid (wf.ownsRow W0.heap.size 42 19 v' (os ++ [(e, ax, cx)]).length (evItCells (os ++ [(e, ax, cx)])) ∧ (∀ z ∈ os ++ [(e, ax, cx)], DotsIn W0 z.2.1 z.1.over) ∧ (os ++ [(e, ax, cx)]).length ≤ k + 1 ∧ evsOf (os ++ [(e, ax, cx)]) = evsOf os ++ [e] ∧ Below W0.heap.size W0 wf) := by
            refine ⟨by rw [evItCells_snoc, List.length_append]; exact hownf, fun z hz => ?_, by have := HOL.out; simp; exact this, by simp [evsOf], hbF⟩
            rcases List.mem_append.1 hz with hz | hz
            · exact HDO0.out z hz
            · simp only [List.mem_singleton] at hz
              subst hz
              exact HDO.out
          clear hownf hgrow hat hal hbF hown5 R5 c5
          go_wp2
          go_roundw
          case rel => exact ⟨k + 1, os ++ [(e, ax, cx)], by go_num, HLT.out, HZ.out.1, HZ.out.2.1, HZ.out.2.2.1, by rw [HZ.out.2.2.2.1, HP.out, HS.out], HZ.out.2.2.2.2⟩
          case measure => have := HLT.out; simp [intOf] <;> omega
        · have hd9 : decide (most < 0) = false := decide_eq_false hm0
          have hd8 : decide ((os.length : Int) < most) = true := decide_eq_true (by omega)
          clear hm0 hc2
          go_upto_region 6 with (go_at_call 26; (with_reducible refine (HHa.out _ hdr).mono ?_); rintro v w5 ⟨rfl, hb5⟩)
          replace hB := hB.trans (hb5.mono hzr)
          have hown5 := ownsRow_below hown hb5
          have R5 := rangeAt_kept r1 hb5
          have c5 := kept hb5 c1
          have hz5 := hB.size
          clear r1 hown hb5 q0 q1 q2 hdr c1 HHa
          go_wp2_with (first
            | ((with_reducible refine wpList_load_evo _ A (off + k * 19) e ax cx R5 ?_ rfl ?_); exact rfl)
            | (refine wpList_buildOne rfl 22 42 _ rfl (evCells e ax cx).toArray 19 rfl rfl (by decide) (by decide) Tryz.underlying22 (by kernel_rfl) (by kernel_rfl) ?_)
            | (at_builtin; go_loud (refine wpList_append_own_at _ rfl _ _ 22 rfl W0.heap.size 42 i0 (.agg (evCells ev0 none 0).toArray) 19 176 Tryz.underlying22 hiE hz0 hz1 hz2 rfl (by decide) _ _ _ rfl (hown5.alloc _) ⟨w5.heap.size, 0, none⟩ 1 1 (evCells e ax cx) rfl rfl (evs_new w5 e ax cx _) (evCells_one _ _ _) (by unfold maxLen; omega) (by omega) (by simp; omega) ?_)))
          intro v' wf hownf hgrow _ hat
          have hal : Below w5.heap.size w5 (w5.alloc (Obj.cells (evCells e ax cx).toArray 42)) := (Below.refl _ _).alloc (Nat.le_refl _) _
          have hbF : Below W0.heap.size W0 wf := (hB.trans (hal.mono hz5)).grown hgrow (by have := hal.size; omega) (fun j hj => (hown5.lt j hj).1)
          have HZ : Hid (wf.ownsRow W0.heap.size 42 19 v' (os ++ [(e, ax, cx)]).length (evItCells (os ++ [(e, ax, cx)])) ∧ (∀ z ∈ os ++ [(e, ax, cx)], DotsIn W0 z.2.1 z.1.over) ∧ (os ++ [(e, ax, cx)]).length ≤ k + 1 ∧ evsOf (os ++ [(e, ax, cx)]) = evsOf os ++ [e] ∧ Below W0.heap.size W0 wf) := by
            refine ⟨by rw [evItCells_snoc, List.length_append]; exact hownf, fun z hz => ?_, by have := HOL.out; simp; exact this, by simp [evsOf], hbF⟩
            rcases List.mem_append.1 hz with hz | hz
            · exact HDO0.out z hz
            · simp only [List.mem_singleton] at hz
              subst hz
              exact HDO.out
          clear hownf hgrow hat hal hbF hown5 R5 c5
          go_wp2
          go_roundw
          case rel => exact ⟨k + 1, os ++ [(e, ax, cx)], by go_num, HLT.out, HZ.out.1, HZ.out.2.1, HZ.out.2.2.1, by rw [HZ.out.2.2.2.1, HP.out, HS.out], HZ.out.2.2.2.2⟩
          case measure => have := HLT.out; simp [intOf] <;> omega
      · rw [if_neg hc] at HS
        cases hh : hasM l e.dot with
        | true =>
          rw [hh] at HH1
          have HHa := Lib.hid HH1
          clear HH1 hh hc
          go_wp2_with (go_at_call 26; (with_reducible refine (HHa.out _ hdr).mono ?_); rintro v w5 ⟨rfl, hb5⟩)
          have HZ := Lib.hid (And.intro (ownsRow_below hown hb5) (hB.trans (hb5.mono hzr)))
          go_roundw
          case rel => exact ⟨k + 1, os, by go_num, HLT.out, HZ.out.1, HDO0.out, Nat.le_succ_of_le HOL.out, by rw [HP.out, HS.out], HZ.out.2⟩
          case measure => have := HLT.out; simp [intOf] <;> omega
        | false =>
          rw [hh] at HH1
          have HHa := Lib.hid HH1
          have hd9 : decide (most < 0) = false := decide_eq_false (fun h9 => hc ⟨hh, Or.inl h9⟩)
          have hd8 : decide ((os.length : Int) < most) = false := decide_eq_false (fun h9 => hc ⟨hh, Or.inr h9⟩)
          clear HH1 hh hc
          go_wp2_with (go_at_call 26; (with_reducible refine (HHa.out _ hdr).mono ?_); rintro v w5 ⟨rfl, hb5⟩)
          have HZ := Lib.hid (And.intro (ownsRow_below hown hb5) (hB.trans (hb5.mono hzr)))
          go_roundw
          case rel => exact ⟨k + 1, os, by go_num, HLT.out, HZ.out.1, HDO0.out, Nat.le_succ_of_le HOL.out, by rw [HP.out, HS.out], HZ.out.2⟩
          case measure => have := HLT.out; simp [intOf] <;> omega
    · obtain rfl : k = x.K.length := by omega
      obtain ⟨aF, cF, hF0, hF⟩ := evsIn_own hown (fun z hz => (HDO0.out z hz).kept hB)
      obtain ⟨rfl, rfl⟩ := slice_inj hF0
      have HE2 : Hid (rofFrom l most [] (evsOf x.K) = evsOf os) := by unfold Hid; rw [HP.out, List.drop_eq_nil_of_le (by rw [evsOf_length]; exact Nat.le_refl _)]; rfl
      go_wp2
      go_ret
      exact ⟨aO, os, cO, rfl, hF, HE2.out.symm, hb0.trans (hB.mono hz0')⟩
end Go.Proofs.YtcijajjngmmbeaaGreat
