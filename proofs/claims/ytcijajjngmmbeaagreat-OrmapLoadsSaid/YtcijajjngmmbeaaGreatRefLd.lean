/- The reference's Load. Conditions: as in the text. -/
import Derived.Test.YtcijajjngmmbeaaGreatFits
set_option linter.unusedSimpArgs false
set_option linter.unusedVariables false
set_option linter.unnecessarySimpa false
namespace Go.Proofs.YtcijajjngmmbeaaGreat
open Go.RowKit

def or2 (f r : Int) : Int := if f = 0 then r else f
def loadErr (ctx : List Dot) (K : List EvIt) (dead : List Dot) : Int := or2 (marksErr ctx) (if 2048 < K.length ∨ 65536 < dead.length then 3 else or2 (fitFrom ctx none K) (risFrom none dead))

set_option maxRecDepth 100000 in
set_option maxHeartbeats 8000000 in
theorem rLoad21_any (y : RMIt) (w : World) (hc : y.ctx.length ≤ 1048576) (hk : y.K.length ≤ 1048576) (hdl : y.dead.length ≤ 1048576) (hsm : EvsSmall y.K) (hI : RMIn w y) :
    Calls Tryz.prog 58 #[rmVal y] w fun x w' => x = .returned (.int .i64 (loadErr y.ctx y.K y.dead)) ∧ Below w.heap.size w w' := by
  obtain ⟨ac, ctx, cc, aK, K, cK, ad, dead, cd⟩ := y
  obtain ⟨hcx, hE, hd, _, _, _⟩ := hI
  simp only at hc hk hdl hsm hcx hE hd ⊢
  have HLs := Lib.hid (fun (x y : Dot) (X : World) => rLess_any x y X)
  have HSM := Lib.hid hsm
  have HDR := Lib.hid (fun (x : Dot) (X : World) => rDotRight_any x X)
  have hCk := fun (X : World) (h : DotsIn X ac ctx) => rCheck_any ac cc ctx X (by omega) h
  clear hsm
  have hun : loadErr ctx K dead = or2 (marksErr ctx) (if 2048 < K.length ∨ 65536 < dead.length then 3 else or2 (fitFrom ctx none K) (risFrom none dead)) := rfl
  have HUN := Lib.hid hun
  clear hun
  go_enter Tryz.func58, Tryz.ntmps58
  go_upto_region 1 with fail
  refine wp_name (fun V hV => ?_)
  have hb0 : Below w.heap.size w V := by rw [hV.out]; go_grown
  have c0 : V.cell? ⟨w.heap.size, 0, none⟩ = some (.slice ac ctx.length cc) := by rw [hV.out]; go_simp
  have c1 : V.cell? ⟨w.heap.size, 1, none⟩ = some (.slice aK K.length cK) := by rw [hV.out]; go_simp
  have c2 : V.cell? ⟨w.heap.size, 2, none⟩ = some (.slice ad dead.length cd) := by rw [hV.out]; go_simp
  replace hcx := hcx.kept hb0
  replace hE := hE.kept hb0
  replace hd := hd.kept hb0
  clear hV
  by_cases hm0 : marksErr ctx = 0
  case neg =>
    have hmb : (marksErr ctx != 0) = true := bne_iff_ne.2 hm0
    have HE : Hid (loadErr ctx K dead = marksErr ctx) := by unfold Hid; rw [HUN.out]; unfold or2; rw [if_neg hm0]
    have HC := Lib.hid (hCk V hcx)
    clear hm0 hCk HUN
    generalize marksErr ctx = me at *
    go_wp2_with (go_at_call 32; (with_reducible refine HC.out.mono ?_); rintro v9 w9 ⟨rfl, hb9⟩)
    go_ret
    exact ⟨ret_int HE.out.symm, hb0.trans (hb9.mono hb0.size)⟩
  rw [hm0] at hCk
  have HE0 : Hid (loadErr ctx K dead = if 2048 < K.length ∨ 65536 < dead.length then 3 else or2 (fitFrom ctx none K) (risFrom none dead)) := by unfold Hid; rw [HUN.out, hm0]; rfl
  clear hm0 HUN
  go_upto_region 4 with (go_at_call 32; (with_reducible refine (hCk _ hcx).mono ?_); rintro v9 w9 ⟨rfl, hb9⟩)
  replace c0 := kept hb9 c0
  replace c1 := kept hb9 c1
  replace c2 := kept hb9 c2
  replace hcx := hcx.kept hb9
  replace hE := hE.kept hb9
  replace hd := hd.kept hb9
  have hb0w : Below w.heap.size w w9 := hb0.trans (hb9.mono hb0.size)
  clear hb0 hb9 hCk
  have hb0 := hb0w
  clear hb0w
  by_cases hkl : 2048 < K.length
  · have hdk : decide ((2048 : Int) < (K.length : Int)) = true := decide_eq_true (by omega)
    have HE : Hid (loadErr ctx K dead = 3) := by unfold Hid; rw [HE0.out, if_pos (Or.inl hkl)]
    clear hkl HE0
    go_wp2
    go_ret
    exact ⟨ret_int HE.out.symm, hb0⟩
  have hdk : decide ((2048 : Int) < (K.length : Int)) = false := decide_eq_false (by omega)
  by_cases hdl2 : 65536 < dead.length
  · have hdk2 : decide ((65536 : Int) < (dead.length : Int)) = true := decide_eq_true (by omega)
    have HE : Hid (loadErr ctx K dead = 3) := by unfold Hid; rw [HE0.out, if_pos (Or.inr hdl2)]
    clear hdl2 HE0
    go_wp2
    go_ret
    exact ⟨ret_int HE.out.symm, hb0⟩
  have hdk2 : decide ((65536 : Int) < (dead.length : Int)) = false := decide_eq_false (by omega)
  obtain ⟨LE, hLE⟩ : ∃ LE, LE = loadErr ctx K dead := ⟨_, rfl⟩
  have HLE : Hid (loadErr ctx K dead = LE) := hLE.symm
  obtain ⟨R, hR⟩ : ∃ R, R = risFrom none dead := ⟨_, rfl⟩
  have HRR := Lib.hid hR
  have HM : Hid (LE = or2 (fitFrom ctx (prevI K 0) (K.drop 0)) R) := by unfold Hid; rw [hLE, HE0.out, if_neg (by omega), hR]; rfl
  clear hLE hR HE0
  go_wp2
  go_loopw [4] (fun i wr => ∃ k : Nat, k ≤ K.length ∧ i = .int .i64 k ∧ LE = or2 (fitFrom ctx (prevI K k) (K.drop k)) R ∧ Below w9.heap.size w9 wr) (fun i _ => K.length - (intOf i).toNat)
  case atStart => exact ⟨0, Nat.zero_le _, rfl, HM.out, Below.refl _ _⟩
  case round =>
    obtain ⟨k, hk', rfl, hpre, hbw⟩ := hrel
    have HP := Lib.hid hpre
    clear hpre HM
    have hzw := hbw.size
    replace c0 := kept hbw c0
    replace c1 := kept hbw c1
    replace c2 := kept hbw c2
    by_cases hlt : k < K.length
    · have hst := fitFrom_step ctx K k hlt
      obtain ⟨A, off, rfl, hra, hda⟩ := (hE.kept hbw).at hlt
      have r1 := hra k hlt
      have hse := HSM.out _ (List.getElem_mem hlt)
      have HT : Hid (LE = or2 (if evOk K[k].1 = true then (if dotNext (prevI K k) K[k].1.dot = true then (if hasM ctx K[k].1.dot = true then fitFrom ctx (prevI K (k + 1)) (K.drop (k + 1)) else 4) else 6) else 1) R) := by rw [Hid, HP.out, hst]
      clear hst HP hra
      generalize K[k] = x at r1 hse hda HT
      obtain ⟨e, ax, cx⟩ := x
      simp only [itEv] at r1
      simp only at hse hda HT
      have hR0 := rEventRight_any e ax cx wr hse hda
      cases h1 : evOk e with
      | false =>
        have HE : Hid (LE = 1) := by rw [Hid, HT.out, h1]; rfl
        rw [h1] at hR0
        have HR := Lib.hid hR0
        clear hR0 h1 HT
        go_wp2_with (first
          | ((with_reducible refine wpList_load_evo _ A (off + k * 19) e ax cx r1 ?_ rfl ?_); exact rfl)
          | (go_at_call 83; (with_reducible refine HR.out.mono ?_); rintro v9 w8 ⟨rfl, hb9⟩))
        go_ret
        exact ⟨ret_int (HLE.out.trans HE.out).symm, hb0.trans ((hbw.trans (hb9.mono hbw.size)).mono hb0.size)⟩
      | true =>
        have HT1 : Hid (LE = or2 (if dotNext (prevI K k) e.dot = true then (if hasM ctx e.dot = true then fitFrom ctx (prevI K (k + 1)) (K.drop (k + 1)) else 4) else 6) R) := by rw [Hid, HT.out, h1]; rfl
        rw [h1] at hR0
        have HR := Lib.hid hR0
        clear hR0 h1 HT
        go_upto_region 11 with (first
          | ((with_reducible refine wpList_load_evo _ A (off + k * 19) e ax cx r1 ?_ rfl ?_); exact rfl)
          | (go_at_call 83; (with_reducible refine HR.out.mono ?_); rintro v9 wp ⟨rfl, hb9⟩))
        have rp := rangeAt_kept r1 hb9
        have hbB := hbw.trans (hb9.mono hbw.size)
        replace c0 := kept hb9 c0
        replace c1 := kept hb9 c1
        replace c2 := kept hb9 c2
        have e0 := rp 0 _ rfl
        have e1 := rp 1 _ rfl
        have e2 := rp 2 _ rfl
        simp only [Nat.add_zero] at e0
        clear r1 rp hb9 HR hda
        rcases Nat.eq_zero_or_pos k with hk0 | hk0
        · have hk00 : ¬ 0 < k := by omega
          have hdk0 : decide (0 < k) = false := by simp; omega
          have HT2 : Hid (LE = or2 (if hasM ctx e.dot = true then fitFrom ctx (prevI K (k + 1)) (K.drop (k + 1)) else 4) R) := by rw [Hid, HT1.out]; subst hk0; rfl
          clear HT1 hk0
          go_upto_region 11 with fail
          refine wp_region_after (by kernel_rfl) (by kernel_rfl) (fun WA hWA => ?_)
          have hbA : Below wp.heap.size wp WA := by rw [hWA.out]; go_grown
          have pc1 : ∀ i : After WA, i.w.cell? ⟨w.heap.size, 1, none⟩ = some (.slice (some ⟨A, off, none⟩) K.length cK) := fun i => i.cell (kept hbA c1)
          clear hWA
          go_big_quiet_step (fail)
          go_big_quiet_step (fail)
          go_big_quiet_step (fail)
          go_big_quiet_step (fail)
          go_big_quiet_step (fail)
          go_big_quiet_step (fail)
          go_big_quiet_step (fail)
          go_big_quiet_step (fail)
          go_big_quiet_step (fail)
          go_big_quiet_step (fail)
          go_big_quiet_step (fail)
          go_big_quiet_step (fail)
          go_big_quiet_step (fail)
          go_big_quiet_step (fail)
          go_big_quiet_step (fail)
          go_big_quiet_step (fail)
          go_big_quiet_step (fail)
          go_big_quiet_step (fail)
          go_big_quiet_step (fail)
          refine wpQuiet_nil ?_
          rintro _ ⟨i, rfl⟩
          have hiA := i.h
          generalize i.w = wq at hiA ⊢
          have hbY : Below wp.heap.size wp wq := below2 hbA hiA
          clear hbA hiA pc1
          have q0 := kept hbY c0
          have q1 := kept hbY c1
          have q2 := kept hbY c2
          have r0 := kept hbY e0
          have r1 := kept hbY e1
          have r2 := kept hbY e2
          have hbQ := hbB.trans (hbY.mono hbB.size)
          have hdq := hcx.kept hbQ
          have hH0 := fun (X : World) (h : DotsIn X ac ctx) => rHasM_any ac cc ctx e.dot X (by omega) h
          clear c0 c1 c2 e0 e1 e2 hbY hbB
          cases h3 : hasM ctx e.dot with
          | false =>
            have HE : Hid (LE = 4) := by unfold Hid; rw [HT2.out, h3]; rfl
            rw [h3] at hH0
            clear h3 HT2
            go_upto_region 13 with fail
            refine wp_region_after (by kernel_rfl) (by kernel_rfl) (fun WA hWA => ?_)
            have hbA : Below wq.heap.size wq WA := by rw [hWA.out]; go_grown
            have pq0 : ∀ i : After WA, i.w.cell? ⟨w.heap.size, 0, none⟩ = some (.slice ac ctx.length cc) := fun i => i.cell (kept hbA q0)
            have pq1 : ∀ i : After WA, i.w.cell? ⟨w.heap.size, 1, none⟩ = some (.slice (some ⟨A, off, none⟩) K.length cK) := fun i => i.cell (kept hbA q1)
            have pr0 : ∀ i : After WA, i.w.cell? ⟨A, off + k * 19, none⟩ = some (.int .i64 e.dot.a.dev) := fun i => i.cell (kept hbA r0)
            have pr1 : ∀ i : After WA, i.w.cell? ⟨A, off + k * 19 + 1, none⟩ = some (.int .i64 e.dot.a.inc) := fun i => i.cell (kept hbA r1)
            have pr2 : ∀ i : After WA, i.w.cell? ⟨A, off + k * 19 + 2, none⟩ = some (.int .i64 e.dot.seq) := fun i => i.cell (kept hbA r2)
            clear hWA
            go_big_quiet_step (fail)
            go_big_quiet_step (fail)
            go_big_quiet_step (fail)
            go_big_quiet_step (fail)
            go_big_quiet_step (fail)
            go_big_quiet_step (fail)
            go_big_quiet_step (fail)
            go_big_quiet_step (fail)
            go_big_quiet_step (exact Calls.after (hH0 _ ((hdq.kept hbA).kept (After.h _))))
            go_big_quiet_step (fail)
            refine wpQuiet_nil ?_
            rintro _ ⟨i, rfl⟩
            have hiA := i.h
            generalize i.w = wz at hiA ⊢
            have hbY : Below wq.heap.size wq wz := below2 hbA hiA
            clear hbA hiA pq0 pq1 pr0 pr1 pr2
            go_wp2
            go_ret
            exact ⟨ret_int (HLE.out.trans HE.out).symm, hb0.trans ((hbQ.trans (hbY.mono hbQ.size)).mono hb0.size)⟩
          | true =>
            have HE : Hid (LE = or2 (fitFrom ctx (prevI K (k + 1)) (K.drop (k + 1))) R) := by unfold Hid; rw [HT2.out, h3]; rfl
            rw [h3] at hH0
            clear h3 HT2
            go_upto_region 13 with fail
            refine wp_region_after (by kernel_rfl) (by kernel_rfl) (fun WA hWA => ?_)
            have hbA : Below wq.heap.size wq WA := by rw [hWA.out]; go_grown
            have pq0 : ∀ i : After WA, i.w.cell? ⟨w.heap.size, 0, none⟩ = some (.slice ac ctx.length cc) := fun i => i.cell (kept hbA q0)
            have pq1 : ∀ i : After WA, i.w.cell? ⟨w.heap.size, 1, none⟩ = some (.slice (some ⟨A, off, none⟩) K.length cK) := fun i => i.cell (kept hbA q1)
            have pr0 : ∀ i : After WA, i.w.cell? ⟨A, off + k * 19, none⟩ = some (.int .i64 e.dot.a.dev) := fun i => i.cell (kept hbA r0)
            have pr1 : ∀ i : After WA, i.w.cell? ⟨A, off + k * 19 + 1, none⟩ = some (.int .i64 e.dot.a.inc) := fun i => i.cell (kept hbA r1)
            have pr2 : ∀ i : After WA, i.w.cell? ⟨A, off + k * 19 + 2, none⟩ = some (.int .i64 e.dot.seq) := fun i => i.cell (kept hbA r2)
            clear hWA
            go_big_quiet_step (fail)
            go_big_quiet_step (fail)
            go_big_quiet_step (fail)
            go_big_quiet_step (fail)
            go_big_quiet_step (fail)
            go_big_quiet_step (fail)
            go_big_quiet_step (fail)
            go_big_quiet_step (fail)
            go_big_quiet_step (exact Calls.after (hH0 _ ((hdq.kept hbA).kept (After.h _))))
            go_big_quiet_step (fail)
            refine wpQuiet_nil ?_
            rintro _ ⟨i, rfl⟩
            have hiA := i.h
            generalize i.w = wz at hiA ⊢
            have hbY : Below wq.heap.size wq wz := below2 hbA hiA
            clear hbA hiA pq0 pq1 pr0 pr1 pr2
            go_wp2
            go_roundw
            case rel => exact ⟨k + 1, by omega, by go_num, HE.out, hbQ.trans (hbY.mono hbQ.size)⟩
            case measure => simp [intOf] <;> omega
        · obtain ⟨j, rfl⟩ : ∃ j, k = j + 1 := ⟨k - 1, by omega⟩
          have hj : j < K.length := by omega
          obtain ⟨A', off', hA', hra', _⟩ := (hE.kept hbB).at hj
          have hAA : A' = A ∧ off' = off := by cases hA'; exact ⟨rfl, rfl⟩
          rw [hAA.1, hAA.2] at hra'
          have ry := hra' j hj
          have hpv : prevI K (j + 1) = some K[j].1.dot := by simp [prevI, hj]
          rw [hpv] at HT1
          clear hra' hA' hAA hpv
          generalize K[j] = y at ry HT1
          obtain ⟨y, ay, cy⟩ := y
          simp only [itEv] at ry
          simp only at HT1
          have f0 := ry 0 _ rfl
          have f1 := ry 1 _ rfl
          have f2 := ry 2 _ rfl
          simp only [Nat.add_zero] at f0
          have hC0 := fun (W : World) => HLs.out y.dot e.dot W
          have hdk0 : decide ((0 : Int) < (j : Int) + 1) = true := by simp <;> omega
          have hww : IntKind.i64.wrap ((j : Int) + 1 - 1) = (j : Int) := by rw [show (j : Int) + 1 - 1 = j by omega]; exact IntWalk.i64_in _ (by omega)
          clear ry hk0
          cases h2 : dotLt y.dot e.dot with
          | false =>
            have HE : Hid (LE = 6) := by rw [Hid, HT1.out]; simp [dotNext, h2, or2]
            rw [h2] at hC0
            clear h2 HT1
            go_upto_region 11 with fail
            refine wp_region_after (by kernel_rfl) (by kernel_rfl) (fun WA hWA => ?_)
            have hbA : Below wp.heap.size wp WA := by rw [hWA.out]; go_grown
            have pc1 : ∀ i : After WA, i.w.cell? ⟨w.heap.size, 1, none⟩ = some (.slice (some ⟨A, off, none⟩) K.length cK) := fun i => i.cell (kept hbA c1)
            have pe0 : ∀ i : After WA, i.w.cell? ⟨A, off + (j + 1) * 19, none⟩ = some (.int .i64 e.dot.a.dev) := fun i => i.cell (kept hbA e0)
            have pe1 : ∀ i : After WA, i.w.cell? ⟨A, off + (j + 1) * 19 + 1, none⟩ = some (.int .i64 e.dot.a.inc) := fun i => i.cell (kept hbA e1)
            have pe2 : ∀ i : After WA, i.w.cell? ⟨A, off + (j + 1) * 19 + 2, none⟩ = some (.int .i64 e.dot.seq) := fun i => i.cell (kept hbA e2)
            have pf0 : ∀ i : After WA, i.w.cell? ⟨A, off + j * 19, none⟩ = some (.int .i64 y.dot.a.dev) := fun i => i.cell (kept hbA f0)
            have pf1 : ∀ i : After WA, i.w.cell? ⟨A, off + j * 19 + 1, none⟩ = some (.int .i64 y.dot.a.inc) := fun i => i.cell (kept hbA f1)
            have pf2 : ∀ i : After WA, i.w.cell? ⟨A, off + j * 19 + 2, none⟩ = some (.int .i64 y.dot.seq) := fun i => i.cell (kept hbA f2)
            clear hWA
            go_big_quiet_step (fail)
            go_big_quiet_step (fail)
            go_big_quiet_step (fail)
            go_big_quiet_step (fail)
            go_big_quiet_step (fail)
            go_big_quiet_step (fail)
            go_big_quiet_step (fail)
            go_big_quiet_step (fail)
            go_big_quiet_step (fail)
            go_big_quiet_step (fail)
            go_big_quiet_step (fail)
            go_big_quiet_step (fail)
            go_big_quiet_step (fail)
            go_big_quiet_step (fail)
            go_big_quiet_step (fail)
            go_big_quiet_step (fail)
            go_big_quiet_step (exact Calls.after (hC0 _))
            go_big_quiet_step (fail)
            go_big_quiet_step (fail)
            refine wpQuiet_nil ?_
            rintro _ ⟨i, rfl⟩
            have hiA := i.h
            generalize i.w = wq at hiA ⊢
            have hbY : Below wp.heap.size wp wq := below2 hbA hiA
            clear hbA hiA pc1 pe0 pe1 pe2 pf0 pf1 pf2
            go_wp2
            go_ret
            exact ⟨ret_int (HLE.out.trans HE.out).symm, hb0.trans ((hbB.trans (hbY.mono hbB.size)).mono hb0.size)⟩
          | true =>
            have HT2 : Hid (LE = or2 (if hasM ctx e.dot = true then fitFrom ctx (prevI K (j + 1 + 1)) (K.drop (j + 1 + 1)) else 4) R) := by rw [Hid, HT1.out]; simp [dotNext, h2]
            rw [h2] at hC0
            clear h2 HT1
            go_upto_region 11 with fail
            refine wp_region_after (by kernel_rfl) (by kernel_rfl) (fun WA hWA => ?_)
            have hbA : Below wp.heap.size wp WA := by rw [hWA.out]; go_grown
            have pc1 : ∀ i : After WA, i.w.cell? ⟨w.heap.size, 1, none⟩ = some (.slice (some ⟨A, off, none⟩) K.length cK) := fun i => i.cell (kept hbA c1)
            have pe0 : ∀ i : After WA, i.w.cell? ⟨A, off + (j + 1) * 19, none⟩ = some (.int .i64 e.dot.a.dev) := fun i => i.cell (kept hbA e0)
            have pe1 : ∀ i : After WA, i.w.cell? ⟨A, off + (j + 1) * 19 + 1, none⟩ = some (.int .i64 e.dot.a.inc) := fun i => i.cell (kept hbA e1)
            have pe2 : ∀ i : After WA, i.w.cell? ⟨A, off + (j + 1) * 19 + 2, none⟩ = some (.int .i64 e.dot.seq) := fun i => i.cell (kept hbA e2)
            have pf0 : ∀ i : After WA, i.w.cell? ⟨A, off + j * 19, none⟩ = some (.int .i64 y.dot.a.dev) := fun i => i.cell (kept hbA f0)
            have pf1 : ∀ i : After WA, i.w.cell? ⟨A, off + j * 19 + 1, none⟩ = some (.int .i64 y.dot.a.inc) := fun i => i.cell (kept hbA f1)
            have pf2 : ∀ i : After WA, i.w.cell? ⟨A, off + j * 19 + 2, none⟩ = some (.int .i64 y.dot.seq) := fun i => i.cell (kept hbA f2)
            clear hWA
            go_big_quiet_step (fail)
            go_big_quiet_step (fail)
            go_big_quiet_step (fail)
            go_big_quiet_step (fail)
            go_big_quiet_step (fail)
            go_big_quiet_step (fail)
            go_big_quiet_step (fail)
            go_big_quiet_step (fail)
            go_big_quiet_step (fail)
            go_big_quiet_step (fail)
            go_big_quiet_step (fail)
            go_big_quiet_step (fail)
            go_big_quiet_step (fail)
            go_big_quiet_step (fail)
            go_big_quiet_step (fail)
            go_big_quiet_step (fail)
            go_big_quiet_step (exact Calls.after (hC0 _))
            go_big_quiet_step (fail)
            go_big_quiet_step (fail)
            refine wpQuiet_nil ?_
            rintro _ ⟨i, rfl⟩
            have hiA := i.h
            generalize i.w = wq at hiA ⊢
            have hbY : Below wp.heap.size wp wq := below2 hbA hiA
            clear hbA hiA pc1 pe0 pe1 pe2 pf0 pf1 pf2
            clear hC0 hww hdk0 f0 f1 f2
            have q0 := kept hbY c0
            have q1 := kept hbY c1
            have q2 := kept hbY c2
            have r0 := kept hbY e0
            have r1 := kept hbY e1
            have r2 := kept hbY e2
            have hbQ := hbB.trans (hbY.mono hbB.size)
            have hdq := hcx.kept hbQ
            have hH0 := fun (X : World) (h : DotsIn X ac ctx) => rHasM_any ac cc ctx e.dot X (by omega) h
            clear c0 c1 c2 e0 e1 e2 hbY hbB
            cases h3 : hasM ctx e.dot with
            | false =>
              have HE : Hid (LE = 4) := by unfold Hid; rw [HT2.out, h3]; rfl
              rw [h3] at hH0
              clear h3 HT2
              go_upto_region 13 with fail
              refine wp_region_after (by kernel_rfl) (by kernel_rfl) (fun WA hWA => ?_)
              have hbA : Below wq.heap.size wq WA := by rw [hWA.out]; go_grown
              have pq0 : ∀ i : After WA, i.w.cell? ⟨w.heap.size, 0, none⟩ = some (.slice ac ctx.length cc) := fun i => i.cell (kept hbA q0)
              have pq1 : ∀ i : After WA, i.w.cell? ⟨w.heap.size, 1, none⟩ = some (.slice (some ⟨A, off, none⟩) K.length cK) := fun i => i.cell (kept hbA q1)
              have pr0 : ∀ i : After WA, i.w.cell? ⟨A, off + (j + 1) * 19, none⟩ = some (.int .i64 e.dot.a.dev) := fun i => i.cell (kept hbA r0)
              have pr1 : ∀ i : After WA, i.w.cell? ⟨A, off + (j + 1) * 19 + 1, none⟩ = some (.int .i64 e.dot.a.inc) := fun i => i.cell (kept hbA r1)
              have pr2 : ∀ i : After WA, i.w.cell? ⟨A, off + (j + 1) * 19 + 2, none⟩ = some (.int .i64 e.dot.seq) := fun i => i.cell (kept hbA r2)
              clear hWA
              go_big_quiet_step (fail)
              go_big_quiet_step (fail)
              go_big_quiet_step (fail)
              go_big_quiet_step (fail)
              go_big_quiet_step (fail)
              go_big_quiet_step (fail)
              go_big_quiet_step (fail)
              go_big_quiet_step (fail)
              go_big_quiet_step (exact Calls.after (hH0 _ ((hdq.kept hbA).kept (After.h _))))
              go_big_quiet_step (fail)
              refine wpQuiet_nil ?_
              rintro _ ⟨i, rfl⟩
              have hiA := i.h
              generalize i.w = wz at hiA ⊢
              have hbY : Below wq.heap.size wq wz := below2 hbA hiA
              clear hbA hiA pq0 pq1 pr0 pr1 pr2
              go_wp2
              go_ret
              exact ⟨ret_int (HLE.out.trans HE.out).symm, hb0.trans ((hbQ.trans (hbY.mono hbQ.size)).mono hb0.size)⟩
            | true =>
              have HE : Hid (LE = or2 (fitFrom ctx (prevI K ((j + 1) + 1)) (K.drop ((j + 1) + 1))) R) := by unfold Hid; rw [HT2.out, h3]; rfl
              rw [h3] at hH0
              clear h3 HT2
              go_upto_region 13 with fail
              refine wp_region_after (by kernel_rfl) (by kernel_rfl) (fun WA hWA => ?_)
              have hbA : Below wq.heap.size wq WA := by rw [hWA.out]; go_grown
              have pq0 : ∀ i : After WA, i.w.cell? ⟨w.heap.size, 0, none⟩ = some (.slice ac ctx.length cc) := fun i => i.cell (kept hbA q0)
              have pq1 : ∀ i : After WA, i.w.cell? ⟨w.heap.size, 1, none⟩ = some (.slice (some ⟨A, off, none⟩) K.length cK) := fun i => i.cell (kept hbA q1)
              have pr0 : ∀ i : After WA, i.w.cell? ⟨A, off + (j + 1) * 19, none⟩ = some (.int .i64 e.dot.a.dev) := fun i => i.cell (kept hbA r0)
              have pr1 : ∀ i : After WA, i.w.cell? ⟨A, off + (j + 1) * 19 + 1, none⟩ = some (.int .i64 e.dot.a.inc) := fun i => i.cell (kept hbA r1)
              have pr2 : ∀ i : After WA, i.w.cell? ⟨A, off + (j + 1) * 19 + 2, none⟩ = some (.int .i64 e.dot.seq) := fun i => i.cell (kept hbA r2)
              clear hWA
              go_big_quiet_step (fail)
              go_big_quiet_step (fail)
              go_big_quiet_step (fail)
              go_big_quiet_step (fail)
              go_big_quiet_step (fail)
              go_big_quiet_step (fail)
              go_big_quiet_step (fail)
              go_big_quiet_step (fail)
              go_big_quiet_step (exact Calls.after (hH0 _ ((hdq.kept hbA).kept (After.h _))))
              go_big_quiet_step (fail)
              refine wpQuiet_nil ?_
              rintro _ ⟨i, rfl⟩
              have hiA := i.h
              generalize i.w = wz at hiA ⊢
              have hbY : Below wq.heap.size wq wz := below2 hbA hiA
              clear hbA hiA pq0 pq1 pr0 pr1 pr2
              go_wp2
              go_roundw
              case rel => exact ⟨(j + 1) + 1, by omega, by go_num, HE.out, hbQ.trans (hbY.mono hbQ.size)⟩
              case measure => simp [intOf] <;> omega
    · have HM2 : Hid (LE = risFrom (prevAt dead 0) (dead.drop 0)) := by rw [Hid, HP.out, List.drop_eq_nil_of_le (by omega), fitFrom_nil, HRR.out]; rfl
      clear HP HRR
      go_wp2
      obtain ⟨wo, rfl⟩ : ∃ wo : World, wo = wr := ⟨_, rfl⟩
      go_loopw [5] (fun i wr => ∃ k : Nat, k ≤ dead.length ∧ i = .int .i64 k ∧ LE = risFrom (prevAt dead k) (dead.drop k) ∧ Below wo.heap.size wo wr) (fun i _ => dead.length - (intOf i).toNat)
      case atStart => exact ⟨0, Nat.zero_le _, rfl, HM2.out, Below.refl _ _⟩
      case round =>
        obtain ⟨k, hk'', rfl, hpre, hbx⟩ := hrel
        have HP := Lib.hid hpre
        clear hpre HM2
        replace c0 := kept hbx c0
        replace c1 := kept hbx c1
        replace c2 := kept hbx c2
        have hbz := hbw.trans (hbx.mono hbw.size)
        by_cases hlt : k < dead.length
        · have hst := risFrom_step dead k hlt
          obtain ⟨A, off, rfl, e0, e1, e2⟩ := (hd.kept hbz).at hlt
          have HT : Hid (LE = if dotOk dead[k] = true then (if dotNext (prevAt dead k) dead[k] = true then risFrom (prevAt dead (k + 1)) (dead.drop (k + 1)) else 6) else 4) := by rw [Hid, HP.out, hst]
          clear hst HP
          generalize dead[k] = x at e0 e1 e2 HT
          have hR0 := HDR.out x wr
          cases h1 : dotOk x with
          | false =>
            have HE : Hid (LE = 4) := by rw [Hid, HT.out, h1]; rfl
            rw [h1] at hR0
            have HR := Lib.hid hR0
            clear hR0 h1 HT
            go_wp2_with (go_at_call 73; (with_reducible refine HR.out.mono ?_); rintro v9 w8 ⟨rfl, hb9⟩)
            go_ret
            exact ⟨ret_int (HLE.out.trans HE.out).symm, hb0.trans ((hbz.trans (hb9.mono hbz.size)).mono hb0.size)⟩
          | true =>
            have HT1 : Hid (LE = if dotNext (prevAt dead k) x = true then risFrom (prevAt dead (k + 1)) (dead.drop (k + 1)) else 6) := by rw [Hid, HT.out, h1]; rfl
            rw [h1] at hR0
            have HR := Lib.hid hR0
            clear hR0 h1 HT
            go_upto_region 20 with (go_at_call 73; (with_reducible refine HR.out.mono ?_); rintro v9 wp ⟨rfl, hb9⟩)
            replace e0 := kept hb9 e0
            replace e1 := kept hb9 e1
            replace e2 := kept hb9 e2
            replace c0 := kept hb9 c0
            replace c1 := kept hb9 c1
            replace c2 := kept hb9 c2
            replace hbx := hbx.trans (hb9.mono hbx.size)
            replace hbz := hbz.trans (hb9.mono hbz.size)
            clear hb9 HR
            rcases Nat.eq_zero_or_pos k with hk0 | hk0
            · have hk00 : ¬ 0 < k := by omega
              have hdk0 : decide (0 < k) = false := by simp; omega
              have HE : Hid (LE = risFrom (prevAt dead (k + 1)) (dead.drop (k + 1))) := by unfold Hid; rw [HT1.out]; subst hk0; rfl
              clear HT1 hk0
              go_upto_region 20 with fail
              refine wp_region_after (by kernel_rfl) (by kernel_rfl) (fun WA hWA => ?_)
              have hbA : Below wp.heap.size wp WA := by rw [hWA.out]; go_grown
              have pc2 : ∀ i : After WA, i.w.cell? ⟨w.heap.size, 2, none⟩ = some (.slice (some ⟨A, off, none⟩) dead.length cd) := fun i => i.cell (kept hbA c2)
              clear hWA
              go_big_quiet_step (fail)
              go_big_quiet_step (fail)
              go_big_quiet_step (fail)
              go_big_quiet_step (fail)
              go_big_quiet_step (fail)
              go_big_quiet_step (fail)
              go_big_quiet_step (fail)
              go_big_quiet_step (fail)
              go_big_quiet_step (fail)
              go_big_quiet_step (fail)
              go_big_quiet_step (fail)
              go_big_quiet_step (fail)
              go_big_quiet_step (fail)
              go_big_quiet_step (fail)
              go_big_quiet_step (fail)
              go_big_quiet_step (fail)
              go_big_quiet_step (fail)
              refine wpQuiet_nil ?_
              rintro _ ⟨i, rfl⟩
              have hiA := i.h
              generalize i.w = wq at hiA ⊢
              have hbY : Below wp.heap.size wp wq := below2 hbA hiA
              clear hbA hiA pc2
              go_wp2
              go_roundw
              case rel => exact ⟨k + 1, by omega, by go_num, HE.out, hbx.trans (hbY.mono hbx.size)⟩
              case measure => simp [intOf] <;> omega
            · obtain ⟨j, rfl⟩ : ∃ j, k = j + 1 := ⟨k - 1, by omega⟩
              have hj : j < dead.length := by omega
              obtain ⟨A', off', hA', f0, f1, f2⟩ := (hd.kept hbz).at hj
              have hAA : A' = A ∧ off' = off := by cases hA'; exact ⟨rfl, rfl⟩
              rw [hAA.1, hAA.2] at f0 f1 f2
              have hpv : prevAt dead (j + 1) = some dead[j] := by simp [prevAt, hj]
              rw [hpv] at HT1
              clear hA' hAA hpv
              generalize dead[j] = y at f0 f1 f2 HT1
              have hC0 := fun (W : World) => HLs.out y x W
              have hdk0 : decide ((0 : Int) < (j : Int) + 1) = true := by simp <;> omega
              have hww : IntKind.i64.wrap ((j : Int) + 1 - 1) = (j : Int) := by rw [show (j : Int) + 1 - 1 = j by omega]; exact IntWalk.i64_in _ (by omega)
              clear hk0
              cases h2 : dotLt y x with
              | false =>
                have HE : Hid (LE = 6) := by rw [Hid, HT1.out]; simp [dotNext, h2]
                rw [h2] at hC0
                clear h2 HT1
                go_upto_region 20 with fail
                refine wp_region_after (by kernel_rfl) (by kernel_rfl) (fun WA hWA => ?_)
                have hbA : Below wp.heap.size wp WA := by rw [hWA.out]; go_grown
                have pc2 : ∀ i : After WA, i.w.cell? ⟨w.heap.size, 2, none⟩ = some (.slice (some ⟨A, off, none⟩) dead.length cd) := fun i => i.cell (kept hbA c2)
                have pe0 : ∀ i : After WA, i.w.cell? ⟨A, off + (j + 1) * 3, none⟩ = some (.int .i64 x.a.dev) := fun i => i.cell (kept hbA e0)
                have pe1 : ∀ i : After WA, i.w.cell? ⟨A, off + (j + 1) * 3 + 1, none⟩ = some (.int .i64 x.a.inc) := fun i => i.cell (kept hbA e1)
                have pe2 : ∀ i : After WA, i.w.cell? ⟨A, off + (j + 1) * 3 + 2, none⟩ = some (.int .i64 x.seq) := fun i => i.cell (kept hbA e2)
                have pf0 : ∀ i : After WA, i.w.cell? ⟨A, off + j * 3, none⟩ = some (.int .i64 y.a.dev) := fun i => i.cell (kept hbA f0)
                have pf1 : ∀ i : After WA, i.w.cell? ⟨A, off + j * 3 + 1, none⟩ = some (.int .i64 y.a.inc) := fun i => i.cell (kept hbA f1)
                have pf2 : ∀ i : After WA, i.w.cell? ⟨A, off + j * 3 + 2, none⟩ = some (.int .i64 y.seq) := fun i => i.cell (kept hbA f2)
                clear hWA
                go_big_quiet_step (fail)
                go_big_quiet_step (fail)
                go_big_quiet_step (fail)
                go_big_quiet_step (fail)
                go_big_quiet_step (fail)
                go_big_quiet_step (fail)
                go_big_quiet_step (fail)
                go_big_quiet_step (fail)
                go_big_quiet_step (fail)
                go_big_quiet_step (fail)
                go_big_quiet_step (fail)
                go_big_quiet_step (fail)
                go_big_quiet_step (fail)
                go_big_quiet_step (fail)
                go_big_quiet_step (exact Calls.after (hC0 _))
                go_big_quiet_step (fail)
                go_big_quiet_step (fail)
                refine wpQuiet_nil ?_
                rintro _ ⟨i, rfl⟩
                have hiA := i.h
                generalize i.w = wq at hiA ⊢
                have hbY : Below wp.heap.size wp wq := below2 hbA hiA
                clear hbA hiA pc2 pe0 pe1 pe2 pf0 pf1 pf2
                go_wp2
                go_ret
                exact ⟨ret_int (HLE.out.trans HE.out).symm, hb0.trans ((hbz.trans (hbY.mono hbz.size)).mono hb0.size)⟩
              | true =>
                have HE : Hid (LE = risFrom (prevAt dead (j + 1 + 1)) (dead.drop (j + 1 + 1))) := by unfold Hid; rw [HT1.out]; simp [dotNext, h2]
                rw [h2] at hC0
                clear h2 HT1
                go_upto_region 20 with fail
                refine wp_region_after (by kernel_rfl) (by kernel_rfl) (fun WA hWA => ?_)
                have hbA : Below wp.heap.size wp WA := by rw [hWA.out]; go_grown
                have pc2 : ∀ i : After WA, i.w.cell? ⟨w.heap.size, 2, none⟩ = some (.slice (some ⟨A, off, none⟩) dead.length cd) := fun i => i.cell (kept hbA c2)
                have pe0 : ∀ i : After WA, i.w.cell? ⟨A, off + (j + 1) * 3, none⟩ = some (.int .i64 x.a.dev) := fun i => i.cell (kept hbA e0)
                have pe1 : ∀ i : After WA, i.w.cell? ⟨A, off + (j + 1) * 3 + 1, none⟩ = some (.int .i64 x.a.inc) := fun i => i.cell (kept hbA e1)
                have pe2 : ∀ i : After WA, i.w.cell? ⟨A, off + (j + 1) * 3 + 2, none⟩ = some (.int .i64 x.seq) := fun i => i.cell (kept hbA e2)
                have pf0 : ∀ i : After WA, i.w.cell? ⟨A, off + j * 3, none⟩ = some (.int .i64 y.a.dev) := fun i => i.cell (kept hbA f0)
                have pf1 : ∀ i : After WA, i.w.cell? ⟨A, off + j * 3 + 1, none⟩ = some (.int .i64 y.a.inc) := fun i => i.cell (kept hbA f1)
                have pf2 : ∀ i : After WA, i.w.cell? ⟨A, off + j * 3 + 2, none⟩ = some (.int .i64 y.seq) := fun i => i.cell (kept hbA f2)
                clear hWA
                go_big_quiet_step (fail)
                go_big_quiet_step (fail)
                go_big_quiet_step (fail)
                go_big_quiet_step (fail)
                go_big_quiet_step (fail)
                go_big_quiet_step (fail)
                go_big_quiet_step (fail)
                go_big_quiet_step (fail)
                go_big_quiet_step (fail)
                go_big_quiet_step (fail)
                go_big_quiet_step (fail)
                go_big_quiet_step (fail)
                go_big_quiet_step (fail)
                go_big_quiet_step (fail)
                go_big_quiet_step (exact Calls.after (hC0 _))
                go_big_quiet_step (fail)
                go_big_quiet_step (fail)
                refine wpQuiet_nil ?_
                rintro _ ⟨i, rfl⟩
                have hiA := i.h
                generalize i.w = wq at hiA ⊢
                have hbY : Below wp.heap.size wp wq := below2 hbA hiA
                clear hbA hiA pc2 pe0 pe1 pe2 pf0 pf1 pf2
                clear hC0 hww hdk0 f0 f1 f2
                go_wp2
                go_roundw
                case rel => exact ⟨j + 1 + 1, by omega, by go_num, HE.out, hbx.trans (hbY.mono hbx.size)⟩
                case measure => simp [intOf] <;> omega
        · have HE : Hid (LE = 0) := by rw [Hid, HP.out, List.drop_eq_nil_of_le (by omega)]; exact risFrom_nil _
          clear HP
          go_wp2
          go_ret
          exact ⟨ret_int (HLE.out.trans HE.out).symm, hb0.trans (hbz.mono hb0.size)⟩
end Go.Proofs.YtcijajjngmmbeaaGreat
