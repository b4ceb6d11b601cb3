/- What may be loaded: ormap.fits, ormap.rising; the reference's Load. Conditions: as in the text. -/
import Derived.Test.YtcijajjngmmbeaaGreatRefR
set_option linter.unusedSimpArgs false
set_option linter.unusedVariables false
set_option linter.unnecessarySimpa false
namespace Go.Proofs.YtcijajjngmmbeaaGreat
open Go.RowKit

def dotNext : Option Dot → Dot → Bool
  | none, _ => true
  | some p, d => dotLt p d
def prevI (ls : List EvIt) : Nat → Option Dot
  | 0 => none
  | k + 1 => ls[k]?.map (·.1.dot)
def fitFrom (ctx : List Dot) : Option Dot → List EvIt → Int
  | _, [] => 0
  | p, x :: r => if evOk x.1 = true then (if dotNext p x.1.dot = true then (if hasM ctx x.1.dot = true then fitFrom ctx (some x.1.dot) r else 4) else 6) else 1
def risFrom : Option Dot → List Dot → Int
  | _, [] => 0
  | p, d :: r => if dotOk d = true then (if dotNext p d = true then risFrom (some d) r else 6) else 4
theorem fitFrom_step (ctx : List Dot) (ls : List EvIt) (k : Nat) (h : k < ls.length) : fitFrom ctx (prevI ls k) (ls.drop k) = if evOk ls[k].1 = true then (if dotNext (prevI ls k) ls[k].1.dot = true then (if hasM ctx ls[k].1.dot = true then fitFrom ctx (prevI ls (k + 1)) (ls.drop (k + 1)) else 4) else 6) else 1 := by
  rw [List.drop_eq_getElem_cons h, fitFrom]
  have : prevI ls (k + 1) = some ls[k].1.dot := by simp [prevI, h]
  rw [this]
theorem risFrom_step (l : List Dot) (k : Nat) (h : k < l.length) : risFrom (prevAt l k) (l.drop k) = if dotOk l[k] = true then (if dotNext (prevAt l k) l[k] = true then risFrom (prevAt l (k + 1)) (l.drop (k + 1)) else 6) else 4 := by
  rw [List.drop_eq_getElem_cons h, risFrom]
  have : prevAt l (k + 1) = some l[k] := by simp [prevAt, h]
  rw [this]
theorem fitFrom_nil (ctx : List Dot) (p : Option Dot) : fitFrom ctx p [] = 0 := by cases p <;> rfl
theorem risFrom_nil (p : Option Dot) : risFrom p [] = 0 := by cases p <;> rfl

set_option maxRecDepth 100000 in
set_option maxHeartbeats 4000000 in
theorem fits_any {v b : Nat} {ctx : List Dot} (a : Option Addr) (cap : Nat) (ls : List EvIt) (w : World) (hV : VecIn w v b ctx) (hl : ls.length ≤ 1073741824) (hsm : EvsSmall ls) (hE : EvsIn w a ls) :
    Calls Tryz.prog 93 #[.pointer (some ⟨v, 0, none⟩), .slice a ls.length cap] w fun x w' => x = .returned (.int .i64 (fitFrom ctx none ls)) ∧ Below w.heap.size w w' := by
  have HM : Hid (fitFrom ctx none ls = fitFrom ctx (prevI ls 0) (ls.drop 0)) := rfl
  have HLs := Lib.hid (fun (x y : Dot) (X : World) => less_any x y X)
  have HSM := Lib.hid hsm
  clear hsm
  go_enter Tryz.func93, Tryz.ntmps93
  go_wp2
  go_loopw [9] (fun i wr => ∃ k : Nat, k ≤ ls.length ∧ i = .int .i64 k ∧ fitFrom ctx none ls = fitFrom ctx (prevI ls k) (ls.drop k) ∧ Below w.heap.size w wr) (fun i _ => ls.length - (intOf i).toNat)
  case atStart => exact ⟨0, Nat.zero_le _, rfl, HM.out, Below.refl _ _⟩
  case round =>
    obtain ⟨k, hk, rfl, hpre, hbw⟩ := hrel
    have HP := Lib.hid hpre
    clear hpre HM
    have hzw := hbw.size
    by_cases hlt : k < ls.length
    · have hst := fitFrom_step ctx ls k hlt
      obtain ⟨A, off, rfl, hra, hda⟩ := (hE.kept hbw).at hlt
      have r1 := hra k hlt
      have hse := HSM.out _ (List.getElem_mem hlt)
      have HT : Hid (fitFrom ctx none ls = if evOk ls[k].1 = true then (if dotNext (prevI ls k) ls[k].1.dot = true then (if hasM ctx ls[k].1.dot = true then fitFrom ctx (prevI ls (k + 1)) (ls.drop (k + 1)) else 4) else 6) else 1) := by rw [Hid, HP.out, hst]
      have HRA := Lib.hid hra
      clear hst HP hra
      generalize ls[k] = x at r1 hse hda HT
      obtain ⟨e, ax, cx⟩ := x
      simp only [itEv] at r1
      simp only at hse hda HT
      go_upto_region 4 with (first
        | ((with_reducible refine wpList_load_evo _ A (off + k * 19) e ax cx r1 ?_ rfl ?_); exact rfl)
        | (refine wpList_store_new 42 _ _ _ (evCells e ax cx).toArray rfl rfl (by kernel_rfl) rfl (by kernel_rfl) ?_))
      refine wp_name (fun V hVn => ?_)
      have hbV : Below wr.heap.size wr V := by rw [hVn.out]; exact (Below.refl _ _).alloc (Nat.le_refl _) _
      have re : V.rangeAt wr.heap.size 0 (evCells e ax cx) := by rw [hVn.out]; exact evCells_box e ax cx wr _
      have hR0 := eventRight_any e ax cx V hse (hda.kept hbV)
      have hbB := hbw.trans (hbV.mono hzw)
      generalize wr.heap.size = B at *
      clear hVn r1 hda hbV
      cases h1 : evOk e with
      | false =>
        have HE : Hid (fitFrom ctx none ls = 1) := by rw [Hid, HT.out, h1]; rfl
        rw [h1] at hR0
        have HR := Lib.hid hR0
        clear hR0 h1 HT
        go_wp2_with (first
          | ((with_reducible refine wpList_load_evo _ B 0 e ax cx re ?_ rfl ?_); exact rfl)
          | (go_at_call 61; (with_reducible refine HR.out.mono ?_); rintro v9 w9 ⟨rfl, hb9⟩))
        go_ret
        exact ⟨ret_int HE.out.symm, hbB.trans (hb9.mono hbB.size)⟩
      | true =>
        have HT1 : Hid (fitFrom ctx none ls = if dotNext (prevI ls k) e.dot = true then (if hasM ctx e.dot = true then fitFrom ctx (prevI ls (k + 1)) (ls.drop (k + 1)) else 4) else 6) := by rw [Hid, HT.out, h1]; rfl
        rw [h1] at hR0
        have HR := Lib.hid hR0
        clear hR0 h1 HT
        go_upto_region 6 with (first
          | ((with_reducible refine wpList_load_evo _ B 0 e ax cx re ?_ rfl ?_); exact rfl)
          | (go_at_call 61; (with_reducible refine HR.out.mono ?_); rintro v9 wp ⟨rfl, hb9⟩))
        have rp := rangeAt_kept re hb9
        replace hbB := hbB.trans (hb9.mono hbB.size)
        have b0 := rp 0 _ rfl
        have b1 := rp 1 _ rfl
        have b2 := rp 2 _ rfl
        simp only [Nat.zero_add] at b0 b1 b2
        clear re rp hb9 HR
        rcases Nat.eq_zero_or_pos k with hk0 | hk0
        · have hk00 : ¬ 0 < k := by omega
          have hdk : decide (0 < k) = false := by simp; omega
          have HT2 : Hid (fitFrom ctx none ls = if hasM ctx e.dot = true then fitFrom ctx (prevI ls (k + 1)) (ls.drop (k + 1)) else 4) := by rw [Hid, HT1.out]; subst hk0; rfl
          clear HT1 hk0
          go_upto_region 6 with fail
          refine wp_region_after (by kernel_rfl) (by kernel_rfl) (fun WA hWA => ?_)
          have hbA : Below wp.heap.size wp WA := by rw [hWA.out]; go_grown
          have pb0 : ∀ i : After WA, i.w.cell? ⟨B, 0, none⟩ = some (.int .i64 e.dot.a.dev) := fun i => i.cell (kept hbA b0)
          have pb1 : ∀ i : After WA, i.w.cell? ⟨B, 1, none⟩ = some (.int .i64 e.dot.a.inc) := fun i => i.cell (kept hbA b1)
          have pb2 : ∀ i : After WA, i.w.cell? ⟨B, 2, none⟩ = some (.int .i64 e.dot.seq) := fun i => i.cell (kept hbA b2)
          clear hWA
          go_big_quiet_step (fail)
          go_big_quiet_step (fail)
          go_big_quiet_step (fail)
          go_big_quiet_step (fail)
          go_big_quiet_step (fail)
          go_big_quiet_step (fail)
          go_big_quiet_step (fail)
          go_big_quiet_step (fail)
          go_big_quiet_step (fail)
          go_big_quiet_step (fail)
          go_big_quiet_step (fail)
          go_big_quiet_step (fail)
          go_big_quiet_step (fail)
          go_big_quiet_step (fail)
          go_big_quiet_step (fail)
          refine wpQuiet_nil ?_
          rintro _ ⟨i, rfl⟩
          have hiA := i.h
          generalize i.w = wq at hiA ⊢
          have hbY : Below wp.heap.size wp wq := below2 hbA hiA
          clear hbA hiA pb0 pb1 pb2
          have hVq := hV.kept (hbB.trans (hbY.mono hbB.size))
          have q0 := kept hbY b0
          have q1 := kept hbY b1
          have q2 := kept hbY b2
          have hbQ := hbB.trans (hbY.mono hbB.size)
          have hH0 := vHas_any e.dot wq hVq
          clear b0 b1 b2 hbY hbB hVq
          cases h3 : hasM ctx e.dot with
          | false =>
            have HE : Hid (fitFrom ctx none ls = 4) := by unfold Hid; rw [HT2.out, h3]; rfl
            rw [h3] at hH0
            have HH := Lib.hid hH0
            clear hH0 h3 HT2
            go_wp2_with (go_at_call 62; (with_reducible refine HH.out.mono ?_); rintro v9 w9 ⟨rfl, hb9⟩)
            go_ret
            exact ⟨ret_int HE.out.symm, hbQ.trans (hb9.mono hbQ.size)⟩
          | true =>
            have HE : Hid (fitFrom ctx none ls = fitFrom ctx (prevI ls (k + 1)) (ls.drop (k + 1))) := by unfold Hid; rw [HT2.out, h3]; rfl
            rw [h3] at hH0
            have HH := Lib.hid hH0
            clear hH0 h3 HT2
            go_wp2_with (go_at_call 62; (with_reducible refine HH.out.mono ?_); rintro v9 w9 ⟨rfl, hb9⟩)
            go_roundw
            case rel => exact ⟨k + 1, by omega, by go_num, HE.out, hbQ.trans (hb9.mono hbQ.size)⟩
            case measure => simp [intOf] <;> omega
        · obtain ⟨j, rfl⟩ : ∃ j, k = j + 1 := ⟨k - 1, by omega⟩
          have hj : j < ls.length := by omega
          obtain ⟨A', off', hA', hra', _⟩ := (hE.kept hbB).at hj
          have hAA : A' = A ∧ off' = off := by cases hA'; exact ⟨rfl, rfl⟩
          rw [hAA.1, hAA.2] at hra'
          have ry := hra' j hj
          have hpv : prevI ls (j + 1) = some ls[j].1.dot := by simp [prevI, hj]
          rw [hpv] at HT1
          clear hra' hA' hAA HRA hpv
          generalize ls[j] = y at ry HT1
          obtain ⟨y, ay, cy⟩ := y
          simp only [itEv] at ry
          simp only at HT1
          have f0 := ry 0 _ rfl
          have f1 := ry 1 _ rfl
          have f2 := ry 2 _ rfl
          simp only [Nat.add_zero] at f0
          have hC0 := fun (W : World) => HLs.out y.dot e.dot W
          have hdk : decide ((0 : Int) < (j : Int) + 1) = true := by simp <;> omega
          have hww : IntKind.i64.wrap ((j : Int) + 1 - 1) = (j : Int) := by rw [show (j : Int) + 1 - 1 = j by omega]; exact IntWalk.i64_in _ (by omega)
          clear ry hk0
          cases h2 : dotLt y.dot e.dot with
          | false =>
            have HE : Hid (fitFrom ctx none ls = 6) := by rw [Hid, HT1.out]; simp [dotNext, h2]
            rw [h2] at hC0
            clear h2 HT1
            go_upto_region 6 with fail
            refine wp_region_after (by kernel_rfl) (by kernel_rfl) (fun WA hWA => ?_)
            have hbA : Below wp.heap.size wp WA := by rw [hWA.out]; go_grown
            have pb0 : ∀ i : After WA, i.w.cell? ⟨B, 0, none⟩ = some (.int .i64 e.dot.a.dev) := fun i => i.cell (kept hbA b0)
            have pb1 : ∀ i : After WA, i.w.cell? ⟨B, 1, none⟩ = some (.int .i64 e.dot.a.inc) := fun i => i.cell (kept hbA b1)
            have pb2 : ∀ i : After WA, i.w.cell? ⟨B, 2, none⟩ = some (.int .i64 e.dot.seq) := fun i => i.cell (kept hbA b2)
            have pf0 : ∀ i : After WA, i.w.cell? ⟨A, off + j * 19, none⟩ = some (.int .i64 y.dot.a.dev) := fun i => i.cell (kept hbA f0)
            have pf1 : ∀ i : After WA, i.w.cell? ⟨A, off + j * 19 + 1, none⟩ = some (.int .i64 y.dot.a.inc) := fun i => i.cell (kept hbA f1)
            have pf2 : ∀ i : After WA, i.w.cell? ⟨A, off + j * 19 + 2, none⟩ = some (.int .i64 y.dot.seq) := fun i => i.cell (kept hbA f2)
            clear hWA
            go_big_quiet_step (fail)
            go_big_quiet_step (fail)
            go_big_quiet_step (fail)
            go_big_quiet_step (fail)
            go_big_quiet_step (fail)
            go_big_quiet_step (fail)
            go_big_quiet_step (fail)
            go_big_quiet_step (fail)
            go_big_quiet_step (fail)
            go_big_quiet_step (fail)
            go_big_quiet_step (fail)
            go_big_quiet_step (exact Calls.after (hC0 _))
            go_big_quiet_step (fail)
            go_big_quiet_step (fail)
            go_big_quiet_step (fail)
            refine wpQuiet_nil ?_
            rintro _ ⟨i, rfl⟩
            have hiA := i.h
            generalize i.w = wq at hiA ⊢
            have hbY : Below wp.heap.size wp wq := below2 hbA hiA
            clear hbA hiA pb0 pb1 pb2 pf0 pf1 pf2
            go_wp2
            go_ret
            exact ⟨ret_int HE.out.symm, hbB.trans (hbY.mono hbB.size)⟩
          | true =>
            have HT2 : Hid (fitFrom ctx none ls = if hasM ctx e.dot = true then fitFrom ctx (prevI ls (j + 1 + 1)) (ls.drop (j + 1 + 1)) else 4) := by rw [Hid, HT1.out]; simp [dotNext, h2]
            rw [h2] at hC0
            clear h2 HT1
            go_upto_region 6 with fail
            refine wp_region_after (by kernel_rfl) (by kernel_rfl) (fun WA hWA => ?_)
            have hbA : Below wp.heap.size wp WA := by rw [hWA.out]; go_grown
            have pb0 : ∀ i : After WA, i.w.cell? ⟨B, 0, none⟩ = some (.int .i64 e.dot.a.dev) := fun i => i.cell (kept hbA b0)
            have pb1 : ∀ i : After WA, i.w.cell? ⟨B, 1, none⟩ = some (.int .i64 e.dot.a.inc) := fun i => i.cell (kept hbA b1)
            have pb2 : ∀ i : After WA, i.w.cell? ⟨B, 2, none⟩ = some (.int .i64 e.dot.seq) := fun i => i.cell (kept hbA b2)
            have pf0 : ∀ i : After WA, i.w.cell? ⟨A, off + j * 19, none⟩ = some (.int .i64 y.dot.a.dev) := fun i => i.cell (kept hbA f0)
            have pf1 : ∀ i : After WA, i.w.cell? ⟨A, off + j * 19 + 1, none⟩ = some (.int .i64 y.dot.a.inc) := fun i => i.cell (kept hbA f1)
            have pf2 : ∀ i : After WA, i.w.cell? ⟨A, off + j * 19 + 2, none⟩ = some (.int .i64 y.dot.seq) := fun i => i.cell (kept hbA f2)
            clear hWA
            go_big_quiet_step (fail)
            go_big_quiet_step (fail)
            go_big_quiet_step (fail)
            go_big_quiet_step (fail)
            go_big_quiet_step (fail)
            go_big_quiet_step (fail)
            go_big_quiet_step (fail)
            go_big_quiet_step (fail)
            go_big_quiet_step (fail)
            go_big_quiet_step (fail)
            go_big_quiet_step (fail)
            go_big_quiet_step (exact Calls.after (hC0 _))
            go_big_quiet_step (fail)
            go_big_quiet_step (fail)
            go_big_quiet_step (fail)
            refine wpQuiet_nil ?_
            rintro _ ⟨i, rfl⟩
            have hiA := i.h
            generalize i.w = wq at hiA ⊢
            have hbY : Below wp.heap.size wp wq := below2 hbA hiA
            clear hbA hiA pb0 pb1 pb2 pf0 pf1 pf2
            clear hC0 hww hdk f0 f1 f2
            have hVq := hV.kept (hbB.trans (hbY.mono hbB.size))
            have q0 := kept hbY b0
            have q1 := kept hbY b1
            have q2 := kept hbY b2
            have hbQ := hbB.trans (hbY.mono hbB.size)
            have hH0 := vHas_any e.dot wq hVq
            clear b0 b1 b2 hbY hbB hVq
            cases h3 : hasM ctx e.dot with
            | false =>
              have HE : Hid (fitFrom ctx none ls = 4) := by unfold Hid; rw [HT2.out, h3]; rfl
              rw [h3] at hH0
              have HH := Lib.hid hH0
              clear hH0 h3 HT2
              go_wp2_with (go_at_call 62; (with_reducible refine HH.out.mono ?_); rintro v9 w9 ⟨rfl, hb9⟩)
              go_ret
              exact ⟨ret_int HE.out.symm, hbQ.trans (hb9.mono hbQ.size)⟩
            | true =>
              have HE : Hid (fitFrom ctx none ls = fitFrom ctx (prevI ls ((j + 1) + 1)) (ls.drop ((j + 1) + 1))) := by unfold Hid; rw [HT2.out, h3]; rfl
              rw [h3] at hH0
              have HH := Lib.hid hH0
              clear hH0 h3 HT2
              go_wp2_with (go_at_call 62; (with_reducible refine HH.out.mono ?_); rintro v9 w9 ⟨rfl, hb9⟩)
              go_roundw
              case rel => exact ⟨(j + 1) + 1, by omega, by go_num, HE.out, hbQ.trans (hb9.mono hbQ.size)⟩
              case measure => simp [intOf] <;> omega
    · have HE : Hid (fitFrom ctx none ls = 0) := by rw [Hid, HP.out, List.drop_eq_nil_of_le (by omega)]; exact fitFrom_nil _ _
      clear HP
      go_wp2
      go_ret
      exact ⟨ret_int HE.out.symm, hbw⟩

/-! ### rising -/
set_option maxRecDepth 100000 in
set_option maxHeartbeats 4000000 in
theorem rising_any (a : Option Addr) (cap : Nat) (l : List Dot) (w : World) (hl : l.length ≤ 1073741824) (hd : DotsIn w a l) :
    Calls Tryz.prog 94 #[.slice a l.length cap] w fun x w' => x = .returned (.int .i64 (risFrom none l)) ∧ Below w.heap.size w w' := by
  have HM : Hid (risFrom none l = risFrom (prevAt l 0) (l.drop 0)) := rfl
  have HLs := Lib.hid (fun (x y : Dot) (X : World) => less_any x y X)
  go_enter Tryz.func94, Tryz.ntmps94
  go_wp2
  go_loopw [7] (fun i wr => ∃ k : Nat, k ≤ l.length ∧ i = .int .i64 k ∧ risFrom none l = risFrom (prevAt l k) (l.drop k) ∧ Below w.heap.size w wr) (fun i _ => l.length - (intOf i).toNat)
  case atStart => exact ⟨0, Nat.zero_le _, rfl, HM.out, Below.refl _ _⟩
  case round =>
    obtain ⟨k, hk, rfl, hpre, hbw⟩ := hrel
    have HP := Lib.hid hpre
    clear hpre HM
    have hzw := hbw.size
    by_cases hlt : k < l.length
    · have hst := risFrom_step l k hlt
      obtain ⟨A, off, rfl, e0, e1, e2⟩ := (hd.kept hbw).at hlt
      have HT : Hid (risFrom none l = if dotOk l[k] = true then (if dotNext (prevAt l k) l[k] = true then risFrom (prevAt l (k + 1)) (l.drop (k + 1)) else 6) else 4) := by rw [Hid, HP.out, hst]
      clear hst HP
      generalize l[k] = x at e0 e1 e2 HT
      go_upto_region 4 with fail
      refine wp_name (fun V hVn => ?_)
      have hbV : Below wr.heap.size wr V := by rw [hVn.out]; go_grown
      have b0 : V.cell? ⟨wr.heap.size, 0, none⟩ = some (.int .i64 x.a.dev) := by rw [hVn.out]; go_simp
      have b1 : V.cell? ⟨wr.heap.size, 1, none⟩ = some (.int .i64 x.a.inc) := by rw [hVn.out]; go_simp
      have b2 : V.cell? ⟨wr.heap.size, 2, none⟩ = some (.int .i64 x.seq) := by rw [hVn.out]; go_simp
      have hR0 := fun (X : World) => dotRight_any x X
      have hbB := hbw.trans (hbV.mono hzw)
      generalize wr.heap.size = B at *
      clear hVn e0 e1 e2 hbV
      cases h1 : dotOk x with
      | false =>
        have HE : Hid (risFrom none l = 4) := by rw [Hid, HT.out, h1]; rfl
        rw [h1] at hR0
        have HR := Lib.hid hR0
        clear hR0 h1 HT
        go_wp2_with (go_at_call 96; (with_reducible refine (HR.out _).mono ?_); rintro v9 w9 ⟨rfl, hb9⟩)
        go_ret
        exact ⟨ret_int HE.out.symm, hbB.trans (hb9.mono hbB.size)⟩
      | true =>
        have HT1 : Hid (risFrom none l = if dotNext (prevAt l k) x = true then risFrom (prevAt l (k + 1)) (l.drop (k + 1)) else 6) := by rw [Hid, HT.out, h1]; rfl
        rw [h1] at hR0
        have HR := Lib.hid hR0
        clear hR0 h1 HT
        go_upto_region 6 with (go_at_call 96; (with_reducible refine (HR.out _).mono ?_); rintro v9 wp ⟨rfl, hb9⟩)
        replace b0 := kept hb9 b0
        replace b1 := kept hb9 b1
        replace b2 := kept hb9 b2
        replace hbB := hbB.trans (hb9.mono hbB.size)
        clear hb9 HR
        rcases Nat.eq_zero_or_pos k with hk0 | hk0
        · have hk00 : ¬ 0 < k := by omega
          have hdk : decide (0 < k) = false := by simp; omega
          have HE : Hid (risFrom none l = risFrom (prevAt l (k + 1)) (l.drop (k + 1))) := by rw [Hid, HT1.out]; subst hk0; rfl
          clear HT1 hk0
          go_upto_region 6 with fail
          refine wp_region_after (by kernel_rfl) (by kernel_rfl) (fun WA hWA => ?_)
          have hbA : Below wp.heap.size wp WA := by rw [hWA.out]; go_grown
          have pb0 : ∀ i : After WA, i.w.cell? ⟨B, 0, none⟩ = some (.int .i64 x.a.dev) := fun i => i.cell (kept hbA b0)
          have pb1 : ∀ i : After WA, i.w.cell? ⟨B, 1, none⟩ = some (.int .i64 x.a.inc) := fun i => i.cell (kept hbA b1)
          have pb2 : ∀ i : After WA, i.w.cell? ⟨B, 2, none⟩ = some (.int .i64 x.seq) := fun i => i.cell (kept hbA b2)
          clear hWA
          go_big_quiet_step (fail)
          go_big_quiet_step (fail)
          go_big_quiet_step (fail)
          go_big_quiet_step (fail)
          go_big_quiet_step (fail)
          go_big_quiet_step (fail)
          go_big_quiet_step (fail)
          go_big_quiet_step (fail)
          go_big_quiet_step (fail)
          go_big_quiet_step (fail)
          go_big_quiet_step (fail)
          go_big_quiet_step (fail)
          go_big_quiet_step (fail)
          refine wpQuiet_nil ?_
          rintro _ ⟨i, rfl⟩
          have hiA := i.h
          generalize i.w = wq at hiA ⊢
          have hbY : Below wp.heap.size wp wq := below2 hbA hiA
          clear hbA hiA pb0 pb1 pb2
          go_wp2
          go_roundw
          case rel => exact ⟨k + 1, by omega, by go_num, HE.out, hbB.trans (hbY.mono hbB.size)⟩
          case measure => simp [intOf] <;> omega
        · obtain ⟨j, rfl⟩ : ∃ j, k = j + 1 := ⟨k - 1, by omega⟩
          have hj : j < l.length := by omega
          obtain ⟨A', off', hA', f0, f1, f2⟩ := (hd.kept hbB).at hj
          have hAA : A' = A ∧ off' = off := by cases hA'; exact ⟨rfl, rfl⟩
          rw [hAA.1, hAA.2] at f0 f1 f2
          have hpv : prevAt l (j + 1) = some l[j] := by simp [prevAt, hj]
          rw [hpv] at HT1
          clear hA' hAA hpv
          generalize l[j] = y at f0 f1 f2 HT1
          have hC0 := fun (W : World) => HLs.out y x W
          have hdk : decide ((0 : Int) < (j : Int) + 1) = true := by simp <;> omega
          have hww : IntKind.i64.wrap ((j : Int) + 1 - 1) = (j : Int) := by rw [show (j : Int) + 1 - 1 = j by omega]; exact IntWalk.i64_in _ (by omega)
          clear hk0
          cases h2 : dotLt y x with
          | false =>
            have HE : Hid (risFrom none l = 6) := by rw [Hid, HT1.out]; simp [dotNext, h2]
            rw [h2] at hC0
            clear h2 HT1
            go_upto_region 6 with fail
            refine wp_region_after (by kernel_rfl) (by kernel_rfl) (fun WA hWA => ?_)
            have hbA : Below wp.heap.size wp WA := by rw [hWA.out]; go_grown
            have pb0 : ∀ i : After WA, i.w.cell? ⟨B, 0, none⟩ = some (.int .i64 x.a.dev) := fun i => i.cell (kept hbA b0)
            have pb1 : ∀ i : After WA, i.w.cell? ⟨B, 1, none⟩ = some (.int .i64 x.a.inc) := fun i => i.cell (kept hbA b1)
            have pb2 : ∀ i : After WA, i.w.cell? ⟨B, 2, none⟩ = some (.int .i64 x.seq) := fun i => i.cell (kept hbA b2)
            have pf0 : ∀ i : After WA, i.w.cell? ⟨A, off + j * 3, none⟩ = some (.int .i64 y.a.dev) := fun i => i.cell (kept hbA f0)
            have pf1 : ∀ i : After WA, i.w.cell? ⟨A, off + j * 3 + 1, none⟩ = some (.int .i64 y.a.inc) := fun i => i.cell (kept hbA f1)
            have pf2 : ∀ i : After WA, i.w.cell? ⟨A, off + j * 3 + 2, none⟩ = some (.int .i64 y.seq) := fun i => i.cell (kept hbA f2)
            clear hWA
            go_big_quiet_step (fail)
            go_big_quiet_step (fail)
            go_big_quiet_step (fail)
            go_big_quiet_step (fail)
            go_big_quiet_step (fail)
            go_big_quiet_step (fail)
            go_big_quiet_step (fail)
            go_big_quiet_step (fail)
            go_big_quiet_step (fail)
            go_big_quiet_step (exact Calls.after (hC0 _))
            go_big_quiet_step (fail)
            go_big_quiet_step (fail)
            go_big_quiet_step (fail)
            refine wpQuiet_nil ?_
            rintro _ ⟨i, rfl⟩
            have hiA := i.h
            generalize i.w = wq at hiA ⊢
            have hbY : Below wp.heap.size wp wq := below2 hbA hiA
            clear hbA hiA pb0 pb1 pb2 pf0 pf1 pf2
            go_wp2
            go_ret
            exact ⟨ret_int HE.out.symm, hbB.trans (hbY.mono hbB.size)⟩
          | true =>
            have HE : Hid (risFrom none l = risFrom (prevAt l (j + 1 + 1)) (l.drop (j + 1 + 1))) := by rw [Hid, HT1.out]; simp [dotNext, h2]
            rw [h2] at hC0
            clear h2 HT1
            go_upto_region 6 with fail
            refine wp_region_after (by kernel_rfl) (by kernel_rfl) (fun WA hWA => ?_)
            have hbA : Below wp.heap.size wp WA := by rw [hWA.out]; go_grown
            have pb0 : ∀ i : After WA, i.w.cell? ⟨B, 0, none⟩ = some (.int .i64 x.a.dev) := fun i => i.cell (kept hbA b0)
            have pb1 : ∀ i : After WA, i.w.cell? ⟨B, 1, none⟩ = some (.int .i64 x.a.inc) := fun i => i.cell (kept hbA b1)
            have pb2 : ∀ i : After WA, i.w.cell? ⟨B, 2, none⟩ = some (.int .i64 x.seq) := fun i => i.cell (kept hbA b2)
            have pf0 : ∀ i : After WA, i.w.cell? ⟨A, off + j * 3, none⟩ = some (.int .i64 y.a.dev) := fun i => i.cell (kept hbA f0)
            have pf1 : ∀ i : After WA, i.w.cell? ⟨A, off + j * 3 + 1, none⟩ = some (.int .i64 y.a.inc) := fun i => i.cell (kept hbA f1)
            have pf2 : ∀ i : After WA, i.w.cell? ⟨A, off + j * 3 + 2, none⟩ = some (.int .i64 y.seq) := fun i => i.cell (kept hbA f2)
            clear hWA
            go_big_quiet_step (fail)
            go_big_quiet_step (fail)
            go_big_quiet_step (fail)
            go_big_quiet_step (fail)
            go_big_quiet_step (fail)
            go_big_quiet_step (fail)
            go_big_quiet_step (fail)
            go_big_quiet_step (fail)
            go_big_quiet_step (fail)
            go_big_quiet_step (exact Calls.after (hC0 _))
            go_big_quiet_step (fail)
            go_big_quiet_step (fail)
            go_big_quiet_step (fail)
            refine wpQuiet_nil ?_
            rintro _ ⟨i, rfl⟩
            have hiA := i.h
            generalize i.w = wq at hiA ⊢
            have hbY : Below wp.heap.size wp wq := below2 hbA hiA
            clear hbA hiA pb0 pb1 pb2 pf0 pf1 pf2
            clear hC0 hww hdk f0 f1 f2
            go_wp2
            go_roundw
            case rel => exact ⟨j + 1 + 1, by omega, by go_num, HE.out, hbB.trans (hbY.mono hbB.size)⟩
            case measure => simp [intOf] <;> omega
    · have HE : Hid (risFrom none l = 0) := by rw [Hid, HP.out, List.drop_eq_nil_of_le (by omega)]; exact risFrom_nil _
      clear HP
      go_wp2
      go_ret
      exact ⟨ret_int HE.out.symm, hbw⟩
end Go.Proofs.YtcijajjngmmbeaaGreat
