/- Are two events the same: the reference's Same. Conditions: at most 2^30 dots. -/
import Derived.Test.YtcijajjngmmbeaaGreatSame
import Derived.Test.YtcijajjngmmbeaaGreatLoad
set_option linter.unusedSimpArgs false
set_option linter.unusedVariables false
set_option linter.unnecessarySimpa false
namespace Go.Proofs.YtcijajjngmmbeaaGreat
open Go.RowKit

theorem ev_iff (e f : Ev) : e = f ↔ e.dot = f.dot ∧ e.stamp = f.stamp ∧ e.kind = f.kind ∧ e.key = f.key ∧ e.ck = f.ck ∧ e.over = f.over := by
  cases e; cases f; simp

set_option maxRecDepth 100000 in
set_option maxHeartbeats 4000000 in
theorem rSameEv_any (e f : Ev) (a b : Option Addr) (ca cb : Nat) (w : World) (hl : e.over.length ≤ 1073741824) (hm : f.over.length ≤ 1073741824) (ha : DotsIn w a e.over) (hb : DotsIn w b f.over) :
    Calls Tryz.prog 24 #[evVal e a ca, evVal f b cb] w fun x w' => x = .returned (.bool (decide (e = f))) ∧ Below w.heap.size w w' := by
  have HV := Lib.hid (ev_iff e f)
  have hq1 : ∀ W : World, (Op.equalIn 10000 28 (.agg #[.int .i64 e.dot.a.dev, .int .i64 e.dot.a.inc, .int .i64 e.dot.seq]) (.agg #[.int .i64 f.dot.a.dev, .int .i64 f.dot.a.inc, .int .i64 f.dot.seq])).run Tryz.prog W = .ok (decide (e.dot = f.dot)) W := fun W => eqDot W 9997 e.dot f.dot
  have hq2 : ∀ W : World, (Op.equalIn 10000 37 (.agg #[.int .i64 e.stamp.wall, .int .i64 e.stamp.count, .int .i64 e.stamp.dev]) (.agg #[.int .i64 f.stamp.wall, .int .i64 f.stamp.count, .int .i64 f.stamp.dev])).run Tryz.prog W = .ok (decide (e.stamp = f.stamp)) W := fun W => eqStamp W 9998 e.stamp f.stamp
  have hq4 : ∀ W : World, (Op.equalIn 10000 24 (.agg #[.string e.key.name, .string e.key.domain, .string e.key.path]) (.agg #[.string f.key.name, .string f.key.domain, .string f.key.path])).run Tryz.prog W = .ok (decide (e.key = f.key)) W := fun W => eqKey W 9998 e.key f.key
  have hq5 : ∀ W : World, (Op.equalIn 10000 39 (.agg #[.string e.ck.value, .bool e.ck.hostOnly, .bool e.ck.secure, .bool e.ck.httpOnly, .bool e.ck.persistent, .int .i64 e.ck.expiry, .int .i64 e.ck.creation, .int .i64 e.ck.access]) (.agg #[.string f.ck.value, .bool f.ck.hostOnly, .bool f.ck.secure, .bool f.ck.httpOnly, .bool f.ck.persistent, .int .i64 f.ck.expiry, .int .i64 f.ck.creation, .int .i64 f.ck.access])).run Tryz.prog W = .ok (decide (e.ck = f.ck)) W := fun W => eqCk W 9998 e.ck f.ck
  have g1 := noGuardDot
  have g2 := noGuardStamp
  have g4 := noGuardKey
  have g5 := noGuardCookie
  have HO := Lib.hid (fun (W : World) (h1 : DotsIn W a e.over) (h2 : DotsIn W b f.over) => rSameDots_any a b ca cb e.over f.over W hl hm h1 h2)
  by_cases t0 : e.dot = f.dot
  · rw [decide_eq_true t0] at hq1
    by_cases t1 : e.stamp = f.stamp
    · rw [decide_eq_true t1] at hq2
      by_cases t2 : e.kind = f.kind
      · skip
        by_cases t3 : e.key = f.key
        · rw [decide_eq_true t3] at hq4
          by_cases t4 : e.ck = f.ck
          · rw [decide_eq_true t4] at hq5
            have HE : Hid (decide (e = f) = decide (e.over = f.over)) := by rw [Hid, Bool.eq_iff_iff, decide_eq_true_eq, decide_eq_true_eq, HV.out]; simp [t0, t1, t2, t3, t4]
            clear t0
            clear t1
            have u2 : (e.kind == f.kind) = true := beq_iff_eq.2 t2
            clear t2
            clear t3
            clear t4
            go_enter Tryz.func24, Tryz.ntmps24
            go_upto_region 1 with fail
            refine wp_name (fun W hW => ?_)
            have hbt : Below w.heap.size w W := by rw [hW.out]; go_grown
            have ha1 := ha.kept hbt
            have hb1 := hb.kept hbt
            have hR : W.rangeAt w.heap.size 0 (evCells e a ca) := by rw [hW.out]; exact World.rangeAt_alloc (evCells_box e a ca w _) _
            have hS : W.rangeAt (w.heap.size + 1) 0 (evCells f b cb) := by
              have h := evCells_box f b cb (w.alloc (Obj.cells #[.int .i64 e.dot.a.dev, .int .i64 e.dot.a.inc, .int .i64 e.dot.seq, .int .i64 e.stamp.wall, .int .i64 e.stamp.count, .int .i64 e.stamp.dev, .int .i64 e.kind, .string e.key.name, .string e.key.domain, .string e.key.path, .string e.ck.value, .bool e.ck.hostOnly, .bool e.ck.secure, .bool e.ck.httpOnly, .bool e.ck.persistent, .int .i64 e.ck.expiry, .int .i64 e.ck.creation, .int .i64 e.ck.access, .slice a e.over.length ca] 42)) 42
              rw [hW.out]; simpa using h
            have q0 := hR 0 _ rfl
            have r0 := hS 0 _ rfl
            have q1 := hR 1 _ rfl
            have r1 := hS 1 _ rfl
            have q2 := hR 2 _ rfl
            have r2 := hS 2 _ rfl
            have q3 := hR 3 _ rfl
            have r3 := hS 3 _ rfl
            have q4 := hR 4 _ rfl
            have r4 := hS 4 _ rfl
            have q5 := hR 5 _ rfl
            have r5 := hS 5 _ rfl
            have q6 := hR 6 _ rfl
            have r6 := hS 6 _ rfl
            have q7 := hR 7 _ rfl
            have r7 := hS 7 _ rfl
            have q8 := hR 8 _ rfl
            have r8 := hS 8 _ rfl
            have q9 := hR 9 _ rfl
            have r9 := hS 9 _ rfl
            have q10 := hR 10 _ rfl
            have r10 := hS 10 _ rfl
            have q11 := hR 11 _ rfl
            have r11 := hS 11 _ rfl
            have q12 := hR 12 _ rfl
            have r12 := hS 12 _ rfl
            have q13 := hR 13 _ rfl
            have r13 := hS 13 _ rfl
            have q14 := hR 14 _ rfl
            have r14 := hS 14 _ rfl
            have q15 := hR 15 _ rfl
            have r15 := hS 15 _ rfl
            have q16 := hR 16 _ rfl
            have r16 := hS 16 _ rfl
            have q17 := hR 17 _ rfl
            have r17 := hS 17 _ rfl
            have q18 := hR 18 _ rfl
            have r18 := hS 18 _ rfl
            clear hW hR hS ha hb
            go_wp2_with (go_at_call 72; (with_reducible refine (HO.out _ ha1 hb1).mono ?_); rintro x w1 ⟨rfl, hb2⟩)
            go_ret
            exact ⟨ret_bool HE.out.symm, below2 hbt hb2⟩
          · rw [decide_eq_false t4] at hq5
            have HE : Hid (decide (e = f) = false) := by rw [Hid, decide_eq_false_iff_not, HV.out]; intro h; exact t4 (by simp only [h])
            have u2 : (e.kind == f.kind) = true := beq_iff_eq.2 t2
            clear t0
            clear t1
            clear t2
            clear t3
            clear t4
            go_enter Tryz.func24, Tryz.ntmps24
            go_wp2
            go_ret
            exact ⟨ret_bool HE.out.symm, by go_grown⟩
        · rw [decide_eq_false t3] at hq4
          have HE : Hid (decide (e = f) = false) := by rw [Hid, decide_eq_false_iff_not, HV.out]; intro h; exact t3 (by simp only [h])
          have u2 : (e.kind == f.kind) = true := beq_iff_eq.2 t2
          clear t0
          clear t1
          clear t2
          clear t3
          go_enter Tryz.func24, Tryz.ntmps24
          go_wp2
          go_ret
          exact ⟨ret_bool HE.out.symm, by go_grown⟩
      · have u2 : (e.kind == f.kind) = false := beq_eq_false_iff_ne.2 t2
        have HE : Hid (decide (e = f) = false) := by rw [Hid, decide_eq_false_iff_not, HV.out]; intro h; exact t2 (by simp only [h])
        clear t0
        clear t1
        clear t2
        go_enter Tryz.func24, Tryz.ntmps24
        go_wp2
        go_ret
        exact ⟨ret_bool HE.out.symm, by go_grown⟩
    · rw [decide_eq_false t1] at hq2
      have HE : Hid (decide (e = f) = false) := by rw [Hid, decide_eq_false_iff_not, HV.out]; intro h; exact t1 (by simp only [h])
      clear t0
      clear t1
      go_enter Tryz.func24, Tryz.ntmps24
      go_wp2
      go_ret
      exact ⟨ret_bool HE.out.symm, by go_grown⟩
  · rw [decide_eq_false t0] at hq1
    have HE : Hid (decide (e = f) = false) := by rw [Hid, decide_eq_false_iff_not, HV.out]; intro h; exact t0 (by simp only [h])
    clear t0
    go_enter Tryz.func24, Tryz.ntmps24
    go_wp2
    go_ret
    exact ⟨ret_bool HE.out.symm, by go_grown⟩
end Go.Proofs.YtcijajjngmmbeaaGreat

/- Are two events the same: event.Same. Conditions: at most 2^30 dots. -/
namespace Go.Proofs.YtcijajjngmmbeaaGreat
open Go.RowKit

end Go.Proofs.YtcijajjngmmbeaaGreat
