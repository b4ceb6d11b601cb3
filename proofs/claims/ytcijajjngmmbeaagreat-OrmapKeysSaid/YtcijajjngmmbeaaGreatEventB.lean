/- Which events may be: event.Right. Conditions: texts of at most 2^30 bytes, at most 2^30 dots. -/
import Derived.Test.YtcijajjngmmbeaaGreatLoad
set_option linter.unusedSimpArgs false
set_option linter.unusedVariables false
set_option linter.unnecessarySimpa false
namespace Go.Proofs.YtcijajjngmmbeaaGreat
open Go.RowKit

set_option maxRecDepth 100000 in
set_option maxHeartbeats 1000000 in
theorem eventRight_any (e : Ev) (a : Option Addr) (cap : Nat) (w : World) (hs : EvSmall e) (hover : DotsIn w a e.over) :
    Calls Tryz.prog 61 #[evVal e a cap] w fun x w' => x = .returned (.bool (evOk e)) ∧ Below w.heap.size w w' := by
  have HV : Hid (evOk e = (dotOk e.dot && (stampOk e.stamp && (decide (e.stamp.dev = e.dot.a.dev) && (overOk e.dot e.over && kindOk e))))) := rfl
  have HD0 := fun (W : World) => dotRight_any e.dot W
  have HS0 := fun (W : World) => clockRight_any e.stamp W
  have HO0 := fun (W : World) (h : DotsIn W a e.over) => over_any e.dot (.int .i64 e.stamp.wall) (.int .i64 e.stamp.count) (.int .i64 e.stamp.dev) (.int .i64 e.kind) (.string e.key.name) (.string e.key.domain) (.string e.key.path) (.string e.ck.value) (.bool e.ck.hostOnly) (.bool e.ck.secure) (.bool e.ck.httpOnly) (.bool e.ck.persistent) (.int .i64 e.ck.expiry) (.int .i64 e.ck.creation) (.int .i64 e.ck.access) a cap e.over W h hs.over
  have HI := Lib.hid (fun (W : World) => Item_any e a cap W)
  have HC0 := fun (W : World) => cookieRight_p e.key e.ck e.ck.persistent rfl W hs.name hs.domain hs.path hs.value
  have hq0 : ∀ W : World, (Op.equalIn 10000 136 (.agg #[.string e.key.name, .string e.key.domain, .string e.key.path, .string e.ck.value, .bool e.ck.hostOnly, .bool e.ck.secure, .bool e.ck.httpOnly, .bool e.ck.persistent, .int .i64 e.ck.expiry, .int .i64 e.ck.creation, .int .i64 e.ck.access]) (.agg #[.string ⟨#[]⟩, .string ⟨#[]⟩, .string ⟨#[]⟩, .string ⟨#[]⟩, .bool false, .bool false, .bool false, .bool false, .int .i64 0, .int .i64 0, .int .i64 0])).run Tryz.prog W = .ok (decide (e.key = key0) && decide (e.ck = ck0)) W := fun W => eqItem W 9997 e.key key0 e.ck ck0
  have hm := noGuardItem
  have hk0 : kindOk e = if e.kind = 2 then (decide (e.key = key0) && decide (e.ck = ck0)) && decide (0 < e.over.length) else if e.kind = 1 then itemOk e.key e.ck else false := rfl
  go_enter Tryz.func61, Tryz.ntmps61
  go_upto_region 1 with fail
  refine wp_name (fun W hW => ?_)
  have hbt : Below w.heap.size w W := by rw [hW.out]; go_grown
  have hz : w.heap.size < W.heap.size := by rw [hW.out]; simp
  have q0 : W.cell? ⟨w.heap.size, 0, none⟩ = some (.int .i64 e.dot.a.dev) := by rw [hW.out]; go_simp
  have q1 : W.cell? ⟨w.heap.size, 1, none⟩ = some (.int .i64 e.dot.a.inc) := by rw [hW.out]; go_simp
  have q2 : W.cell? ⟨w.heap.size, 2, none⟩ = some (.int .i64 e.dot.seq) := by rw [hW.out]; go_simp
  have q3 : W.cell? ⟨w.heap.size, 3, none⟩ = some (.int .i64 e.stamp.wall) := by rw [hW.out]; go_simp
  have q4 : W.cell? ⟨w.heap.size, 4, none⟩ = some (.int .i64 e.stamp.count) := by rw [hW.out]; go_simp
  have q5 : W.cell? ⟨w.heap.size, 5, none⟩ = some (.int .i64 e.stamp.dev) := by rw [hW.out]; go_simp
  have q6 : W.cell? ⟨w.heap.size, 6, none⟩ = some (.int .i64 e.kind) := by rw [hW.out]; go_simp
  have q18 : W.cell? ⟨w.heap.size, 18, none⟩ = some (.slice a e.over.length cap) := by rw [hW.out]; go_simp
  have hR : W.rangeAt w.heap.size 0 (evCells e a cap) := by rw [hW.out]; exact evCells_box e a cap w _
  have ho := hover.kept hbt
  clear hW hover
  cases h1 : dotOk e.dot with
  | false =>
    have HE : Hid (evOk e = false) := by rw [Hid, HV.out, h1]; rfl
    rw [h1] at HD0
    have HD := Lib.hid HD0
    have HS := Lib.hid HS0
    have HO := Lib.hid HO0
    have HC := Lib.hid HC0
    clear HD0 HS0 HO0 HC0 hk0
    go_wp2_with (first
      | ((with_reducible refine wpList_load_ev _ w.heap.size e a cap hR ?_ rfl ?_); exact rfl)
      | (go_at_call 96; refine (HD.out _).mono ?_; rintro x w1 ⟨rfl, hb⟩; replace q0 := kept hb q0; replace q1 := kept hb q1; replace q2 := kept hb q2; replace q3 := kept hb q3; replace q4 := kept hb q4; replace q5 := kept hb q5; replace q6 := kept hb q6; replace q18 := kept hb q18; replace hR := rangeAt_kept hR hb; replace hbt := below2 hbt hb; replace ho := ho.kept hb)
      | (go_at_call 97; refine (HS.out _).mono ?_; rintro x w1 ⟨rfl, hb⟩; replace q0 := kept hb q0; replace q1 := kept hb q1; replace q2 := kept hb q2; replace q3 := kept hb q3; replace q4 := kept hb q4; replace q5 := kept hb q5; replace q6 := kept hb q6; replace q18 := kept hb q18; replace hR := rangeAt_kept hR hb; replace hbt := below2 hbt hb; replace ho := ho.kept hb)
      | (go_at_call 98; refine (HO.out _ ho).mono ?_; rintro x w1 ⟨rfl, hb⟩; replace q0 := kept hb q0; replace q1 := kept hb q1; replace q2 := kept hb q2; replace q3 := kept hb q3; replace q4 := kept hb q4; replace q5 := kept hb q5; replace q6 := kept hb q6; replace q18 := kept hb q18; replace hR := rangeAt_kept hR hb; replace hbt := below2 hbt hb)
      | (go_at_call 99; refine (HI.out _).mono ?_; rintro x w1 ⟨rfl, hb⟩; replace q0 := kept hb q0; replace q1 := kept hb q1; replace q2 := kept hb q2; replace q3 := kept hb q3; replace q4 := kept hb q4; replace q5 := kept hb q5; replace q6 := kept hb q6; replace q18 := kept hb q18; replace hR := rangeAt_kept hR hb; replace hbt := below2 hbt hb)
      | (go_at_call 100; refine (HC.out _).mono ?_; rintro x w1 ⟨rfl, hb⟩; replace q0 := kept hb q0; replace q1 := kept hb q1; replace q2 := kept hb q2; replace q3 := kept hb q3; replace q4 := kept hb q4; replace q5 := kept hb q5; replace q6 := kept hb q6; replace q18 := kept hb q18; replace hR := rangeAt_kept hR hb; replace hbt := below2 hbt hb))
    go_ret
    exact ⟨ret_bool HE.out.symm, hbt⟩
  | true =>
    rw [h1] at HD0
    cases h2 : stampOk e.stamp with
    | false =>
      have HE : Hid (evOk e = false) := by rw [Hid, HV.out, h1, h2]; rfl
      rw [h2] at HS0
      have HD := Lib.hid HD0
      have HS := Lib.hid HS0
      have HO := Lib.hid HO0
      have HC := Lib.hid HC0
      clear HD0 HS0 HO0 HC0 hk0
      go_wp2_with (first
        | ((with_reducible refine wpList_load_ev _ w.heap.size e a cap hR ?_ rfl ?_); exact rfl)
        | (go_at_call 96; refine (HD.out _).mono ?_; rintro x w1 ⟨rfl, hb⟩; replace q0 := kept hb q0; replace q1 := kept hb q1; replace q2 := kept hb q2; replace q3 := kept hb q3; replace q4 := kept hb q4; replace q5 := kept hb q5; replace q6 := kept hb q6; replace q18 := kept hb q18; replace hR := rangeAt_kept hR hb; replace hbt := below2 hbt hb; replace ho := ho.kept hb)
        | (go_at_call 97; refine (HS.out _).mono ?_; rintro x w1 ⟨rfl, hb⟩; replace q0 := kept hb q0; replace q1 := kept hb q1; replace q2 := kept hb q2; replace q3 := kept hb q3; replace q4 := kept hb q4; replace q5 := kept hb q5; replace q6 := kept hb q6; replace q18 := kept hb q18; replace hR := rangeAt_kept hR hb; replace hbt := below2 hbt hb; replace ho := ho.kept hb)
        | (go_at_call 98; refine (HO.out _ ho).mono ?_; rintro x w1 ⟨rfl, hb⟩; replace q0 := kept hb q0; replace q1 := kept hb q1; replace q2 := kept hb q2; replace q3 := kept hb q3; replace q4 := kept hb q4; replace q5 := kept hb q5; replace q6 := kept hb q6; replace q18 := kept hb q18; replace hR := rangeAt_kept hR hb; replace hbt := below2 hbt hb)
        | (go_at_call 99; refine (HI.out _).mono ?_; rintro x w1 ⟨rfl, hb⟩; replace q0 := kept hb q0; replace q1 := kept hb q1; replace q2 := kept hb q2; replace q3 := kept hb q3; replace q4 := kept hb q4; replace q5 := kept hb q5; replace q6 := kept hb q6; replace q18 := kept hb q18; replace hR := rangeAt_kept hR hb; replace hbt := below2 hbt hb)
        | (go_at_call 100; refine (HC.out _).mono ?_; rintro x w1 ⟨rfl, hb⟩; replace q0 := kept hb q0; replace q1 := kept hb q1; replace q2 := kept hb q2; replace q3 := kept hb q3; replace q4 := kept hb q4; replace q5 := kept hb q5; replace q6 := kept hb q6; replace q18 := kept hb q18; replace hR := rangeAt_kept hR hb; replace hbt := below2 hbt hb))
      go_ret
      exact ⟨ret_bool HE.out.symm, hbt⟩
    | true =>
      rw [h2] at HS0
      by_cases h3 : e.stamp.dev = e.dot.a.dev
      · have h3' : (e.stamp.dev != e.dot.a.dev) = false := by rw [bne_eq_false_iff_eq]; exact h3
        cases h4 : overOk e.dot e.over with
        | false =>
          have HE : Hid (evOk e = false) := by rw [Hid, HV.out, h1, h2, h4, decide_eq_true h3]; rfl
          rw [h4] at HO0
          clear h3
          have HD := Lib.hid HD0
          have HS := Lib.hid HS0
          have HO := Lib.hid HO0
          have HC := Lib.hid HC0
          clear HD0 HS0 HO0 HC0 hk0
          go_wp2_with (first
            | ((with_reducible refine wpList_load_ev _ w.heap.size e a cap hR ?_ rfl ?_); exact rfl)
            | (go_at_call 96; refine (HD.out _).mono ?_; rintro x w1 ⟨rfl, hb⟩; replace q0 := kept hb q0; replace q1 := kept hb q1; replace q2 := kept hb q2; replace q3 := kept hb q3; replace q4 := kept hb q4; replace q5 := kept hb q5; replace q6 := kept hb q6; replace q18 := kept hb q18; replace hR := rangeAt_kept hR hb; replace hbt := below2 hbt hb; replace ho := ho.kept hb)
            | (go_at_call 97; refine (HS.out _).mono ?_; rintro x w1 ⟨rfl, hb⟩; replace q0 := kept hb q0; replace q1 := kept hb q1; replace q2 := kept hb q2; replace q3 := kept hb q3; replace q4 := kept hb q4; replace q5 := kept hb q5; replace q6 := kept hb q6; replace q18 := kept hb q18; replace hR := rangeAt_kept hR hb; replace hbt := below2 hbt hb; replace ho := ho.kept hb)
            | (go_at_call 98; refine (HO.out _ ho).mono ?_; rintro x w1 ⟨rfl, hb⟩; replace q0 := kept hb q0; replace q1 := kept hb q1; replace q2 := kept hb q2; replace q3 := kept hb q3; replace q4 := kept hb q4; replace q5 := kept hb q5; replace q6 := kept hb q6; replace q18 := kept hb q18; replace hR := rangeAt_kept hR hb; replace hbt := below2 hbt hb)
            | (go_at_call 99; refine (HI.out _).mono ?_; rintro x w1 ⟨rfl, hb⟩; replace q0 := kept hb q0; replace q1 := kept hb q1; replace q2 := kept hb q2; replace q3 := kept hb q3; replace q4 := kept hb q4; replace q5 := kept hb q5; replace q6 := kept hb q6; replace q18 := kept hb q18; replace hR := rangeAt_kept hR hb; replace hbt := below2 hbt hb)
            | (go_at_call 100; refine (HC.out _).mono ?_; rintro x w1 ⟨rfl, hb⟩; replace q0 := kept hb q0; replace q1 := kept hb q1; replace q2 := kept hb q2; replace q3 := kept hb q3; replace q4 := kept hb q4; replace q5 := kept hb q5; replace q6 := kept hb q6; replace q18 := kept hb q18; replace hR := rangeAt_kept hR hb; replace hbt := below2 hbt hb))
          go_ret
          exact ⟨ret_bool HE.out.symm, hbt⟩
        | true =>
          have HK : Hid (evOk e = kindOk e) := by rw [Hid, HV.out, h1, h2, h4, decide_eq_true h3]; rfl
          rw [h4] at HO0
          clear h3
          by_cases hk2 : e.kind = 2
          · rw [if_pos hk2] at hk0
            have e2 : (e.kind == 2) = true := beq_iff_eq.2 hk2
            clear hk2
            cases hz0 : decide (e.key = key0) && decide (e.ck = ck0) with
            | false =>
              have HE : Hid (evOk e = false) := by rw [Hid, HK.out, hk0, hz0]; rfl
              rw [hz0] at hq0
              clear hz0
              have HD := Lib.hid HD0
              have HS := Lib.hid HS0
              have HO := Lib.hid HO0
              have HC := Lib.hid HC0
              clear HD0 HS0 HO0 HC0 hk0
              go_wp2_with (first
                | ((with_reducible refine wpList_load_ev _ w.heap.size e a cap hR ?_ rfl ?_); exact rfl)
                | (go_at_call 96; refine (HD.out _).mono ?_; rintro x w1 ⟨rfl, hb⟩; replace q0 := kept hb q0; replace q1 := kept hb q1; replace q2 := kept hb q2; replace q3 := kept hb q3; replace q4 := kept hb q4; replace q5 := kept hb q5; replace q6 := kept hb q6; replace q18 := kept hb q18; replace hR := rangeAt_kept hR hb; replace hbt := below2 hbt hb; replace ho := ho.kept hb)
                | (go_at_call 97; refine (HS.out _).mono ?_; rintro x w1 ⟨rfl, hb⟩; replace q0 := kept hb q0; replace q1 := kept hb q1; replace q2 := kept hb q2; replace q3 := kept hb q3; replace q4 := kept hb q4; replace q5 := kept hb q5; replace q6 := kept hb q6; replace q18 := kept hb q18; replace hR := rangeAt_kept hR hb; replace hbt := below2 hbt hb; replace ho := ho.kept hb)
                | (go_at_call 98; refine (HO.out _ ho).mono ?_; rintro x w1 ⟨rfl, hb⟩; replace q0 := kept hb q0; replace q1 := kept hb q1; replace q2 := kept hb q2; replace q3 := kept hb q3; replace q4 := kept hb q4; replace q5 := kept hb q5; replace q6 := kept hb q6; replace q18 := kept hb q18; replace hR := rangeAt_kept hR hb; replace hbt := below2 hbt hb)
                | (go_at_call 99; refine (HI.out _).mono ?_; rintro x w1 ⟨rfl, hb⟩; replace q0 := kept hb q0; replace q1 := kept hb q1; replace q2 := kept hb q2; replace q3 := kept hb q3; replace q4 := kept hb q4; replace q5 := kept hb q5; replace q6 := kept hb q6; replace q18 := kept hb q18; replace hR := rangeAt_kept hR hb; replace hbt := below2 hbt hb)
                | (go_at_call 100; refine (HC.out _).mono ?_; rintro x w1 ⟨rfl, hb⟩; replace q0 := kept hb q0; replace q1 := kept hb q1; replace q2 := kept hb q2; replace q3 := kept hb q3; replace q4 := kept hb q4; replace q5 := kept hb q5; replace q6 := kept hb q6; replace q18 := kept hb q18; replace hR := rangeAt_kept hR hb; replace hbt := below2 hbt hb))
              go_ret
              exact ⟨ret_bool HE.out.symm, hbt⟩
            | true =>
              have HE : Hid (evOk e = decide (0 < e.over.length)) := by rw [Hid, HK.out, hk0, hz0]; rfl
              rw [hz0] at hq0
              clear hz0
              have HD := Lib.hid HD0
              have HS := Lib.hid HS0
              have HO := Lib.hid HO0
              have HC := Lib.hid HC0
              clear HD0 HS0 HO0 HC0 hk0
              go_wp2_with (first
                | ((with_reducible refine wpList_load_ev _ w.heap.size e a cap hR ?_ rfl ?_); exact rfl)
                | (go_at_call 96; refine (HD.out _).mono ?_; rintro x w1 ⟨rfl, hb⟩; replace q0 := kept hb q0; replace q1 := kept hb q1; replace q2 := kept hb q2; replace q3 := kept hb q3; replace q4 := kept hb q4; replace q5 := kept hb q5; replace q6 := kept hb q6; replace q18 := kept hb q18; replace hR := rangeAt_kept hR hb; replace hbt := below2 hbt hb; replace ho := ho.kept hb)
                | (go_at_call 97; refine (HS.out _).mono ?_; rintro x w1 ⟨rfl, hb⟩; replace q0 := kept hb q0; replace q1 := kept hb q1; replace q2 := kept hb q2; replace q3 := kept hb q3; replace q4 := kept hb q4; replace q5 := kept hb q5; replace q6 := kept hb q6; replace q18 := kept hb q18; replace hR := rangeAt_kept hR hb; replace hbt := below2 hbt hb; replace ho := ho.kept hb)
                | (go_at_call 98; refine (HO.out _ ho).mono ?_; rintro x w1 ⟨rfl, hb⟩; replace q0 := kept hb q0; replace q1 := kept hb q1; replace q2 := kept hb q2; replace q3 := kept hb q3; replace q4 := kept hb q4; replace q5 := kept hb q5; replace q6 := kept hb q6; replace q18 := kept hb q18; replace hR := rangeAt_kept hR hb; replace hbt := below2 hbt hb)
                | (go_at_call 99; refine (HI.out _).mono ?_; rintro x w1 ⟨rfl, hb⟩; replace q0 := kept hb q0; replace q1 := kept hb q1; replace q2 := kept hb q2; replace q3 := kept hb q3; replace q4 := kept hb q4; replace q5 := kept hb q5; replace q6 := kept hb q6; replace q18 := kept hb q18; replace hR := rangeAt_kept hR hb; replace hbt := below2 hbt hb)
                | (go_at_call 100; refine (HC.out _).mono ?_; rintro x w1 ⟨rfl, hb⟩; replace q0 := kept hb q0; replace q1 := kept hb q1; replace q2 := kept hb q2; replace q3 := kept hb q3; replace q4 := kept hb q4; replace q5 := kept hb q5; replace q6 := kept hb q6; replace q18 := kept hb q18; replace hR := rangeAt_kept hR hb; replace hbt := below2 hbt hb))
              go_ret
              exact ⟨ret_bool (by first | (rw [HE.out]; done) | (rw [HE.out]; rfl) | (rw [HE.out, Bool.eq_iff_iff]; simp)), hbt⟩
          · have e2 : (e.kind == 2) = false := beq_eq_false_iff_ne.2 hk2
            rw [if_neg hk2] at hk0
            clear hk2
            by_cases hk1 : e.kind = 1
            · rw [if_pos hk1] at hk0
              have e1 : (e.kind == 1) = true := beq_iff_eq.2 hk1
              clear hk1
              have HE : Hid (evOk e = itemOk e.key e.ck) := by rw [Hid, HK.out, hk0]
              have HD := Lib.hid HD0
              have HS := Lib.hid HS0
              have HO := Lib.hid HO0
              have HC := Lib.hid HC0
              clear HD0 HS0 HO0 HC0 hk0
              go_wp2_with (first
                | ((with_reducible refine wpList_load_ev _ w.heap.size e a cap hR ?_ rfl ?_); exact rfl)
                | (go_at_call 96; refine (HD.out _).mono ?_; rintro x w1 ⟨rfl, hb⟩; replace q0 := kept hb q0; replace q1 := kept hb q1; replace q2 := kept hb q2; replace q3 := kept hb q3; replace q4 := kept hb q4; replace q5 := kept hb q5; replace q6 := kept hb q6; replace q18 := kept hb q18; replace hR := rangeAt_kept hR hb; replace hbt := below2 hbt hb; replace ho := ho.kept hb)
                | (go_at_call 97; refine (HS.out _).mono ?_; rintro x w1 ⟨rfl, hb⟩; replace q0 := kept hb q0; replace q1 := kept hb q1; replace q2 := kept hb q2; replace q3 := kept hb q3; replace q4 := kept hb q4; replace q5 := kept hb q5; replace q6 := kept hb q6; replace q18 := kept hb q18; replace hR := rangeAt_kept hR hb; replace hbt := below2 hbt hb; replace ho := ho.kept hb)
                | (go_at_call 98; refine (HO.out _ ho).mono ?_; rintro x w1 ⟨rfl, hb⟩; replace q0 := kept hb q0; replace q1 := kept hb q1; replace q2 := kept hb q2; replace q3 := kept hb q3; replace q4 := kept hb q4; replace q5 := kept hb q5; replace q6 := kept hb q6; replace q18 := kept hb q18; replace hR := rangeAt_kept hR hb; replace hbt := below2 hbt hb)
                | (go_at_call 99; refine (HI.out _).mono ?_; rintro x w1 ⟨rfl, hb⟩; replace q0 := kept hb q0; replace q1 := kept hb q1; replace q2 := kept hb q2; replace q3 := kept hb q3; replace q4 := kept hb q4; replace q5 := kept hb q5; replace q6 := kept hb q6; replace q18 := kept hb q18; replace hR := rangeAt_kept hR hb; replace hbt := below2 hbt hb)
                | (go_at_call 100; refine (HC.out _).mono ?_; rintro x w1 ⟨rfl, hb⟩; replace q0 := kept hb q0; replace q1 := kept hb q1; replace q2 := kept hb q2; replace q3 := kept hb q3; replace q4 := kept hb q4; replace q5 := kept hb q5; replace q6 := kept hb q6; replace q18 := kept hb q18; replace hR := rangeAt_kept hR hb; replace hbt := below2 hbt hb))
              go_ret
              exact ⟨ret_bool HE.out.symm, hbt⟩
            · rw [if_neg hk1] at hk0
              have e1 : (e.kind == 1) = false := beq_eq_false_iff_ne.2 hk1
              clear hk1
              have HE : Hid (evOk e = false) := by rw [Hid, HK.out, hk0]
              have HD := Lib.hid HD0
              have HS := Lib.hid HS0
              have HO := Lib.hid HO0
              have HC := Lib.hid HC0
              clear HD0 HS0 HO0 HC0 hk0
              go_wp2_with (first
                | ((with_reducible refine wpList_load_ev _ w.heap.size e a cap hR ?_ rfl ?_); exact rfl)
                | (go_at_call 96; refine (HD.out _).mono ?_; rintro x w1 ⟨rfl, hb⟩; replace q0 := kept hb q0; replace q1 := kept hb q1; replace q2 := kept hb q2; replace q3 := kept hb q3; replace q4 := kept hb q4; replace q5 := kept hb q5; replace q6 := kept hb q6; replace q18 := kept hb q18; replace hR := rangeAt_kept hR hb; replace hbt := below2 hbt hb; replace ho := ho.kept hb)
                | (go_at_call 97; refine (HS.out _).mono ?_; rintro x w1 ⟨rfl, hb⟩; replace q0 := kept hb q0; replace q1 := kept hb q1; replace q2 := kept hb q2; replace q3 := kept hb q3; replace q4 := kept hb q4; replace q5 := kept hb q5; replace q6 := kept hb q6; replace q18 := kept hb q18; replace hR := rangeAt_kept hR hb; replace hbt := below2 hbt hb; replace ho := ho.kept hb)
                | (go_at_call 98; refine (HO.out _ ho).mono ?_; rintro x w1 ⟨rfl, hb⟩; replace q0 := kept hb q0; replace q1 := kept hb q1; replace q2 := kept hb q2; replace q3 := kept hb q3; replace q4 := kept hb q4; replace q5 := kept hb q5; replace q6 := kept hb q6; replace q18 := kept hb q18; replace hR := rangeAt_kept hR hb; replace hbt := below2 hbt hb)
                | (go_at_call 99; refine (HI.out _).mono ?_; rintro x w1 ⟨rfl, hb⟩; replace q0 := kept hb q0; replace q1 := kept hb q1; replace q2 := kept hb q2; replace q3 := kept hb q3; replace q4 := kept hb q4; replace q5 := kept hb q5; replace q6 := kept hb q6; replace q18 := kept hb q18; replace hR := rangeAt_kept hR hb; replace hbt := below2 hbt hb)
                | (go_at_call 100; refine (HC.out _).mono ?_; rintro x w1 ⟨rfl, hb⟩; replace q0 := kept hb q0; replace q1 := kept hb q1; replace q2 := kept hb q2; replace q3 := kept hb q3; replace q4 := kept hb q4; replace q5 := kept hb q5; replace q6 := kept hb q6; replace q18 := kept hb q18; replace hR := rangeAt_kept hR hb; replace hbt := below2 hbt hb))
              go_ret
              exact ⟨ret_bool HE.out.symm, hbt⟩
      · have h3' : (e.stamp.dev != e.dot.a.dev) = true := by rw [bne_iff_ne]; exact h3
        have HE : Hid (evOk e = false) := by rw [Hid, HV.out, h1, h2, decide_eq_false h3]; rfl
        clear h3
        have HD := Lib.hid HD0
        have HS := Lib.hid HS0
        have HO := Lib.hid HO0
        have HC := Lib.hid HC0
        clear HD0 HS0 HO0 HC0 hk0
        go_wp2_with (first
          | ((with_reducible refine wpList_load_ev _ w.heap.size e a cap hR ?_ rfl ?_); exact rfl)
          | (go_at_call 96; refine (HD.out _).mono ?_; rintro x w1 ⟨rfl, hb⟩; replace q0 := kept hb q0; replace q1 := kept hb q1; replace q2 := kept hb q2; replace q3 := kept hb q3; replace q4 := kept hb q4; replace q5 := kept hb q5; replace q6 := kept hb q6; replace q18 := kept hb q18; replace hR := rangeAt_kept hR hb; replace hbt := below2 hbt hb; replace ho := ho.kept hb)
          | (go_at_call 97; refine (HS.out _).mono ?_; rintro x w1 ⟨rfl, hb⟩; replace q0 := kept hb q0; replace q1 := kept hb q1; replace q2 := kept hb q2; replace q3 := kept hb q3; replace q4 := kept hb q4; replace q5 := kept hb q5; replace q6 := kept hb q6; replace q18 := kept hb q18; replace hR := rangeAt_kept hR hb; replace hbt := below2 hbt hb; replace ho := ho.kept hb)
          | (go_at_call 98; refine (HO.out _ ho).mono ?_; rintro x w1 ⟨rfl, hb⟩; replace q0 := kept hb q0; replace q1 := kept hb q1; replace q2 := kept hb q2; replace q3 := kept hb q3; replace q4 := kept hb q4; replace q5 := kept hb q5; replace q6 := kept hb q6; replace q18 := kept hb q18; replace hR := rangeAt_kept hR hb; replace hbt := below2 hbt hb)
          | (go_at_call 99; refine (HI.out _).mono ?_; rintro x w1 ⟨rfl, hb⟩; replace q0 := kept hb q0; replace q1 := kept hb q1; replace q2 := kept hb q2; replace q3 := kept hb q3; replace q4 := kept hb q4; replace q5 := kept hb q5; replace q6 := kept hb q6; replace q18 := kept hb q18; replace hR := rangeAt_kept hR hb; replace hbt := below2 hbt hb)
          | (go_at_call 100; refine (HC.out _).mono ?_; rintro x w1 ⟨rfl, hb⟩; replace q0 := kept hb q0; replace q1 := kept hb q1; replace q2 := kept hb q2; replace q3 := kept hb q3; replace q4 := kept hb q4; replace q5 := kept hb q5; replace q6 := kept hb q6; replace q18 := kept hb q18; replace hR := rangeAt_kept hR hb; replace hbt := below2 hbt hb))
        go_ret
        exact ⟨ret_bool HE.out.symm, hbt⟩
end Go.Proofs.YtcijajjngmmbeaaGreat
