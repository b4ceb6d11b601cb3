/- The law RecordCuts, walked. Conditions: none. -/
import Derived.Test.YtnpdfmpjjomhcaaGreatRecG
set_option linter.unusedSimpArgs false
set_option linter.unusedVariables false
set_option linter.unnecessarySimpa false
namespace Go.Proofs.YtnpdfmpjjomhcaaGreat
open Go.RowKit

set_option maxRecDepth 100000 in
set_option maxHeartbeats 4000000 in
theorem lawCuts_heavy (a : Option Addr) (cap : Nat) (l : List RecIt) (v : Value) (w : World) (h : RecsArg w a l) (hno : rlight (recsOf l) = false) :
    Calls Tryz.prog 4 #[.slice a l.length cap, v] w fun x w' => x = .returned (.bool true) ∧ Below w.heap.size w w' := by
  have HA := Lib.hid awake31_any
  have HL0 := rlight_any a cap l w h
  rw [hno] at HL0
  have HL := Lib.hid HL0
  clear HL0 hno h
  go_enter Tryz.func4, Tryz.ntmps4
  go_wp2_with (first
    | (go_at_call 20; (with_reducible refine HL.out.mono ?_); rintro v w1 ⟨rfl, hb⟩)
    | (go_at_call 21; (with_reducible refine (HA.out _).mono ?_); rintro v w2 ⟨rfl, hb2⟩))
  go_ret
  exact ⟨rfl, below2 hb hb2⟩
theorem rlight_each {l : List RecIt} (h : rlight (recsOf l) = true) : l.length ≤ 12 ∧ ∀ x ∈ l, EvSmall x.1.e := by
  unfold rlight at h
  simp only [Bool.and_eq_true, decide_eq_true_eq, recsOf_length, List.all_eq_true] at h
  exact ⟨h.1, fun x hx => light_small (h.2 x.1 (List.mem_map_of_mem hx))⟩
theorem BytesIn.take {w : World} {a : Option Addr} {l : Bytes} (h : BytesIn w a l) (n : Nat) : BytesIn w a (l.take n) := by
  rcases h with h | ⟨A, off, rfl, hb⟩
  · exact Or.inl (by rw [h]; simp)
  · refine Or.inr ⟨A, off, rfl, fun j hj => ?_⟩
    have hj2 : j < l.length := by simp at hj; omega
    rw [hb j hj2, List.getElem_take]
theorem RecsIn.take {w : World} {a : Option Addr} {ls : List RecIt} (h : RecsIn w a ls) (n : Nat) : RecsIn w a (ls.take n) := by
  refine ⟨?_, fun x hx => h.dots x (List.mem_of_mem_take hx)⟩
  rcases h.rows with h | ⟨A, off, rfl, hr⟩
  · exact Or.inl (by rw [h]; simp)
  · refine Or.inr ⟨A, off, rfl, fun i hi => ?_⟩
    have hi2 : i < ls.length := by simp at hi; omega
    rw [List.getElem_take]
    exact hr i hi2
set_option maxRecDepth 100000 in
set_option maxHeartbeats 4000000 in
theorem lawCuts_light (a : Option Addr) (cap : Nat) (l : List RecIt) (n : Int) (w : World) (h : RecsArg w a l) (hl : rlight (recsOf l) = true) :
    Calls Tryz.prog 4 #[.slice a l.length cap, .int .i64 n] w fun x w' => x = .returned (.bool true) ∧ Below w.heap.size w w' := by
  obtain ⟨h12, hsm⟩ := rlight_each hl
  have HA := Lib.hid awake31_any
  have HL0 := rlight_any a cap l w h
  rw [hl] at HL0
  have HL := Lib.hid HL0
  have HLs := Lib.hid (fun (W : World) (h : RecsIn W a l) => lines_any a cap l W h12 hsm h)
  have hr := h.recs
  have hok := filter_ok l
  have hll := linesB_len _ hok
  rw [recsOf_length] at hll
  have hlf : (l.filter okIt).length ≤ 12 := Nat.le_trans (List.length_filter_le _ _) h12
  have hdots : ∀ x ∈ l.filter okIt, DotsIn w x.2.1 x.1.e.over := fun x hx => hr.dots x (List.mem_filter.1 hx).1
  have hsms : ∀ x ∈ l.filter okIt, x.1.e.over.length ≤ 1073741824 := fun x hx => (hsm x (List.mem_filter.1 hx).1).over
  clear HL0 hl h hsm
  generalize l.filter okIt = rs at *
  have HOK := Lib.hid (recsOk_of hok)
  obtain ⟨R, hR⟩ : ∃ R, R = recsOf rs := ⟨_, rfl⟩
  have hRl : R.length = rs.length := by rw [hR, recsOf_length]
  rw [← hR] at HOK hll
  obtain ⟨LB, hLB⟩ : ∃ LB, LB = linesB R := ⟨_, rfl⟩
  rw [← hLB] at hll
  have HR := Lib.hid hR
  have HLB := Lib.hid hLB
  have HRl := Lib.hid hRl
  clear hR hLB hok hRl
  go_enter Tryz.func4, Tryz.ntmps4
  go_upto_region 4 with (first
    | (go_at_call 20; (with_reducible refine HL.out.mono ?_); rintro v w1 ⟨rfl, hb⟩)
    | (go_at_call 22; (with_reducible refine (HLs.out _ (hr.kept hb)).mono ?_); rintro v w2 ⟨va, vr, ve, rfl, hinv⟩))
  obtain ⟨iall, iright, iends, ibel⟩ := hinv
  rw [← HR.out, ← HLB.out] at iall
  rw [← HR.out] at iends
  obtain ⟨aa, ca, rfl, hinA⟩ := own_bytes iall
  have hca := own_cap2 iall
  have hbt : Below w.heap.size w w2 := below2 hb ibel
  obtain ⟨ar, cr, rfl, hinR, hcr⟩ := recsIn_own iright (fun x hx => (hdots x hx).kept hbt)
  obtain ⟨E, ce, rfl, hce, hends⟩ : ∃ E ce, ve = .slice (some ⟨E, 0, none⟩) (rs.length + 1) ce ∧ rs.length + 1 ≤ ce ∧ ∀ i, i ≤ rs.length → w2.cell? ⟨E, i, none⟩ = some (.int .i64 ((endsN R i : Nat) : Int)) := by
    rcases iends.2 with ⟨_, hn⟩ | ⟨g, c, cur, hv, _, _, hc, _⟩
    · omega
    · refine ⟨g, c, hv, hc, fun i hi => ?_⟩
      have := World.ownsRow.cells (g := g) iends (by rw [hv]; rfl) i _ (endVals_at R i (by rw [HRl.out]; exact hi))
      rwa [Addr.add_mid, Nat.zero_add] at this
  clear iall iright iends ibel HL HLs hb hdots
  go_cut [8] (fun v wx => ∃ m : Nat, m ≤ LB.length ∧ v = .int .i64 m ∧ w2 = wx)
  case first =>
    go_wp2
    all_goals
      go_meet
      first
        | exact ⟨0, Nat.zero_le _, rfl, rfl⟩
        | exact ⟨LB.length, Nat.le_refl _, rfl, rfl⟩
        | exact ⟨n.toNat, by omega, by congr 1; omega, rfl⟩
  case rest =>
    obtain ⟨m, hm, rfl, rfl⟩ := hcut
    go_wp2
    go_loopw [9, 10] (fun wh i wr => ∃ (k h : Nat), i = .int .i64 k ∧ k ≤ rs.length + 1 ∧ wh = .int .i64 h ∧ h ≤ rs.length ∧ endsN R h ≤ m ∧ (∀ j, h < j → j < k → m < endsN R j) ∧ w2 = wr) (fun _ i _ => rs.length + 1 - (intOf i).toNat)
    case atStart => exact ⟨0, 0, rfl, Nat.zero_le _, rfl, Nat.zero_le _, by simp [endsN, linesB], fun j _ h => by omega, rfl⟩
    case round =>
      obtain ⟨k, h, rfl, hk, rfl, hh, hhm, hpre, rfl⟩ := hrel
      have HP := Lib.hid hpre
      clear hpre
      by_cases hlt : k < rs.length + 1
      · have hc := hends k (by omega)
        obtain ⟨ek, hek⟩ : ∃ ek, ek = endsN R k := ⟨_, rfl⟩
        rw [← hek] at hc
        have HEK := Lib.hid hek
        clear hek
        by_cases hle : ek ≤ m
        · have hhm2 : Hid (endsN R k ≤ m) := by rw [Hid, ← HEK.out]; exact hle
          have hd1 : decide (ek ≤ m) = true := decide_eq_true hle
          have hd2 : decide ((ek : Int) ≤ (m : Int)) = true := decide_eq_true (by omega)
          go_wp2
          go_roundw
          case rel => exact ⟨k + 1, k, by go_num, by omega, rfl, by omega, hhm2.out, fun j h1 h2 => by omega, trivial⟩
          case measure => simp [intOf] <;> omega
        · have HN : Hid (∀ j, h < j → j < k + 1 → m < endsN R j) := fun j h1 h2 => by
            by_cases hj : j < k
            · exact HP.out j h1 hj
            · have : j = k := by omega
              subst this
              rw [← HEK.out]; omega
          have hd1 : decide (ek ≤ m) = false := decide_eq_false hle
          have hd2 : decide ((ek : Int) ≤ (m : Int)) = false := decide_eq_false (by omega)
          go_wp2
          go_roundw
          case rel => exact ⟨k + 1, h, by go_num, by omega, rfl, hh, hhm, HN.out, trivial⟩
          case measure => simp [intOf] <;> omega
      · have hsc := recScan_cut R HOK.out m h (by rw [HRl.out]; exact hh) hhm (fun h1 => HP.out (h + 1) (by omega) (by rw [HRl.out] at h1; omega))
        rw [← HLB.out] at hsc
        have hS0 := fun (W : World) (hin : BytesIn W aa (LB.take m)) => RecScan_any aa ca (LB.take m) W (by simp; omega) (by simp; omega) hin
        rw [hsc, List.length_take_of_le hm] at hS0
        have HS := Lib.hid hS0
        have hc := hends h hh
        have hRt : recsOf (rs.take h) = R.take h := by rw [HR.out]; simp [recsOf, List.map_take]
        have hrt := hinR.take h
        have hrl : (rs.take h).length = h := by simp; omega
        have hst : ∀ x ∈ rs.take h, x.1.e.over.length ≤ 1073741824 := fun x hx => hsms x (List.mem_of_mem_take hx)
        have hinm := hinA.take m
        obtain ⟨eh, heh⟩ : ∃ eh, eh = endsN R h := ⟨_, rfl⟩
        have e9 : (linesB (R.take h)).length = endsN R h := rfl
        rw [e9, ← heh] at HS
        rw [← heh] at hc
        have HRT := Lib.hid hRt
        have HRL := Lib.hid hrl
        have hmca : m ≤ ca := by omega
        have hhcr : h ≤ cr := by omega
        clear hsc hS0 heh e9 hRt hrl HP hhm hinA hinR hends
        go_upto_region 12 with (go_at_call 23; (with_reducible refine (HS.out _ hinm).mono ?_); rintro v w3 ⟨vx, lx, W1, rfl, hb1, hinv, hmap⟩)
        have hbs := below2 hb1 hinv.bel
        have hbt3 := below2 hbt hbs
        obtain ⟨ax, cx, rfl, hinX, hcx⟩ := recsIn_own hinv.own hinv.dots
        replace hc := kept hbs hc
        replace hrt := hrt.kept hbs
        have hlx : lx.length ≤ 12 := by have := congrArg List.length hmap; simp at this; omega
        have hsx : ∀ x ∈ lx, x.1.e.over.length ≤ 1073741824 := by
          intro x hx
          have h1 : x.1 ∈ R.take h := by rw [← hmap]; exact List.mem_map_of_mem hx
          rw [← HRT.out] at h1
          simp only [recsOf, List.mem_map] at h1
          obtain ⟨y, hy, hyx⟩ := h1
          rw [← hyx]; exact hst y hy
        have HB := Lib.hid (fun (W : World) (hi : RecsIn W ax lx) => Back_any ax cx lx W (by omega) hi)
        have hq : recsOf lx = recsOf (rs.take h) := by rw [HRT.out]; exact hmap
        have hA0 := fun (W : World) (p : Option Addr) (c : Nat) (h1 : RecsIn W p lx) (h2 : RecsIn W ar (rs.take h)) => rSameRecs_any p ar c cr lx (rs.take h) W (by omega) (by rw [HRL.out]; omega) hsx hst h1 h2
        rw [HRL.out] at hA0
        simp only [hq, decide_true] at hA0
        have HSA := Lib.hid hA0
        have hdx := hinX.dots
        have hB : Below w3.heap.size w3 w3.drew := (Below.refl _ _).drew
        clear hbs hb1 hinv hmap hA0 hq HS hinm
        have hix0 : (0 : Int) ≤ (h : Int) := by omega
        have hix1 : (h : Int) < (rs.length : Int) + 1 := by omega
        have hix2 : h < rs.length + 1 := by omega
        go_wp2_with fail
        go_region_held3 (fun W' => W'.cell? ⟨E, h, none⟩ = some (.int .i64 (eh : Nat))) (first | exact kept hB hc | go_keep)
          (first
            | (go_at_call 25; (with_reducible refine (HB.out _ (hinX.kept hB)).mono ?_); rintro v w4 ⟨vb, rfl, hownb, hb4⟩; obtain ⟨ab, cb, rfl, hinb, _⟩ := recsIn_own hownb (fun x hx => ((hdx x hx).kept hB).kept hb4); replace hB := below2 hB hb4; clear hownb hb4)
            | (go_at_call 24; (with_reducible refine (HSA.out _ _ _ hinb (hrt.kept hB)).mono ?_); rintro v w5 ⟨rfl, hb5⟩; replace hB := below2 hB hb5)
            | (go_at_call 21; (with_reducible refine (HA.out _).mono ?_); rintro v w6 ⟨rfl, hb6⟩; replace hB := below2 hB hb6))
        go_wp2
        go_ret
        exact ⟨rfl, below2 hbt3 hB⟩
theorem lawCuts_any (a : Option Addr) (cap : Nat) (l : List RecIt) (n : Int) (w : World) (h : RecsArg w a l) :
    Calls Tryz.prog 4 #[.slice a l.length cap, .int .i64 n] w fun x w' => x = .returned (.bool true) ∧ Below w.heap.size w w' := by
  cases hl : rlight (recsOf l) with
  | true => exact lawCuts_light a cap l n w h hl
  | false => exact lawCuts_heavy a cap l (.int .i64 n) w h hl
end Go.Proofs.YtnpdfmpjjomhcaaGreat
