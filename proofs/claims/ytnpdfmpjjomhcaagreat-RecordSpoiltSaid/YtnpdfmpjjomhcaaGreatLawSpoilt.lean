/- The law RecordSpoilt, walked. Conditions: none. -/
import Derived.Test.YtnpdfmpjjomhcaaGreatRRdH
import Derived.Test.YtnpdfmpjjomhcaaGreatRecG
import Derived.Laws.OwnMore
set_option linter.unusedSimpArgs false
set_option linter.unusedVariables false
set_option linter.unnecessarySimpa false
namespace Go.Proofs.YtnpdfmpjjomhcaaGreat
open Go.RowKit

theorem RecsIn.take {w : World} {a : Option Addr} {ls : List RecIt} (h : RecsIn w a ls) (n : Nat) : RecsIn w a (ls.take n) := by
  refine ⟨?_, fun x hx => h.dots x (List.mem_of_mem_take hx)⟩
  rcases h.rows with h | ⟨A, off, rfl, hr⟩
  · exact Or.inl (by rw [h]; simp)
  · refine Or.inr ⟨A, off, rfl, fun i hi => ?_⟩
    have hi2 : i < ls.length := by simp at hi; omega
    rw [List.getElem_take]
    exact hr i hi2
theorem rlight_each {l : List RecIt} (h : rlight (recsOf l) = true) : l.length ≤ 12 ∧ ∀ x ∈ l, EvSmall x.1.e := by
  unfold rlight at h
  simp only [Bool.and_eq_true, decide_eq_true_eq, recsOf_length, List.all_eq_true] at h
  exact ⟨h.1, fun x hx => light_small (h.2 x.1 (List.mem_map_of_mem hx))⟩
theorem ev0_small : EvSmall ev0 := by constructor <;> exact Nat.zero_le _
theorem rEv_smallR (r : Rd) : EvSmall (rEv r).2 := by
  unfold rEv evFin
  split
  · split
    · rename_i h; exact evOk_small h
    · exact ev0_small
  · exact ev0_small
theorem recRead_small (l : Bytes) : EvSmall (recRead l).1.e := by
  unfold recRead recEnd
  split
  · unfold recRest
    split
    · exact ev0_small
    · split
      · exact rEv_smallR _
      · exact ev0_small
  · exact ev0_small
theorem recScanB_small : ∀ (bs : List Bytes), (∀ x ∈ (recScanB bs).1, EvSmall x.e) ∧ (recScanB bs).1.length ≤ bs.length
  | [] => ⟨fun x hx => by simp [recScanB] at hx, Nat.le_refl _⟩
  | b :: r => by
    have ih := recScanB_small r
    unfold recScanB
    split
    · refine ⟨fun x hx => ?_, by simp only [List.length_cons]; have := ih.2; omega⟩
      rcases List.mem_cons.1 hx with rfl | hx
      · exact recRead_small b
      · exact ih.1 x hx
    · exact ⟨fun x hx => by simp at hx, Nat.zero_le _⟩
theorem recScan_small (l : Bytes) : (∀ x ∈ (recScan l).1, EvSmall x.e) ∧ (recScan l).1.length ≤ l.length := by
  have h := recScanB_small (frScan l).1
  have h2 := frScan_fit _ l (Nat.le_refl _)
  unfold recScan
  exact ⟨h.1, by have := h.2; omega⟩
theorem recScan_zero {s : Bytes} (h : (recScan s).2 = 0) : (recScan s).1 = [] := recScanB_zero h
theorem linesB_split (R : List Rec) (k : Nat) : linesB R = linesB (R.take k) ++ linesB (R.drop k) := by
  unfold linesB
  rw [← List.flatMap_append, List.take_append_drop]
/-- lines, a byte of the last one being any other one: what is scanned -/
theorem recScan_spoilt (R : List Rec) (k : Nat) (hR : RecsOk R) (hk : R.length = k + 1) (i : Nat) (z : UInt8) (hi : endsN R k + i < (linesB R).length) :
    ∃ T : List Rec × Nat, recScan ((linesB R).set (endsN R k + i) z) = (R.take k ++ T.1, endsN R k + T.2) ∧ (T.2 = 0 → T.1 = []) := by
  have he := linesB_split R k
  have hs : (linesB R).set (endsN R k + i) z = linesB (R.take k) ++ (linesB (R.drop k)).set i z := by
    rw [he, List.set_append_right _ _ (by unfold endsN; omega)]
    congr 1
    unfold endsN
    rw [Nat.add_sub_cancel_left]
  rw [hs, recScan_lines (R.take k) _ (fun x hx => hR x (List.mem_of_mem_take hx))]
  exact ⟨_, rfl, recScan_zero⟩
set_option maxRecDepth 100000 in
set_option maxHeartbeats 4000000 in
theorem lawSpoilt_heavy (a : Option Addr) (cap : Nat) (l : List RecIt) (v u : Value) (w : World) (h : RecsArg w a l) (hno : rlight (recsOf l) = false) :
    Calls Tryz.prog 5 #[.slice a l.length cap, v, u] w fun x w' => x = .returned (.bool true) ∧ Below w.heap.size w w' := by
  have HA := Lib.hid awake31_any
  have HL0 := rlight_any a cap l w h
  rw [hno] at HL0
  have HL := Lib.hid HL0
  clear HL0 hno h
  go_enter Tryz.func5, Tryz.ntmps5
  go_wp2_with (first
    | (go_at_call 20; (with_reducible refine HL.out.mono ?_); rintro v w1 ⟨rfl, hb⟩)
    | (go_at_call 21; (with_reducible refine (HA.out _).mono ?_); rintro v w2 ⟨rfl, hb2⟩))
  go_ret
  exact ⟨rfl, below2 hb hb2⟩
set_option maxRecDepth 100000 in
set_option maxHeartbeats 4000000 in
theorem lawSpoilt_same (a : Option Addr) (cap : Nat) (l : List RecIt) (v : Value) (w : World) (h : RecsArg w a l) (hl : rlight (recsOf l) = true) :
    Calls Tryz.prog 5 #[.slice a l.length cap, v, .int .u8 0] w fun x w' => x = .returned (.bool true) ∧ Below w.heap.size w w' := by
  have HA := Lib.hid awake31_any
  have HL0 := rlight_any a cap l w h
  rw [hl] at HL0
  have HL := Lib.hid HL0
  clear HL0 hl h
  go_enter Tryz.func5, Tryz.ntmps5
  go_wp2_with (first
    | (go_at_call 20; (with_reducible refine HL.out.mono ?_); rintro v w1 ⟨rfl, hb⟩)
    | (go_at_call 21; (with_reducible refine (HA.out _).mono ?_); rintro v w2 ⟨rfl, hb2⟩))
  go_ret
  exact ⟨rfl, below2 hb hb2⟩
set_option maxRecDepth 100000 in
set_option maxHeartbeats 4000000 in
theorem lawSpoilt_light (a : Option Addr) (cap : Nat) (l : List RecIt) (n : Int) (y : UInt8) (w : World) (h : RecsArg w a l) (hl : rlight (recsOf l) = true) (hy : y.toNat ≠ 0) :
    Calls Tryz.prog 5 #[.slice a l.length cap, .int .i64 n, .int .u8 y.toNat] w fun x w' => x = .returned (.bool true) ∧ Below w.heap.size w w' := by
  obtain ⟨h12, hsm⟩ := rlight_each hl
  have HA := Lib.hid awake31_any
  have HL0 := rlight_any a cap l w h
  rw [hl] at HL0
  have HL := Lib.hid HL0
  have HLs := Lib.hid (fun (W : World) (h : RecsIn W a l) => lines_any a cap l W h12 hsm h)
  have hr := h.recs
  have hok := filter_ok l
  have hll := linesB_len _ hok
  rw [recsOf_length] at hll
  have hlf : (l.filter okIt).length ≤ 12 := Nat.le_trans (List.length_filter_le _ _) h12
  have hdots : ∀ x ∈ l.filter okIt, DotsIn w x.2.1 x.1.e.over := fun x hx => hr.dots x (List.mem_filter.1 hx).1
  have hsms : ∀ x ∈ l.filter okIt, x.1.e.over.length ≤ 1073741824 := fun x hx => (hsm x (List.mem_filter.1 hx).1).over
  have q1 : ((y.toNat : Int) == 0) = false := beq_eq_false_iff_ne.2 (by omega)
  clear HL0 hl h hsm
  generalize l.filter okIt = rs at *
  have HOK := Lib.hid (recsOk_of hok)
  obtain ⟨R, hR⟩ : ∃ R, R = recsOf rs := ⟨_, rfl⟩
  have hRl : R.length = rs.length := by rw [hR, recsOf_length]
  rw [← hR] at HOK hll
  obtain ⟨LB, hLB⟩ : ∃ LB, LB = linesB R := ⟨_, rfl⟩
  rw [← hLB] at hll
  have HR := Lib.hid hR
  have HLB := Lib.hid hLB
  have HRl := Lib.hid hRl
  clear hR hLB hok hRl
  go_enter Tryz.func5, Tryz.ntmps5
  go_upto_region 4 with (first
    | (go_at_call 20; (with_reducible refine HL.out.mono ?_); rintro v w1 ⟨rfl, hb⟩)
    | (go_at_call 22; (with_reducible refine (HLs.out _ (hr.kept hb)).mono ?_); rintro v w2 ⟨va, vr, ve, rfl, hinv⟩))
  obtain ⟨iall, iright, iends, ibel⟩ := hinv
  rw [← HR.out, ← HLB.out] at iall
  rw [← HR.out] at iends
  obtain ⟨aa, ca, rfl, hinA⟩ := own_bytes iall
  have hca := own_cap2 iall
  have hbt : Below w.heap.size w w2 := below2 hb ibel
  obtain ⟨ar, cr, rfl, hinR, hcr⟩ := recsIn_own iright (fun x hx => (hdots x hx).kept hbt)
  obtain ⟨E, ce, rfl, hce, hends⟩ : ∃ E ce, ve = .slice (some ⟨E, 0, none⟩) (rs.length + 1) ce ∧ rs.length + 1 ≤ ce ∧ ∀ i, i ≤ rs.length → w2.cell? ⟨E, i, none⟩ = some (.int .i64 ((endsN R i : Nat) : Int)) := by
    rcases iends.2 with ⟨_, hn⟩ | ⟨g, c, cur, hv, _, _, hc, _⟩
    · omega
    · refine ⟨g, c, hv, hc, fun i hi => ?_⟩
      have := World.ownsRow.cells (g := g) iends (by rw [hv]; rfl) i _ (endVals_at R i (by rw [HRl.out]; exact hi))
      rwa [Addr.add_mid, Nat.zero_add] at this
  clear iall iright iends ibel HL HLs hb hdots hr
  rcases Nat.eq_zero_or_pos rs.length with h0 | h0
  · rw [h0]
    clear hinR hends
    go_wp2_with (go_at_call 21; (with_reducible refine (HA.out _).mono ?_); rintro v w3 ⟨rfl, hb3⟩)
    go_ret
    exact ⟨rfl, below2 hbt hb3⟩
  · obtain ⟨k, hk⟩ : ∃ k, rs.length = k + 1 := ⟨rs.length - 1, by omega⟩
    have hc := hends k (by omega)
    obtain ⟨f, hf⟩ : ∃ f, f = endsN R k := ⟨_, rfl⟩
    have hfl : f ≤ LB.length := by
      rw [HLB.out, linesB_split R k, hf]; unfold endsN; simp
    rw [← hf] at hc
    have HF := Lib.hid hf
    have HK := Lib.hid hk
    rw [hk] at hlf hll hce hcr ⊢
    have hLB30 : LB.length ≤ 1073741824 := by omega
    clear hf h0 hends hk
    have hq : ((k : Int) + 1 == 0) = false := beq_eq_false_iff_ne.2 (by omega)
    have hq2 : (k + 1 == 0) = false := beq_eq_false_iff_ne.2 (by omega)
    go_upto_region 7 with fail
    by_cases hn : n < 0
    · have d1 := decide_eq_true hn
      clear hinR hinA hc
      go_wp2_with (go_at_call 21; (with_reducible refine (HA.out _).mono ?_); rintro v w3 ⟨rfl, hb3⟩)
      go_ret
      exact ⟨rfl, below2 hbt hb3⟩
    · have d1 := decide_eq_false hn
      by_cases hm : (LB.length : Int) - (f : Int) ≤ n
      · have d2 := decide_eq_true hm
        clear hinR hinA hc
        go_wp2_with (go_at_call 21; (with_reducible refine (HA.out _).mono ?_); rintro v w3 ⟨rfl, hb3⟩)
        go_ret
        exact ⟨rfl, below2 hbt hb3⟩
      · have d2 := decide_eq_false hm
        obtain ⟨i, rfl⟩ : ∃ i : Nat, n = (i : Int) := ⟨n.toNat, by omega⟩
        have hfi : f + i < LB.length := by omega
        obtain ⟨c, hcc⟩ : ∃ c, c = LB[f + i] := ⟨_, rfl⟩
        obtain ⟨z, hz⟩ : ∃ z, z = LB[f + i] ^^^ y := ⟨_, rfl⟩
        have hx8 : bits .xor .u8 (c.toNat : Int) (y.toNat : Int) = ((z.toNat : Nat) : Int) := by
          rw [u8_xor_nat _ _ (UInt8.toNat_lt _) (UInt8.toNat_lt _), hz, ← hcc, UInt8.toNat_xor]
        have hget : (byteVals LB)[f + i]? = some (.int .u8 c.toNat) := by rw [hcc]; simp [byteVals, hfi]
        obtain ⟨T, hT, hT0⟩ := recScan_spoilt R k HOK.out (by rw [HRl.out, HK.out]) i z (by rw [← HLB.out, ← HF.out]; exact hfi)
        rw [← HLB.out, ← HF.out] at hT
        obtain ⟨B, hB⟩ : ∃ B, B = LB.set (f + i) z := ⟨_, rfl⟩
        have hBl : B.length = LB.length := by rw [hB]; simp
        rw [← hB] at hT
        have hsz := recScan_small B
        have HS0 := fun (W : World) (A : Option Addr) (C : Nat) (hc : B.length ≤ C) (h : BytesIn W A B) => RecScan_any A C B W (by omega) hc h
        have HT0 := fun (W : World) (A : Option Addr) (C : Nat) (hc : B.length ≤ C) (h : BytesIn W A B) => rRecScan_any A C B W (by omega) hc h
        obtain ⟨X, N, hXN⟩ : ∃ X N, recScan B = (X, N) := ⟨_, _, rfl⟩
        rw [hXN] at hT hsz HS0 HT0
        simp only [Prod.mk.injEq] at hT
        obtain ⟨hX, hN⟩ := hT
        rw [hBl] at HS0 HT0 hsz
        have HS := Lib.hid HS0
        have HT := Lib.hid HT0
        have hRk : R.length = k + 1 := by rw [HRl.out, HK.out]
        have hXT : X.take k = R.take k := by rw [hX, List.take_append_of_le_length (by rw [List.length_take]; omega), List.take_take, Nat.min_self]
        have hXk : k ≤ X.length := by rw [hX, List.length_append, List.length_take]; omega
        have hNX : N = f → X = R.take k := fun h => by rw [hX, hT0 (by omega), List.append_nil]
        have HBE := Lib.hid hB
        have HXX := Lib.hid (And.intro hXT hNX)
        obtain ⟨hsz1, hsz2⟩ := hsz
        simp only at hsz1 hsz2
        have HSZ := Lib.hid hsz1
        clear HS0 HT0 hXN hX hN hB hz hcc hT0 hXT hNX hsz1 hm hn hRk
        generalize y.toNat = yn at *
        go_upto_region 9 with fail
        have hal := (Below.refl w2.heap.size w2).alloc (Nat.le_refl _) (.cells #[] 5)
        have hinc := hinA.kept hal
        have hown0 := World.ownsRow_lit (base := w2.heap.size) (e := 5) (size := 1) w2 #[] 0 (Nat.le_refl _) (by unfold maxLen; omega) rfl
        go_upto_region 10 with (at_builtin; go_loud (refine wpList_append_bytes rfl _ _ rfl rfl w2.heap.size _ [] rfl hown0 aa LB ca rfl hinc (by simpa using hLB30) hal.size ?_); intro v3 w3 hown3 hg)
        have hb3 : Below w2.heap.size w2 w3 := hal.grown hg hal.size (fun k hk => by cases hk; exact Nat.le_refl _)
        have hbt3 := below2 hbt hb3
        rw [List.nil_append] at hown3
        obtain ⟨gk, ck, rfl, hgk, hck⟩ : ∃ gk ck, v3 = .slice (some ⟨gk, 0, none⟩) LB.length ck ∧ w2.heap.size ≤ gk ∧ LB.length ≤ ck := by
          rcases hown3.2 with ⟨_, h0⟩ | ⟨g, c, cur, hv, hbg, _, hc, _⟩
          · omega
          · exact ⟨g, c, hv, hbg, hc⟩
        have hcell := hown3.cellAt (f + i) (by omega)
        rw [hget] at hcell
        have hfz := hown3.frozenAt (f + i)
        have hst := hown3.stored (f + i) (.int .u8 (z.toNat : Nat))
        clear hown3 hg hinc hown0 hal hget hinA hc
        go_upto_region 11 with fail
        refine wp_name (fun W4 hW4 => ?_)
        obtain ⟨hown4, hg4⟩ := hst
        rw [← hW4.out] at hown4 hg4
        have hbt4 : Below w.heap.size w W4 := hbt3.grown hg4 hbt3.size (fun k hk => by cases hk; have := hbt.size; omega)
        have hinZ : BytesIn W4 (some ⟨gk, 0, none⟩) B := by
          have e : (byteVals LB).set (f + i) (.int .u8 (z.toNat : Nat)) = byteVals B := by rw [HBE.out]; simp [byteVals, List.map_set]
          rw [e] at hown4
          refine Or.inr ⟨gk, 0, rfl, fun j hj => ?_⟩
          have := World.ownsRow.cells (g := gk) hown4 rfl j (.int .u8 B[j].toNat) (by unfold byteVals; rw [List.getElem?_map, List.getElem?_eq_getElem hj]; rfl)
          rw [Addr.add_mid] at this
          exact this
        replace hinR := hinR.kept (hb3.grown hg4 hb3.size (fun k hk => by cases hk; exact hgk))
        have hinT := hinR.take k
        clear hown4 hg4 hW4 hcell hfz hbt3 hbt hb3 hgk
        go_upto_region 12 with (go_at_call 23; (with_reducible refine (HS.out _ _ _ hck hinZ).mono ?_); rintro v w5 ⟨vx, lx, W1, rfl, hb1, hinv, hmap⟩)
        have hbs := below2 hb1 hinv.bel
        have hbt5 := below2 hbt4 hbs
        obtain ⟨ax, cx, rfl, hinX, hcx⟩ := recsIn_own hinv.own hinv.dots
        replace hinT := hinT.kept hbs
        replace hinZ := hinZ.kept hbs
        have hlx : lx.length = X.length := by have := congrArg List.length hmap; simpa using this
        have hsx : ∀ x ∈ lx, x.1.e.over.length ≤ 1073741824 := fun x hx => by
          have h1 : x.1 ∈ X := by rw [← hmap]; exact List.mem_map_of_mem hx
          have := (HSZ.out x.1 h1).over
          omega
        have hst : ∀ x ∈ rs.take k, x.1.e.over.length ≤ 1073741824 := fun x hx => hsms x (List.mem_of_mem_take hx)
        have hrl : (rs.take k).length = k := by rw [List.length_take, HK.out]; omega
        have hRt : recsOf (rs.take k) = R.take k := by rw [HR.out]; simp [recsOf, List.map_take]
        have HB := Lib.hid (fun (W : World) (hi : RecsIn W ax lx) => Back_any ax cx lx W (by omega) hi)
        have hdx := hinX.dots
        have hmp : recsOf lx = X := hmap
        have hlx1 : lx.length ≤ 1073741824 := by omega
        have hlx2 : k ≤ lx.length := by omega
        have hkcr : k ≤ cr := by omega
        have hw1 : IntKind.i64.wrap ((k : Int) + 1 - 1) = (k : Int) := by rw [show (k : Int) + 1 - 1 = k by omega]; exact IntWalk.i64_in _ (by omega)
        have hw2 : IntKind.i64.wrap (k : Int) = (k : Int) := IntWalk.i64_in _ (by omega)
        clear hb1 hbs hmap hbt4 hlx
        by_cases hNf : N = f
        · have hA0 := fun (W : World) (p : Option Addr) (c : Nat) (h1 : RecsIn W p lx) (h2 : RecsIn W ar (rs.take k)) => rSameRecs_any p ar c cr lx (rs.take k) W hlx1 (by omega) hsx hst h1 h2
          rw [hrl] at hA0
          have hq3 : recsOf lx = recsOf (rs.take k) := by rw [hmp, hRt]; exact HXX.out.2 hNf
          simp only [hq3, decide_true] at hA0
          have HSA := Lib.hid hA0
          have d3 : ((N : Int) == (f : Int)) = true := beq_iff_eq.2 (by omega)
          have d4 : (N == f) = true := beq_iff_eq.2 hNf
          clear hA0 hq3 hNf hmp hRt hrl hinZ
          have hB : Below w5.heap.size w5 w5.drew := (Below.refl _ _).drew
          go_upto_region 13 with fail
          go_region_held3 (fun W' => True) (trivial)
            (first
              | (go_at_call 25; (with_reducible refine (HB.out _ (hinX.kept hB)).mono ?_); rintro v w6 ⟨vb, rfl, hownb, hb6⟩; obtain ⟨ab, cb, rfl, hinb, _⟩ := recsIn_own hownb (fun x hx => ((hdx x hx).kept hB).kept hb6); replace hB := below2 hB hb6; clear hownb hb6)
              | (go_at_call 24; (with_reducible refine (HSA.out _ _ _ hinb (hinT.kept hB)).mono ?_); rintro v w7 ⟨rfl, hb7⟩; replace hB := below2 hB hb7)
              | (go_at_call 21; (with_reducible refine (HA.out _).mono ?_); rintro v w8 ⟨rfl, hb8⟩; replace hB := below2 hB hb8))
          all_goals
            go_wp2
            go_ret
            exact ⟨rfl, below2 hbt5 hB⟩
        · have d3 : ((N : Int) == (f : Int)) = false := beq_eq_false_iff_ne.2 (by omega)
          have d4 : (N == f) = false := beq_eq_false_iff_ne.2 hNf
          clear hNf
          have HMP := Lib.hid (And.intro hmp (And.intro hRt hrl))
          clear hmp hRt hrl
          go_upto_region 15 with (go_at_call 26; (with_reducible refine (HT.out _ _ _ hck hinZ).mono ?_); rintro v w6 ⟨vy, ly, rfl, hinvy, hmapy⟩)
          obtain ⟨hmp, hRt, hrl⟩ := HMP.out
          have hbt6 := below2 hbt5 hinvy.bel
          obtain ⟨ay, cy, rfl, hiny, hcy⟩ := recsIn_own hinvy.own hinvy.dots
          replace hinT := hinT.kept hinvy.bel
          replace hinX := hinX.kept hinvy.bel
          have hly : ly.length = X.length := by have := congrArg List.length hmapy; simpa using this
          have hsy : ∀ x ∈ ly, x.1.e.over.length ≤ 1073741824 := fun x hx => by
            have h1 : x.1 ∈ X := by rw [← hmapy]; exact List.mem_map_of_mem hx
            have := (HSZ.out x.1 h1).over
            omega
          have hly1 : ly.length ≤ 1073741824 := by omega
          have hA0 := fun (W : World) (p : Option Addr) (c : Nat) (h1 : RecsIn W p lx) (h2 : RecsIn W ay ly) => rSameRecs_any p ay c cy lx ly W hlx1 hly1 hsx hsy h1 h2
          have hq3 : recsOf lx = recsOf ly := by rw [hmp]; exact hmapy.symm
          simp only [hq3, decide_true] at hA0
          have HSA := Lib.hid hA0
          have hC0 := fun (W : World) (p : Option Addr) (c : Nat) (h1 : RecsIn W p lx) (h2 : RecsIn W ar (rs.take k)) => rSameRecs_any p ar c cr (lx.take k) (rs.take k) W (by rw [List.length_take]; omega) (by omega) (fun x hx => hsx x (List.mem_of_mem_take hx)) hst (h1.take k) h2
          have hq4 : recsOf (lx.take k) = recsOf (rs.take k) := by
            rw [hRt, ← HXX.out.1, ← hmp]; simp [recsOf, List.map_take]
          have hlk : (lx.take k).length = k := by rw [List.length_take]; omega
          rw [hrl, hlk] at hC0
          simp only [hq4, decide_true] at hC0
          have HSC := Lib.hid hC0
          have hdx := hinX.dots
          have d5 : decide ((k : Int) ≤ (lx.length : Int)) = true := decide_eq_true (by omega)
          have d6 : decide (k ≤ lx.length) = true := decide_eq_true hlx2
          have hB : Below w6.heap.size w6 w6.drew := (Below.refl _ _).drew
          clear hA0 hC0 hq3 hq4 hlk hmp hRt hrl hinZ hmapy hly hinvy hbt5
          go_region_held3 (fun W' => True) (trivial)
            (first
              | (go_at_call 25; (with_reducible refine (HB.out _ (hinX.kept hB)).mono ?_); rintro v w7 ⟨vb, rfl, hownb, hb7⟩; obtain ⟨ab, cb, rfl, hinb, hcb⟩ := recsIn_own hownb (fun x hx => ((hdx x hx).kept hB).kept hb7); have hkcb : k ≤ cb := Nat.le_trans hlx2 hcb; replace hB := below2 hB hb7; clear hownb hb7)
              | (go_at_call 24; (with_reducible refine (HSA.out _ _ _ hinb (hiny.kept hB)).mono ?_); rintro v w8 ⟨rfl, hb8⟩; replace hB := below2 hB hb8)
              | (go_at_call 24; (with_reducible refine (HSC.out _ _ _ hinb (hinT.kept hB)).mono ?_); rintro v w8 ⟨rfl, hb8⟩; replace hB := below2 hB hb8)
              | (go_at_call 21; (with_reducible refine (HA.out _).mono ?_); rintro v w9 ⟨rfl, hb9⟩; replace hB := below2 hB hb9))
          all_goals
            go_wp2
            go_ret
            exact ⟨rfl, below2 hbt6 hB⟩
theorem lawSpoilt_any (a : Option Addr) (cap : Nat) (l : List RecIt) (n : Int) (y : UInt8) (w : World) (h : RecsArg w a l) :
    Calls Tryz.prog 5 #[.slice a l.length cap, .int .i64 n, .int .u8 y.toNat] w fun x w' => x = .returned (.bool true) ∧ Below w.heap.size w w' := by
  cases hl : rlight (recsOf l) with
  | true =>
    by_cases hy : y.toNat = 0
    · rw [hy]; exact lawSpoilt_same a cap l (.int .i64 n) w h hl
    · exact lawSpoilt_light a cap l n y w h hl hy
  | false => exact lawSpoilt_heavy a cap l (.int .i64 n) (.int .u8 y.toNat) w h hl
end Go.Proofs.YtnpdfmpjjomhcaaGreat
