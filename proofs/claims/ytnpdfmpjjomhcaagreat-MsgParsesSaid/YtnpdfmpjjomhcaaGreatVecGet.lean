/- Marks, read. Conditions: at most 2^30 bytes. -/
import Derived.Test.YtnpdfmpjjomhcaaGreatReadK
import Derived.Test.YtnpdfmpjjomhcaaGreatMark
import Derived.Test.YtnpdfmpjjomhcaaGreatFrameP
import Derived.Great.BuildSlice
set_option linter.unusedSimpArgs false
set_option linter.unusedVariables false
set_option linter.unnecessarySimpa false
namespace Go.Proofs.YtnpdfmpjjomhcaaGreat
open Go.RowKit

/-- marks, read -/
def rMarksEnd (y : Rd × List Dot) : Rd × List Dot := if y.1.e = 0 then (if marksErr y.2 = 0 then y else (rFail y.1 (marksErr y.2), [])) else (y.1, [])
def rMarks (r : Rd) : Rd × List Dot := rMarksEnd (rDots (rNum 4096 r).2 (rNum 4096 r).1)
theorem rMarks_fit (r : Rd) : (rMarks r).1.b.length ≤ r.b.length := by
  have h1 := (rNum_fit 4096 r).1
  have h2 := rDots_fit (rNum 4096 r).2 (rNum 4096 r).1
  unfold rMarks rMarksEnd
  split
  · split
    · omega
    · unfold rFail; split <;> simp only <;> omega
  · simp only; omega
def RetMarks (R : Nat) (y : Rd × List Dot) (w : World) (x : Ending) (w' : World) : Prop :=
  ∃ a cap, x = .returned (.slice a y.2.length cap) ∧ DotsIn w' a y.2 ∧ RdAt w' R y.1 ∧ Fr (isR R) w w' ∧ (∀ A off, a = some ⟨A, off, none⟩ → w.heap.size ≤ A)
theorem Tryz.infoMark : (Tryz.prog.info? 142).map (fun i => (i.zero, i.size, i.bytes)) = some (some (.agg #[.int .i64 0, .int .i64 0, .int .i64 0]), 3, 24) := by kernel_rfl
theorem dotsIn_own {w : World} {base : Nat} {t : TypeId} {v : Value} {l : List Dot} (h : w.ownsRow base t 3 v l.length (dotVals l)) : ∃ a cap, v = .slice a l.length cap ∧ DotsIn w a l ∧ (∀ A off, a = some ⟨A, off, none⟩ → base ≤ A) := by
  rcases h.2 with ⟨rfl, hn⟩ | ⟨g, cap, cur, rfl, hb, rest⟩
  · exact ⟨none, 0, by rw [hn], Or.inl (List.length_eq_zero_iff.1 hn), fun _ _ h => by cases h⟩
  · refine ⟨some ⟨g, 0, none⟩, cap, rfl, Or.inr ⟨g, 0, rfl, ?_⟩, fun A off e => by cases e; exact hb⟩
    have hc := World.ownsRow.cells (g := g) h rfl
    have key : ∀ j u, (dotVals l)[j]? = some u → w.cell? ⟨g, j, none⟩ = some u := fun j u hu => by
      have := hc j u hu
      rwa [Addr.add_mid, Nat.zero_add] at this
    refine ⟨fun i hi => ?_, fun i hi => ?_, fun i hi => ?_⟩
    · have := key _ _ (dotVals_get l i hi).1; simpa using this
    · have := key _ _ (dotVals_get l i hi).2.1; simpa using this
    · have := key _ _ (dotVals_get l i hi).2.2; simpa using this
theorem dotVals_snoc2 (l : List Dot) (d : Dot) : dotVals l ++ [.int .i64 d.a.dev, .int .i64 d.a.inc, .int .i64 d.seq] = dotVals (l ++ [d]) := by simp [dotVals]
set_option maxRecDepth 100000 in
set_option maxHeartbeats 4000000 in
theorem vecGet_r (R : Nat) (r : Rd) (w : World) (hl : r.b.length ≤ 1073741824) (h : RdAt w R r) :
    Calls Tryz.prog 82 #[.pointer (some ⟨R, 0, none⟩)] w (RetMarks R (rMarks r) w) := by
  obtain ⟨i0, hi, hz0, hz1, hz2⟩ := info_parts Tryz.infoMark
  have hfit := rNum_fit 4096 r
  have HN0 := Num_r R r 4096 w hl (by omega) h
  have HV : Hid (rMarks r = rMarksEnd (rDots (rNum 4096 r).2 (rNum 4096 r).1)) := rfl
  obtain ⟨x, N, hx⟩ : ∃ x N, rNum 4096 r = (x, N) := ⟨_, _, rfl⟩
  rw [hx] at hfit HN0 HV
  simp only at hfit HN0 HV
  obtain ⟨hxl, hN⟩ := hfit
  have HN : Hid (Calls Tryz.prog 81 #[.pointer (some ⟨R, 0, none⟩), .int .u64 4096] w (RetRd R x (.int .u64 N) w)) := HN0
  have HEr := Lib.hid (fun (rr : Rd) (W : World) (h : RdAt W R rr) => Err_r R rr W h)
  have HDg := Lib.hid (fun (rr : Rd) (W : World) (hl : rr.b.length ≤ 1073741824) (h : RdAt W R rr) => dotGet_r R rr W hl h)
  have hR := h.lt
  clear hx HN0 h
  go_enter Tryz.func82, Tryz.ntmps82
  go_upto_region 3 with (go_at_call 81; (with_reducible refine HN.out.mono ?_); rintro v W ⟨rfl, hRx, hFx⟩)
  have hzW := hFx.size
  clear HN
  go_wp2
  go_loopw [3, 4] (fun out n wr => ∃ (m : Nat) (rr : Rd) (ls : List Dot), n = .int .u64 m ∧ m + ls.length ≤ 4096 ∧ rr.b.length ≤ 1073741824 ∧ wr.ownsRow W.heap.size 142 3 out ls.length (dotVals ls) ∧ RdAt wr R rr ∧ Fr (isR R) W wr ∧ rDots N x = ((rDots m rr).1, ls ++ (rDots m rr).2)) (fun _ n _ => (intOf n).toNat)
  case atStart => exact ⟨N, x, [], rfl, by simp; omega, by omega, World.ownsRow_nil _ _ _ _, hRx, Fr.refl _ _, by simp⟩
  case round =>
    obtain ⟨m, rr, ls, rfl, hmn, hrl, hown, hRd, hF, hpre⟩ := hrel
    have HP := Lib.hid hpre
    clear hpre
    have hzw := hF.size
    by_cases hgo : 0 < m ∧ rr.e = 0
    · obtain ⟨hm0, he0⟩ := hgo
      obtain ⟨j, rfl⟩ : ∃ j, m = j + 1 := ⟨m - 1, by omega⟩
      have hq : (rr.e == 0) = true := beq_iff_eq.2 he0
      have hdm : decide (0 < j + 1) = true := by simp
      have hdi : decide ((0 : Int) < ((j : Nat) : Int) + 1) = true := decide_eq_true (by omega)
      have hwr : IntKind.u64.wrap (((j : Nat) : Int) + 1 - 1) = ((j : Nat) : Int) := by rw [show ((j : Nat) : Int) + 1 - 1 = j by omega]; exact IntWalk.u64_in _ (by omega)
      have hf := rDot_fit rr
      have HS : Hid (rDots N x = ((rDots j (rDot rr).1).1, (ls ++ [(rDot rr).2]) ++ (rDots j (rDot rr).1).2)) := by rw [Hid, HP.out, rDots_next he0]; simp
      have HG0 := HDg.out rr
      obtain ⟨r2, d, hrd⟩ : ∃ r2 d, rDot rr = (r2, d) := ⟨_, _, rfl⟩
      rw [hrd] at HG0 HS hf
      simp only at HG0 HS hf
      have HG := Lib.hid (fun (X : World) (h : RdAt X R rr) => HG0 X hrl h)
      have HE := Lib.hid (fun (X : World) (h : RdAt X R rr) => HEr.out rr X h)
      clear hrd HG0 HP he0 hm0
      go_upto_region 6 with (first
        | (go_at_call 83; (with_reducible refine (HE.out _ hRd).mono ?_); rintro v w2 ⟨rfl, rfl⟩)
        | (go_at_call 105; (with_reducible refine (HG.out _ hRd).mono ?_); rintro v wd ⟨rfl, hR2, hF2⟩))
      refine wp_name (fun W1 hW1 => ?_)
      have hb1 : Below wd.heap.size wd W1 := by rw [hW1.out]; go_grown
      have x0 : W1.cell? ⟨wd.heap.size, 0, none⟩ = some (.int .i64 d.a.dev) := by rw [hW1.out]; go_simp
      have x1 : W1.cell? ⟨wd.heap.size, 1, none⟩ = some (.int .i64 d.a.inc) := by rw [hW1.out]; go_simp
      have x2 : W1.cell? ⟨wd.heap.size, 2, none⟩ = some (.int .i64 d.seq) := by rw [hW1.out]; go_simp
      have hown1 := ownsRow_below (own_fr hown hF2 (by omega)) hb1
      have hR3 := hR2.below hb1
      have hF3 := (hF.again hF2).again (Fr.of_below hb1)
      have hzz1 := hF3.size
      clear hW1 hb1 hown hR2 hF2 hRd hF HE HG
      go_wp2_with (at_builtin; go_loud (refine wpList_append_own _ rfl _ _ 75 rfl W.heap.size 142 i0 (.agg #[.int .i64 0, .int .i64 0, .int .i64 0]) 3 24 Tryz.underlying75 hi hz0 hz1 hz2 rfl (by decide) _ _ _ rfl (hown1.alloc _) ⟨W1.heap.size, 0, none⟩ 1 1 [.int .i64 d.a.dev, .int .i64 d.a.inc, .int .i64 d.seq] rfl rfl (new3 W1 d _) (by simp [Value.oneCell']) (by unfold maxLen; omega) (by omega) (by simp; omega) ?_))
      intro v' w5 hown5 hg5 _
      rw [dotVals_snoc2] at hown5
      have hR5 := (hR3.below ((Below.refl _ _).alloc (Nat.le_refl _) _)).grown hg5 (fun g hg => by have := (hown1.lt g hg).1; omega)
      have hF5 := (hF3.alloc (Obj.cells #[.int .i64 d.a.dev, .int .i64 d.a.inc, .int .i64 d.seq] 142)).grown hg5 (fun g hg => (hown1.lt g hg).1)
      go_wp2
      go_roundw
      case rel => exact ⟨j, r2, ls ++ [d], by go_num, by simp; omega, by omega, by rw [List.length_append]; exact hown5, hR5, hF5, HS.out⟩
      case measure => simp [intOf]
    · have hend : rDots m rr = (rr, []) := by
        by_cases h0 : m = 0
        · subst h0; rfl
        · exact rDots_err (fun e => hgo ⟨by omega, e⟩)
      have HQ : Hid (rMarks r = rMarksEnd (rr, ls)) := by rw [Hid, HV.out, HP.out, hend]; simp
      have HE := Lib.hid (fun (X : World) (h : RdAt X R rr) => HEr.out rr X h)
      have hlen : ls.length ≤ 4096 := by omega
      obtain ⟨ao, co, hvo, hdo, hao⟩ := dotsIn_own hown
      have HVO := Lib.hid hvo
      have hFF := hFx.again hF
      by_cases he : rr.e = 0
      · have hm0 : m = 0 := by
          by_cases h0 : m = 0
          · exact h0
          · exact absurd ⟨by omega, he⟩ hgo
        subst hm0
        have q1 : (rr.e == 0) = true := beq_iff_eq.2 he
        have q2 : (rr.e != 0) = false := by rw [bne_eq_false_iff_eq]; exact he
        have HQ2 : Hid (rMarks r = if marksErr ls = 0 then (rr, ls) else (rFail rr (marksErr ls), [])) := by rw [Hid, HQ.out]; unfold rMarksEnd; simp only; rw [if_pos he]
        have HCK0 := fun (X : World) (c : Nat) (h : DotsIn X ao ls) => vecCheck_any ao c ls X (by omega) h
        by_cases hme : marksErr ls = 0
        · have HQ3 : Hid (rMarks r = (rr, ls)) := by rw [Hid, HQ2.out, if_pos hme]
          rw [hme] at HCK0
          have HCK := Lib.hid HCK0
          clear HQ HQ2 HCK0 hme hend hgo he hvo hrl HP HV
          rw [HVO.out]
          go_wp2_with (first
            | (go_at_call 83; (with_reducible refine (HE.out _ hRd).mono ?_); rintro v w2 ⟨rfl, rfl⟩)
            | (go_at_call 79; (with_reducible refine (HCK.out _ _ hdo).mono ?_); rintro v w3 ⟨rfl, hb3⟩; replace hRd := hRd.below hb3; replace hFF := hFF.again (Fr.of_below hb3); replace hdo := hdo.kept hb3))
          go_ret
          rw [HQ3.out]
          exact ⟨ao, co, rfl, hdo, hRd, hFF, fun A off h => Nat.le_trans hzW (hao A off h)⟩
        · have HQ3 : Hid (rMarks r = (rFail rr (marksErr ls), [])) := by rw [Hid, HQ2.out, if_neg hme]
          have hFl0 := fun (X : World) (h : RdAt X R rr) => Fail_r R rr (marksErr ls) X h
          have hfe : (rFail rr (marksErr ls)).e = marksErr ls := by unfold rFail; rw [if_pos he]
          have HE20 := fun (X : World) (h : RdAt X R (rFail rr (marksErr ls))) => HEr.out _ X h
          rw [hfe] at HE20
          obtain ⟨me, hme2⟩ : ∃ me, me = marksErr ls := ⟨_, rfl⟩
          obtain ⟨r3, hr3⟩ : ∃ r3, r3 = rFail rr (marksErr ls) := ⟨_, rfl⟩
          rw [← hr3] at HQ3 hFl0 HE20
          rw [← hme2] at HCK0 hFl0 HE20 hme
          have HCK := Lib.hid HCK0
          have HFl := Lib.hid hFl0
          have HE2 := Lib.hid HE20
          have q3 : (me == 0) = false := beq_eq_false_iff_ne.2 hme
          have q4 : (me != 0) = true := by rw [bne_iff_ne]; exact hme
          clear HQ HQ2 HCK0 hme hend hgo he hvo hrl HP HV hFl0 hfe HE20 hme2 hr3
          rw [HVO.out]
          go_wp2_with (first
            | (go_at_call 83; (with_reducible refine (HE.out _ hRd).mono ?_); rintro v w2 ⟨rfl, rfl⟩)
            | (go_at_call 79; (with_reducible refine (HCK.out _ _ hdo).mono ?_); rintro v w3 ⟨rfl, hb3⟩; replace hRd := hRd.below hb3; replace hFF := hFF.again (Fr.of_below hb3); replace hdo := hdo.kept hb3)
            | (go_at_call 109; (with_reducible refine (HFl.out _ hRd).mono ?_); rintro v w4 ⟨rfl, hR4, hF4⟩; replace hFF := hFF.again hF4; clear hRd)
            | (go_at_call 83; (with_reducible refine (HE2.out _ hR4).mono ?_); rintro v w5 ⟨rfl, rfl⟩))
          go_ret
          rw [HQ3.out]
          exact ⟨none, 0, rfl, Or.inl rfl, hR4, hFF, fun A off h => by cases h⟩
      · have q1 : (rr.e == 0) = false := beq_eq_false_iff_ne.2 he
        have q2 : (rr.e != 0) = true := by rw [bne_iff_ne]; exact he
        have HQ3 : Hid (rMarks r = (rr, [])) := by rw [Hid, HQ.out]; unfold rMarksEnd; simp only; rw [if_neg he]
        clear HQ hend hgo he hvo hrl HP HV
        by_cases h0 : 0 < m
        · have d1 := decide_eq_true h0
          have d2 : decide ((0 : Int) < (m : Int)) = true := decide_eq_true (by omega)
          go_wp2_with (go_at_call 83; (with_reducible refine (HE.out _ hRd).mono ?_); rintro v w2 ⟨rfl, rfl⟩)
          go_ret
          rw [HQ3.out]
          exact ⟨none, 0, rfl, Or.inl rfl, hRd, hFF, fun A off h => by cases h⟩
        · have d1 := decide_eq_false h0
          have d2 : decide ((0 : Int) < (m : Int)) = false := decide_eq_false (by omega)
          go_wp2_with (go_at_call 83; (with_reducible refine (HE.out _ hRd).mono ?_); rintro v w2 ⟨rfl, rfl⟩)
          go_ret
          rw [HQ3.out]
          exact ⟨none, 0, rfl, Or.inl rfl, hRd, hFF, fun A off h => by cases h⟩
end Go.Proofs.YtnpdfmpjjomhcaaGreat

/- A message, parsed. Conditions: at most 2^30 bytes. -/
namespace Go.Proofs.YtnpdfmpjjomhcaaGreat
open Go.RowKit

/-- n events, one behind the other, till an error -/
def rEvs : Nat → Rd → Rd × List Ev
  | 0, r => (r, [])
  | n + 1, r => if r.e = 0 then ((rEvs n (rEv r).1).1, (rEv r).2 :: (rEvs n (rEv r).1).2) else (r, [])
theorem rEvs_fit : ∀ (n : Nat) (r : Rd), (rEvs n r).1.b.length ≤ r.b.length
  | 0, r => Nat.le_refl _
  | n + 1, r => by
    unfold rEvs
    split
    · exact Nat.le_trans (rEvs_fit n _) (rEv_fit r)
    · exact Nat.le_refl _
theorem rEvs_err {m : Nat} {r : Rd} (h : r.e ≠ 0) : rEvs m r = (r, []) := by
  cases m with
  | zero => rfl
  | succ m => unfold rEvs; rw [if_neg h]
theorem rEvs_next {m : Nat} {r : Rd} (h : r.e = 0) : rEvs (m + 1) r = ((rEvs m (rEv r).1).1, (rEv r).2 :: (rEvs m (rEv r).1).2) := by
  rw [rEvs, if_pos h]
theorem rDots_len : ∀ (n : Nat) (r : Rd), (rDots n r).2.length ≤ n
  | 0, r => Nat.le_refl _
  | n + 1, r => by
    unfold rDots
    split
    · have := rDots_len n (rDot r).1
      simp only [List.length_cons]; omega
    · simp
theorem rMarks_len (r : Rd) : (rMarks r).2.length ≤ 4096 := by
  have h := rDots_len (rNum 4096 r).2 (rNum 4096 r).1
  have h2 := (rNum_fit 4096 r).2
  unfold rMarks rMarksEnd
  split
  · split
    · omega
    · simp
  · simp
def msg0 : Msg := ⟨0, 0, 0, [], []⟩
/-- the last tests -/
def msgEnd (k f d : Nat) (mk : List Dot) (y : Rd × List Ev) : Msg × Int := if rEnd y.1 = 0 then (if msgOk ⟨k, f, d, mk, y.2⟩ = true then (⟨k, f, d, mk, y.2⟩, 0) else (msg0, 1)) else (msg0, rEnd y.1)
/-- a message's body, read -/
def msgRead (l : Bytes) : Msg × Int :=
  let a := rNum 3 ⟨l, 0⟩
  let b := rNum 63 a.1
  let c := rNum 63 b.1
  let d := rMarks c.1
  let n := rNum 256 d.1
  msgEnd a.2 b.2 c.2 d.2 (rEvs n.2 n.1)
def msgParse (l : Bytes) : Msg × Int := if (frOne l).2 = 0 then msgRead (frOne l).1 else (msg0, (frOne l).2)
/-- slices of events of one's own -/
def evItCells (l : List EvIt) : List Value := l.flatMap itEv
theorem evCells_len (x : Ev) (a : Option Addr) (cap : Nat) : (evCells x a cap).length = 19 := rfl
theorem evItCells_snoc (l : List EvIt) (x : EvIt) : evItCells (l ++ [x]) = evItCells l ++ itEv x := by simp [evItCells]
theorem evCells_one (x : Ev) (a : Option Addr) (cap : Nat) : ∀ u ∈ evCells x a cap, u.oneCell' = true := by
  intro u hu
  simp only [evCells, List.mem_cons, List.not_mem_nil, or_false] at hu
  rcases hu with rfl | rfl | rfl | rfl | rfl | rfl | rfl | rfl | rfl | rfl | rfl | rfl | rfl | rfl | rfl | rfl | rfl | rfl | rfl <;> rfl
theorem evItCells_at : ∀ (l : List EvIt) (i j : Nat) (u : Value) (hi : i < l.length), (itEv l[i])[j]? = some u → (evItCells l)[i * 19 + j]? = some u
  | [], i, _, _, hi, _ => by simp at hi
  | x :: r, i, j, u, hi, h => by
    have e : evItCells (x :: r) = itEv x ++ evItCells r := by simp [evItCells]
    have hj : j < 19 := by
      have := (List.getElem?_eq_some_iff.1 h).1
      rwa [evCells_len] at this
    rw [e]
    cases i with
    | zero =>
      rw [List.getElem?_append_left (by rw [evCells_len]; omega)]
      simpa using h
    | succ i =>
      rw [List.getElem?_append_right (by rw [evCells_len]; omega), evCells_len, show (i + 1) * 19 + j - 19 = i * 19 + j by omega]
      exact evItCells_at r i j u (by simpa using hi) (by simpa using h)
theorem evsIn_own {w : World} {base : Nat} {t : TypeId} {v : Value} {ls : List EvIt} (h : w.ownsRow base t 19 v ls.length (evItCells ls)) (hd : ∀ x ∈ ls, DotsIn w x.2.1 x.1.over) : ∃ a cap, v = .slice a ls.length cap ∧ EvsIn w a ls := by
  rcases h.2 with ⟨rfl, hn⟩ | ⟨g, cap, cur, hv, rest⟩
  · have : ls = [] := List.length_eq_zero_iff.1 hn
    subst this
    exact ⟨none, 0, rfl, ⟨Or.inl rfl, hd⟩⟩
  · refine ⟨some ⟨g, 0, none⟩, cap, hv, ⟨Or.inr ⟨g, 0, rfl, fun i hi j u hu => ?_⟩, hd⟩⟩
    have := World.ownsRow.cells (g := g) h (by rw [hv]; rfl) (i * 19 + j) u (evItCells_at ls i j u hi hu)
    rw [Addr.add_mid, Nat.zero_add] at this
    rwa [Nat.zero_add]
theorem evs_new (w : World) (x : Ev) (a : Option Addr) (c : Nat) (t : TypeId) : ∀ j u, (evCells x a c)[j]? = some u → (w.alloc (Obj.cells (evCells x a c).toArray t)).cell? ((⟨w.heap.size, 0, none⟩ : Addr).add j) = some u := by
  intro j u hj
  rw [Addr.add_mid, Nat.zero_add, World.cell?_alloc_new]
  simpa using hj
theorem Tryz.infoEv : (Tryz.prog.info? 34).map (fun i => (i.zero, i.size, i.bytes)) = some (some (.agg (evCells ev0 none 0).toArray), 19, 176) := by kernel_rfl
/-- behind Parse: the message that is told, with its parts -/
def RetMsg (r : Msg × Int) (w : World) (x : Ending) (w' : World) : Prop :=
  ∃ m : MsgIt, x = .returned (.tuple #[msgVal m, .int .i64 r.2]) ∧ m.msg = r.1 ∧ MsgIn w' m ∧ Below w.heap.size w w'
def msgCells (k f d : Int) (am : Option Addr) (nm cm : Nat) (v : Value) : Array Value := #[.int .i64 k, .int .i64 f, .int .i64 d, .slice am nm cm, v]
def MsgBlk (w : World) (X : Nat) (k f d : Int) (am : Option Addr) (nm cm : Nat) (v : Value) : Prop := w.heap[X]? = some (.cells (msgCells k f d am nm cm v) 78 (0, 0))
theorem MsgBlk.lt {w : World} {X : Nat} {k f d : Int} {am : Option Addr} {nm cm : Nat} {v : Value} (h : MsgBlk w X k f d am nm cm v) : X < w.heap.size := lt_of_block h
theorem MsgBlk.below {w w' : World} {X : Nat} {k f d : Int} {am : Option Addr} {nm cm : Nat} {v : Value} (h : MsgBlk w X k f d am nm cm v) (hb : Below w.heap.size w w') : MsgBlk w' X k f d am nm cm v := (hb.block _ h.lt).trans h
theorem MsgBlk.fr {w w' : World} {S : Nat → Prop} {X : Nat} {k f d : Int} {am : Option Addr} {nm cm : Nat} {v : Value} (h : MsgBlk w X k f d am nm cm v) (hf : Fr S w w') (hs : ¬ S X) : MsgBlk w' X k f d am nm cm v := (hf.block _ h.lt hs).trans h
abbrev msgZero : Array Value := #[.int .i64 0, .int .i64 0, .int .i64 0, .slice none 0 0, .slice none 0 0]
def mit0 : MsgIt := ⟨0, 0, 0, [], none, 0, [], none, 0⟩
theorem mit0_in (w : World) : MsgIn w mit0 := ⟨Or.inl rfl, ⟨Or.inl rfl, fun x hx => by simp [mit0] at hx⟩⟩
theorem mit0_msg : mit0.msg = msg0 := rfl
set_option maxRecDepth 100000 in
set_option maxHeartbeats 4000000 in
theorem MsgParse_bad (a : Option Addr) (cap : Nat) (l : Bytes) (w : World) (hl : l.length ≤ 1073741824) (hcap : l.length ≤ cap) (h : BytesIn w a l) (hno : (frOne l).2 ≠ 0) :
    Calls Tryz.prog 38 #[.slice a l.length cap] w (RetMsg (msgParse l) w) := by
  have HV : Hid (msgParse l = (msg0, (frOne l).2)) := by unfold Hid msgParse; rw [if_neg hno]
  have HO0 := fun (W : World) (h : BytesIn W a l) => FrameOne_any a cap l W hl hcap h
  obtain ⟨b, e, hx⟩ : ∃ b e, frOne l = (b, e) := ⟨_, _, rfl⟩
  rw [hx] at HO0 HV hno
  unfold RetOne at HO0
  simp only at HO0 HV hno
  have HO := Lib.hid HO0
  have q1 : (e == 0) = false := beq_eq_false_iff_ne.2 hno
  have q2 : (e != 0) = true := by rw [bne_iff_ne]; exact hno
  clear HO0 hx hno
  go_enter Tryz.func38, Tryz.ntmps38
  go_upto_region 1 with fail
  refine wp_name (fun W hW => ?_)
  have hbt : Below w.heap.size w W := by rw [hW.out]; exact (Below.refl _ _).alloc (Nat.le_refl _) _
  have hZ : MsgBlk W w.heap.size 0 0 0 none 0 0 (.slice none 0 0) := by rw [hW.out]; exact heap_alloc_last w _
  have hin := h.kept hbt
  clear hW h
  go_upto_region 3 with (go_at_call 80; (with_reducible refine (HO.out _ hin).mono ?_); rintro x w1 ⟨v, rfl, hown, hb⟩)
  replace hZ := hZ.below hb
  replace hbt := below2 hbt hb
  clear hb hown hin
  go_wp2_with (first
    | (refine wpList_store_row rfl 78 _ _ rfl w.heap.size msgZero rfl rfl 78 (msgCells 0 0 0 none 0 0 (.slice none 0 0)) hZ (by kernel_rfl) rfl (by kernel_rfl) ?_)
    )
  refine ret_cell_tmp 2 3 78 78 w.heap.size msgZero _ (.int .i64 e) rfl rfl rfl (setRow_heap _ _ _ _ _ _ hZ) Tryz.underlying78 rfl (by kernel_rfl) rfl ?_
  rw [HV.out]
  exact ⟨mit0, rfl, mit0_msg, mit0_in _, below_setRow hbt (Nat.le_refl _) _⟩
end Go.Proofs.YtnpdfmpjjomhcaaGreat

/- A message, parsed, of bytes that are one frame. Conditions: at most 2^30 bytes. -/
namespace Go.Proofs.YtnpdfmpjjomhcaaGreat
open Go.RowKit

theorem step_append_own_at {P : Program} {ops : Array Oper} {o : Oper} {a : Act} {w : World} {K : Act → World → Prop} {Q : Exit → Act → World → Prop} {E : Prop} (hw : Region.wanted o (yielded ops a.tmps) = true) (s x : Operand) (t : TypeId)
    (ho : o.op = .call { callee := .builtin .append, args := #[s, x], argTypes := #[t, t] })
    (base : Nat) (e : TypeId) (i : TypeInfo) (z : Value) (size bytes : Nat) (ht : P.underlying t = some (.slice e)) (hi : P.info? e = some i) (hz : i.zero = some z)
    (hsize : i.size = size) (hby : i.bytes = bytes) (hzs : z.cells.size = size) (hsz : 0 < size)
    (v : Value) (n : Nat) (xs : List Value) (hs : a.eval s = v) (hown : w.ownsRow base e size v n xs)
    (ad : Addr) (m c : Nat) (news : List Value) (hx : a.eval x = .slice (some ad) m c) (hl : news.length = m * size) (hnews : ∀ j u, news[j]? = some u → w.cell? (ad.add j) = some u) (h1 : ∀ u ∈ news, u.oneCell' = true)
    (h63 : n + m ≤ maxLen) (hbytes : (n + m) * bytes ≤ 140737488355328) (hbase : base ≤ w.heap.size)
    (h : ∀ v' w', w'.ownsRow base e size v' (n + m) (xs ++ news) → w.grownBy w' v.ownBlock → (v'.ownBlock = v.ownBlock ∨ v'.ownBlock = some w.heap.size) → K (a.put o.dst v') w') : if Region.wanted o (yielded ops a.tmps) = true then Oper.wp P o a w K Q else E := by
  rw [if_pos hw]
  obtain ⟨v', w', hr, h2, h3, _, h5⟩ := run_append_own_at (P := P) w base t o.type e i z size bytes ht hi hz hsize hby hzs hsz v n xs hown ad m c news hl hnews h1 h63 hbytes hbase
  unfold Oper.wp execOp
  simp only [ho, resolve, invoke, builtin, Sem.run_bind, Sem.run_pure, Result.andThen_ok, List.map_toArray, List.map_cons, List.map_nil, hs, hx, hr]
  exact h _ _ h2 h3 h5
theorem MsgBlk.set3 {w : World} {X : Nat} {k f d : Int} {am a' : Option Addr} {nm cm : Nat} {v : Value} (h : MsgBlk w X k f d am nm cm v) (n c : Nat) : MsgBlk (w.setCell ⟨X, 3, none⟩ (.slice a' n c)) X k f d a' n c v := by
  simp [MsgBlk, World.setCell, Array.getElem?_modify, show w.heap[X]? = _ from h, msgCells]
theorem MsgBlk.set4 {w : World} {X : Nat} {k f d : Int} {am : Option Addr} {nm cm : Nat} {v : Value} (h : MsgBlk w X k f d am nm cm v) (v' : Value) : MsgBlk (w.setCell ⟨X, 4, none⟩ v') X k f d am nm cm v' := by
  simp [MsgBlk, World.setCell, Array.getElem?_modify, show w.heap[X]? = _ from h, msgCells]
theorem MsgBlk.cells {w : World} {X : Nat} {k f d : Int} {am : Option Addr} {nm cm : Nat} {v : Value} (h : MsgBlk w X k f d am nm cm v) : w.cell? ⟨X, 0, none⟩ = some (.int .i64 k) ∧ w.cell? ⟨X, 1, none⟩ = some (.int .i64 f) ∧ w.cell? ⟨X, 2, none⟩ = some (.int .i64 d) ∧ w.cell? ⟨X, 3, none⟩ = some (.slice am nm cm) ∧ w.cell? ⟨X, 4, none⟩ = some v := by
  simp [World.cell?, show w.heap[X]? = _ from h, msgCells]
theorem MsgBlk.free {w : World} {X : Nat} {k f d : Int} {am : Option Addr} {nm cm : Nat} {v : Value} (h : MsgBlk w X k f d am nm cm v) (o : Nat) : w.frozen? ⟨X, o, none⟩ = false := by
  simp [World.frozen?, show w.heap[X]? = _ from h]
theorem MsgBlk.grown {w w' : World} {X : Nat} {k f d : Int} {am : Option Addr} {nm cm : Nat} {v : Value} {g : Option Nat} (h : MsgBlk w X k f d am nm cm v) (hg : w.grownBy w' g) (hne : some X ≠ g) : MsgBlk w' X k f d am nm cm v := (hg.block X h.lt hne).trans h
theorem own_shape {w : World} {base : Nat} {e : TypeId} {size : Nat} {v : Value} {n : Nat} {xs : List Value} (h : w.ownsRow base e size v n xs) : ∃ a c, v = .slice a n c := by
  rcases h.2 with ⟨rfl, hn⟩ | ⟨g, cap, cur, rfl, _⟩
  · exact ⟨none, 0, by rw [hn]⟩
  · exact ⟨_, _, rfl⟩
theorem dotsIn_lt {w : World} {A off : Nat} {l : List Dot} (h : DotsIn w (some ⟨A, off, none⟩) l) (hl : l ≠ []) : A < w.heap.size := by
  rcases h with h | ⟨A', off', he, h⟩
  · exact absurd h hl
  · cases he
    exact World.block_lt_of_cell? w _ (h.dev 0 (List.length_pos_iff.2 hl))
/-- through the loop over the events: W the world ahead of it -/
structure PInv (W wr : World) (R X : Nat) (k f d : Int) (am : Option Addr) (nm cm : Nat) (rr : Rd) (ls : List EvIt) (v : Value) : Prop where
  rd : RdAt wr R rr
  blk : MsgBlk wr X k f d am nm cm v
  own : wr.ownsRow W.heap.size 34 19 v ls.length (evItCells ls)
  dots : ∀ x ∈ ls, DotsIn wr x.2.1 x.1.over
  ne : ∀ x ∈ ls, ∀ A off, x.2.1 = some ⟨A, off, none⟩ → x.1.over ≠ [] → W.heap.size ≤ A ∧ v.ownBlock ≠ some A
  fr : Fr (isRE R X) W wr
theorem rEv_small (r : Rd) : EvSmall (rEv r).2 := by
  have h0 : EvSmall ev0 := by constructor <;> exact Nat.zero_le _
  unfold rEv evFin
  split
  · split
    · rename_i h; exact evOk_small h
    · exact h0
  · exact h0
theorem PInv.next {W wr wd wf : World} {R X : Nat} {k f d : Int} {am : Option Addr} {nm cm : Nat} {rr r2 : Rd} {ls : List EvIt} {v v' : Value} {ev : Ev} {ae : Option Addr} {ce : Nat} (h : PInv W wr R X k f d am nm cm rr ls v) (hRX : R < X) (hX : X < W.heap.size)
    (hRd : RdAt wd R r2) (hF : Fr (isR R) wr.drew wd) (hde : DotsIn wd ae ev.over) (hae : ∀ A off, ae = some ⟨A, off, none⟩ → wr.drew.heap.size ≤ A)
    (hO : wf.ownsRow W.heap.size 34 19 v' (ls.length + 1) (evItCells ls ++ evCells ev ae ce)) (hg : (wd.alloc (Obj.cells (evCells ev ae ce).toArray 34)).grownBy wf v.ownBlock)
    (hat : v'.ownBlock = v.ownBlock ∨ v'.ownBlock = some (wd.alloc (Obj.cells (evCells ev ae ce).toArray 34)).heap.size) (v2 : Value) :
    PInv W (wf.setCell ⟨X, 4, none⟩ v2) R X k f d am nm cm r2 (ls ++ [(ev, ae, ce)]) v' ∨ v2 ≠ v' := by
  by_cases hv : v2 = v'
  · left
    subst hv
    obtain ⟨iRd, iBlk, iOwn, iDots, iNe, iFr⟩ := h
    have hzw := iFr.size
    have hzd : wr.heap.size ≤ wd.heap.size := hF.size
    have jOwn : wr.drew.ownsRow W.heap.size 34 19 v ls.length (evItCells ls) := iOwn
    have bOwn := own_fr jOwn hF (by omega)
    have hal : Below wd.heap.size wd (wd.alloc (Obj.cells (evCells ev ae ce).toArray 34)) := (Below.refl _ _).alloc (Nat.le_refl _) _
    have bBlk := (iBlk.fr (S := isR R) (show Fr (isR R) wr wd from ⟨hF.os, hF.tape, hF.output, hF.size, hF.block⟩) (by simp only [isR]; omega)).below hal
    have cBlk := bBlk.grown hg (fun e => by have := (bOwn.lt _ e.symm).1; omega)
    have hdall : ∀ x ∈ ls ++ [(ev, ae, ce)], DotsIn wd x.2.1 x.1.over ∧ ∀ A off, x.2.1 = some ⟨A, off, none⟩ → x.1.over ≠ [] → W.heap.size ≤ A ∧ v.ownBlock ≠ some A := by
      intro x hx
      rcases List.mem_append.1 hx with hx | hx
      · refine ⟨(iDots x hx).keep (fun A off hA hne => hF.block A ?_ ?_), iNe x hx⟩
        · have h1 := iDots x hx; rw [hA] at h1; exact (show A < wr.heap.size from dotsIn_lt h1 hne)
        · have := (iNe x hx A off hA hne).1; simp only [isR]; omega
      · simp only [List.mem_singleton] at hx
        subst hx
        refine ⟨hde, fun A off hA hne => ⟨by have : wr.heap.size ≤ A := hae A off hA; omega, fun e => ?_⟩⟩
        have h1 : wr.heap.size ≤ A := hae A off hA
        have h2 := (iOwn.lt A e).2
        omega
    refine ⟨?_, cBlk.set4 v2, ?_, fun x hx => ?_, fun x hx A off hA hne => ?_, ?_⟩
    · exact ((hRd.below hal).grown hg (fun g hgg => by have := (bOwn.lt g hgg).1; omega)).keep (fun k hk => heap_setCell_other _ _ _ _ (fun e => by have : X = k := e; omega))
    · rw [evItCells_snoc, List.length_append]
      exact ownsRow_setCell_other (a := ⟨X, 4, none⟩) hO (fun e => by have := (hO.lt _ e).1; simp only at this; omega) v2
    · obtain ⟨h1, h2⟩ := hdall x hx
      refine (h1.kept hal).keep (fun A off hA hne => ?_)
      obtain ⟨h3, h4⟩ := h2 A off hA hne
      rw [heap_setCell_other _ _ _ _ (fun e => by have : X = A := e; omega)]
      refine hg.block A ?_ (fun e => h4 e.symm)
      rw [hA] at h1
      have := dotsIn_lt h1 hne
      have := hal.size
      omega
    · obtain ⟨h1, h2⟩ := hdall x hx
      obtain ⟨h3, h4⟩ := h2 A off hA hne
      refine ⟨h3, ?_⟩
      rcases hat with hat | hat
      · rw [hat]; exact h4
      · rw [hat]
        intro e
        injection e with e
        rw [hA] at h1
        have := dotsIn_lt h1 hne
        have := hal.size
        omega
    · have g1 : Fr (isRE R X) W wd := iFr.again (isR_RE (show Fr (isR R) wr wd from ⟨hF.os, hF.tape, hF.output, hF.size, hF.block⟩))
      have g2 := (g1.alloc (Obj.cells (evCells ev ae ce).toArray 34)).grown2 hg (fun k hk => (bOwn.lt k hk).1)
      exact Fr.setCell (p := ⟨X, 4, none⟩) g2 (Or.inr (Or.inr rfl)) _
  · exact Or.inr hv
set_option maxRecDepth 100000 in
set_option maxHeartbeats 8000000 in
theorem MsgParse_ok (a : Option Addr) (cap : Nat) (l : Bytes) (w : World) (hl : l.length ≤ 1073741824) (hcap : l.length ≤ cap) (h : BytesIn w a l) (hok : (frOne l).2 = 0) (hbl : (frOne l).1.length ≤ 1048576) :
    Calls Tryz.prog 38 #[.slice a l.length cap] w (RetMsg (msgParse l) w) := by
  obtain ⟨i0, hi, hz0, hz1, hz2⟩ := info_parts Tryz.infoEv
  have HV : Hid (msgParse l = msgRead (frOne l).1) := by unfold Hid msgParse; rw [if_pos hok]
  have HO0 := fun (W : World) (h : BytesIn W a l) => FrameOne_any a cap l W hl hcap h
  obtain ⟨b, e, hx⟩ : ∃ b e, frOne l = (b, e) := ⟨_, _, rfl⟩
  rw [hx] at HO0 HV hok hbl
  unfold RetOne at HO0
  simp only at HO0 HV hok hbl
  subst hok
  have HO := Lib.hid HO0
  -- the readers
  have f1 := rNum_fit 3 ⟨b, 0⟩
  have N1' : ∀ (R : Nat) (W : World), RdAt W R ⟨b, 0⟩ → Calls Tryz.prog 81 #[.pointer (some ⟨R, 0, none⟩), .int .u64 3] W (RetRd R (rNum 3 ⟨b, 0⟩).1 (.int .u64 (rNum 3 ⟨b, 0⟩).2) W) := fun (R : Nat) (W : World) (h : RdAt W R ⟨b, 0⟩) => Num_r R ⟨b, 0⟩ 3 W (by simp only; omega) (by omega) h
  obtain ⟨r1, k, h1⟩ : ∃ x y, rNum 3 ⟨b, 0⟩ = (x, y) := ⟨_, _, rfl⟩
  rw [h1] at f1 N1'
  simp only at f1 N1'
  have f2 := rNum_fit 63 r1
  have N2' : ∀ (R : Nat) (W : World), RdAt W R r1 → Calls Tryz.prog 81 #[.pointer (some ⟨R, 0, none⟩), .int .u64 63] W (RetRd R (rNum 63 r1).1 (.int .u64 (rNum 63 r1).2) W) := fun (R : Nat) (W : World) (h : RdAt W R r1) => Num_r R r1 63 W (by omega) (by omega) h
  obtain ⟨r2, f, h2⟩ : ∃ x y, rNum 63 r1 = (x, y) := ⟨_, _, rfl⟩
  rw [h2] at f2 N2'
  simp only at f2 N2'
  have f3 := rNum_fit 63 r2
  have N3' : ∀ (R : Nat) (W : World), RdAt W R r2 → Calls Tryz.prog 81 #[.pointer (some ⟨R, 0, none⟩), .int .u64 63] W (RetRd R (rNum 63 r2).1 (.int .u64 (rNum 63 r2).2) W) := fun (R : Nat) (W : World) (h : RdAt W R r2) => Num_r R r2 63 W (by omega) (by omega) h
  obtain ⟨r3, d, h3⟩ : ∃ x y, rNum 63 r2 = (x, y) := ⟨_, _, rfl⟩
  rw [h3] at f3 N3'
  simp only at f3 N3'
  have f4 := rMarks_fit r3
  have f4l := rMarks_len r3
  have N4' := fun (R : Nat) (W : World) (h : RdAt W R r3) => vecGet_r R r3 W (by omega) h
  obtain ⟨r4, mk, h4⟩ : ∃ x y, rMarks r3 = (x, y) := ⟨_, _, rfl⟩
  rw [h4] at f4 N4' f4l
  unfold RetMarks at N4'
  simp only at f4 N4' f4l
  have f5 := rNum_fit 256 r4
  have N5' : ∀ (R : Nat) (W : World), RdAt W R r4 → Calls Tryz.prog 81 #[.pointer (some ⟨R, 0, none⟩), .int .u64 256] W (RetRd R (rNum 256 r4).1 (.int .u64 (rNum 256 r4).2) W) := fun (R : Nat) (W : World) (h : RdAt W R r4) => Num_r R r4 256 W (by omega) (by omega) h
  obtain ⟨r5, N, h5⟩ : ∃ x y, rNum 256 r4 = (x, y) := ⟨_, _, rfl⟩
  rw [h5] at f5 N5'
  simp only at f5 N5'
  have HM : Hid (msgParse l = msgEnd k f d mk (rEvs N r5)) := by
    rw [Hid, HV.out]; unfold msgRead; simp only [h1, h2, h3, h4, h5]
  have N1 := Lib.hid N1'
  have N2 := Lib.hid N2'
  have N3 := Lib.hid N3'
  have N4 := Lib.hid N4'
  have N5 := Lib.hid N5'
  obtain ⟨bk, bb⟩ : k ≤ 3 ∧ f ≤ 63 := ⟨f1.2, f2.2⟩
  have bd := f3.2
  have bN := f5.2
  have l5 : r5.b.length ≤ 1048576 := by omega
  clear HO0 HV hx N1' N2' N3' N4' N5' h1 h2 h3 h4 h5 f1 f2 f3 f4 f5
  go_enter Tryz.func38, Tryz.ntmps38
  go_upto_region 1 with fail
  refine wp_name (fun W hW => ?_)
  have hbt : Below w.heap.size w W := by rw [hW.out]; exact (Below.refl _ _).alloc (Nat.le_refl _) _
  have hZ : MsgBlk W w.heap.size 0 0 0 none 0 0 (.slice none 0 0) := by rw [hW.out]; exact heap_alloc_last w _
  have hin := h.kept hbt
  clear hW h
  go_upto_region 4 with (go_at_call 80; (with_reducible refine (HO.out _ hin).mono ?_); rintro x w1 ⟨v, rfl, hown, hb⟩)
  obtain ⟨ab, cb, rfl, hinb⟩ := own_bytes hown
  have hcb := own_cap2 hown
  have hRP := Lib.hid (packRead_any ab cb b w1 hinb hcb)
  replace hZ := hZ.below hb
  replace hbt := below2 hbt hb
  have hZw := hZ.lt
  clear hb hown hin hinb HO
  go_upto_region 5 with (go_at_call 55; (with_reducible refine hRP.out.mono ?_); rintro x w2 ⟨rfl, hR2, hb2⟩)
  replace hZ := hZ.below hb2
  replace hbt := below2 hbt hb2
  have hRl := hR2.lt
  obtain ⟨R, hRR⟩ : ∃ R, R = w1.heap.size := ⟨_, rfl⟩
  rw [← hRR] at hR2 hZw hRl ⊢
  clear hRP hb2 hRR
  go_upto_region 6 with (first
    | (go_at_call 81; (with_reducible refine (N1.out _ _ hR2).mono ?_); rintro x w3 ⟨rfl, hR3, hF3⟩; clear hR2)
    | (go_at_call 81; (with_reducible refine (N2.out _ _ hR3).mono ?_); rintro x w4 ⟨rfl, hR4, hF4⟩; clear hR3)
    | (go_at_call 81; (with_reducible refine (N3.out _ _ hR4).mono ?_); rintro x w5 ⟨rfl, hR5, hF5⟩; clear hR4)
    | (refine wpList_store_new 78 _ _ _ (msgCells k f d none 0 0 (.slice none 0 0)) rfl rfl (by kernel_rfl) rfl (by kernel_rfl) ?_))
  have hF345 := (hF3.again hF4).again hF5
  have hz5 := hF345.size
  refine wp_name (fun W6 hW6 => ?_)
  have hb6 : Below w5.heap.size w5 W6 := by rw [hW6.out]; exact (Below.refl _ _).alloc (Nat.le_refl _) _
  have hX : MsgBlk W6 w5.heap.size k f d none 0 0 (.slice none 0 0) := by rw [hW6.out]; exact heap_alloc_last w5 _
  have hF6 := hF345.again (Fr.of_below hb6)
  have hR6 := hR5.below hb6
  have hXl := hX.lt
  obtain ⟨X, hXX⟩ : ∃ X, X = w5.heap.size := ⟨_, rfl⟩
  rw [← hXX] at hX hXl ⊢
  have hRX : R < X := by omega
  replace hZ := hZ.fr hF6 (by simp only [isR]; omega)
  replace hbt := hbt.trans (hF6.below (B := w.heap.size) (by omega) (fun k hk => by simp only [isR] at hk; omega))
  clear hW6 hb6 hF3 hF4 hF5 hF345 hR5 N1 N2 N3 hXX hz5 hF6
  have hfz := hX.free 3
  have hc3 := hX.cells.2.2.2.1
  go_upto_region 7 with (go_at_call 82; (with_reducible refine (N4.out _ _ hR6).mono ?_); rintro x w7 ⟨am, cm, rfl, hdm, hR7, hF7, hAm⟩; have hX7 := hX.fr hF7 (by simp only [isR]; omega); have hfz7 := hX7.free 3; have hc37 := hX7.cells.2.2.2.1)
  refine wp_name (fun W8 hW8 => ?_)
  have hX8 : MsgBlk W8 X k f d am mk.length cm (.slice none 0 0) := by rw [hW8.out]; exact hX7.set3 mk.length cm
  have hF8 : Fr (isRE R X) W6 W8 := by rw [hW8.out]; exact Fr.setCell (p := ⟨X, 3, none⟩) (isR_RE hF7) (Or.inr (Or.inr rfl)) _
  have hR8 : RdAt W8 R r4 := by rw [hW8.out]; exact hR7.keep (fun k hk => heap_setCell_other _ _ _ _ (fun e => by have : X = k := e; omega))
  have hdm8 : DotsIn W8 am mk := by rw [hW8.out]; exact hdm.keep (fun A off h _ => heap_setCell_other _ _ _ _ (fun e => by have := hAm A off h; have : X = A := e; omega))
  replace hZ := hZ.fr hF8 (by simp only [isRE]; omega)
  have hW6z := hbt.size
  replace hbt := hbt.trans (hF8.below (B := w.heap.size) hbt.size (fun k hk => by simp only [isRE] at hk; omega))
  have hAm8 : ∀ A off, am = some ⟨A, off, none⟩ → X < A := fun A off h => by have := hAm A off h; omega
  clear hW8 hX7 hfz7 hc37 hfz hc3 hF7 hR7 hdm hAm hF8 hX hR6 N4
  go_upto_region 8 with (go_at_call 81; (with_reducible refine (N5.out _ _ hR8).mono ?_); rintro x W9 ⟨rfl, hR9, hF9⟩)
  have hX9 := hX8.fr hF9 (by simp only [isR]; omega)
  have hdm9 : DotsIn W9 am mk := hdm8.keep (fun A off h hne => hF9.block A (by subst h; exact dotsIn_lt hdm8 hne) (by simp only [isR]; have := hAm8 A off h; omega))
  replace hZ := hZ.fr hF9 (by simp only [isR]; omega)
  replace hbt := hbt.trans (hF9.below (B := w.heap.size) hbt.size (fun k hk => by simp only [isR] at hk; omega))
  clear hX8 hdm8 hF9 hR8 N5
  have hEr := Lib.hid (fun (rr : Rd) (W : World) (h : RdAt W R rr) => Err_r R rr W h)
  have hEg := Lib.hid (fun (rr : Rd) (W : World) (hl : rr.b.length ≤ 1073741824) (h : RdAt W R rr) => evGet_r R rr W hl h)
  have hX9l := hX9.lt
  have hI0 : PInv W9 W9 R X k f d am mk.length cm r5 [] (.slice none 0 0) := ⟨hR9, hX9, World.ownsRow_nil _ _ _ _, fun x hx => by simp at hx, fun x hx => by simp at hx, Fr.refl _ _⟩
  go_loopw [8] (fun n wr => ∃ (m : Nat) (rr : Rd) (ls : List EvIt) (v : Value), n = .int .u64 m ∧ m + ls.length ≤ 256 ∧ rr.b.length ≤ 1048576 ∧ EvsSmall ls ∧ PInv W9 wr R X k f d am mk.length cm rr ls v ∧ rEvs N r5 = ((rEvs m rr).1, evsOf ls ++ (rEvs m rr).2)) (fun n _ => (intOf n).toNat)
  case atStart => exact ⟨N, r5, [], _, rfl, by simp; omega, l5, fun x hx => by simp at hx, hI0, by simp [evsOf]⟩
  case round =>
    obtain ⟨m, rr, ls, v, rfl, hmn, hrl, hsm, hI, hpre⟩ := hrel
    have HP := Lib.hid hpre
    clear hpre hI0
    have hzw := hI.fr.size
    have HE := Lib.hid (fun (Y : World) (h : RdAt Y R rr) => hEr.out rr Y h)
    by_cases hgo : 0 < m ∧ rr.e = 0
    · obtain ⟨hm0, he0⟩ := hgo
      obtain ⟨j, rfl⟩ : ∃ j, m = j + 1 := ⟨m - 1, by omega⟩
      have hq : (rr.e == 0) = true := beq_iff_eq.2 he0
      have hdm1 : decide (0 < j + 1) = true := by simp
      have hdi : decide ((0 : Int) < ((j : Nat) : Int) + 1) = true := decide_eq_true (by omega)
      have hf := rEv_fit rr
      have hsv := rEv_small rr
      have HS : Hid (rEvs N r5 = ((rEvs j (rEv rr).1).1, (evsOf ls ++ [(rEv rr).2]) ++ (rEvs j (rEv rr).1).2)) := by rw [Hid, HP.out, rEvs_next he0]; simp
      have HG0 := hEg.out rr
      obtain ⟨r2', ev, hrd⟩ : ∃ r2 d, rEv rr = (r2, d) := ⟨_, _, rfl⟩
      rw [hrd] at HG0 HS hf hsv
      simp only at HG0 HS hf hsv
      have HG := Lib.hid (fun (Y : World) (h : RdAt Y R rr) => HG0 Y (by omega) h)
      clear hrd HG0 HP he0 hm0
      have iRd := hI.rd
      have iBlk := hI.blk
      have iOwn := hI.own
      have HI := Lib.hid hI
      clear hI
      go_upto_region 10 with (go_at_call 83; (with_reducible refine (HE.out _ iRd).mono ?_); rintro x w10 ⟨rfl, rfl⟩)
      have jRd : RdAt wr.drew R rr := iRd.below (Below.refl _ _).drew
      have jBlk : MsgBlk wr.drew X k f d am mk.length cm v := iBlk
      have jOwn : wr.drew.ownsRow W9.heap.size 34 19 v ls.length (evItCells ls) := iOwn
      have p4 := jBlk.cells.2.2.2.2
      have y4 := jBlk.free 4
      clear iRd HE
      go_region_law
        (first
          | (go_simp; go_at_call 56; (with_reducible refine (HG.out _ jRd).mono ?_); rintro x wd ⟨ae, ce, rfl, hde, hRd2, hFd, hae⟩; have bBlk := jBlk.fr hFd (by simp only [isR]; omega); have k4 := bBlk.cells.2.2.2.2; have z4 := bBlk.free 4; have k4a := fun o => kept ((Below.refl wd.heap.size wd).alloc (Nat.le_refl _) o) k4; have z4a := fun o => (bBlk.below ((Below.refl wd.heap.size wd).alloc (Nat.le_refl _) o)).free 4; have bOwn := own_fr jOwn hFd (by omega); have hzd : W9.heap.size ≤ wd.heap.size := Nat.le_trans hzw hFd.size)
          | (refine step_append_own_at rfl _ _ 76 rfl W9.heap.size 34 i0 (.agg (evCells ev0 none 0).toArray) 19 176 Tryz.underlying76 hi hz0 hz1 hz2 rfl (by decide) _ _ _ rfl (bOwn.alloc _) ⟨wd.heap.size, 0, none⟩ 1 1 (evCells ev ae ce) rfl rfl (evs_new wd ev ae ce _) (evCells_one _ _ _) (by unfold maxLen; omega) (by omega) (Nat.le_trans hzd (by simp)) ?_; intro v' wf hOwnf hgf hatf; obtain ⟨ad', cap', rfl⟩ := own_shape hOwnf; have cBlk := (bBlk.below ((Below.refl wd.heap.size wd).alloc (Nat.le_refl _) (Obj.cells (evCells ev ae ce).toArray 34))).grown hgf (fun h => by have := (bOwn.lt _ h.symm).1; omega); have p4f := cBlk.cells.2.2.2.2; have x4f := cBlk.free 4))
      all_goals
        rcases HI.out.next hRX hX9l hRd2 hFd hde hae hOwnf hgf hatf (.slice ad' (ls.length + 1) cap') with hI2 | hI2
        · have hs2 : EvsSmall (ls ++ [(ev, ae, ce)]) := by
            intro x hx
            rcases List.mem_append.1 hx with hx | hx
            · exact hsm x hx
            · simp only [List.mem_singleton] at hx; subst hx; exact hsv
          have hev2 : evsOf (ls ++ [(ev, ae, ce)]) = evsOf ls ++ [ev] := by simp [evsOf]
          have hwr : IntKind.u64.wrap (((j : Nat) : Int) + 1 - 1) = ((j : Nat) : Int) := by rw [show ((j : Nat) : Int) + 1 - 1 = j by omega]; exact IntWalk.u64_in _ (by omega)
          have HEV := Lib.hid hev2
          clear hev2 hOwnf cBlk p4f x4f hgf hatf k4 z4 k4a z4a bOwn bBlk jOwn jBlk jRd p4 y4 iBlk iOwn
          go_wp2
          go_roundw
          case rel => exact ⟨j, r2', ls ++ [(ev, ae, ce)], _, by go_num, by simp; omega, by omega, hs2, hI2, by rw [HEV.out]; exact HS.out⟩
          case measure => simp [intOf]
        · exact absurd rfl hI2
    · have hend : rEvs m rr = (rr, []) := by
        by_cases h0 : m = 0
        · subst h0; rfl
        · exact rEvs_err (fun e => hgo ⟨by omega, e⟩)
      have HQ : Hid (msgParse l = msgEnd k f d mk (rr, evsOf ls)) := by rw [Hid, HM.out, HP.out, hend]; simp
      have hRdr := hI.rd
      have hXr := hI.blk
      obtain ⟨ax, cx, hvx, hin⟩ := evsIn_own hI.own hI.dots
      subst hvx
      have hFr := hI.fr
      have hdmr : DotsIn wr am mk := hdm9.keep (fun A off h hne => hFr.block A (by subst h; exact dotsIn_lt hdm9 hne) (by simp only [isRE]; have := hAm8 A off h; omega))
      replace hZ := hZ.fr hFr (by simp only [isRE]; omega)
      replace hbt := hbt.trans (hFr.below (B := w.heap.size) hbt.size (fun k hk => by simp only [isRE] at hk; omega))
      have hnew : ∀ x ∈ ls, ∀ A off, x.2.1 = some ⟨A, off, none⟩ → x.1.over ≠ [] → w.heap.size < A := fun x hx A off h1 h2 => by have := (hI.ne x hx A off h1 h2).1; omega
      have hnewx : ∀ A off, ax = some ⟨A, off, none⟩ → ls ≠ [] → w.heap.size < A := by
        intro A off h1 h2
        rcases hI.own.2 with ⟨_, hn⟩ | ⟨g, cap, cur, hv, hg, _⟩
        · exact absurd (List.length_eq_zero_iff.1 hn) h2
        · simp only [Value.slice.injEq] at hv
          rw [h1] at hv
          have : A = g := by have h5 := hv.1; simp at h5; exact h5.1
          omega
      have hls : ls.length ≤ 256 := by omega
      have hEn := Lib.hid (fun (Y : World) (h : RdAt Y R rr) => End_r R rr Y h (by omega))
      have hXc := hXr.cells
      obtain ⟨y0, y1, y2, y3, y4⟩ := hXc
      by_cases hcase : 0 < m
      · have he : rr.e ≠ 0 := fun e => hgo ⟨hcase, e⟩
        have q1 : (rr.e == 0) = false := beq_eq_false_iff_ne.2 he
        have d1 := decide_eq_true hcase
        have d2 : decide ((0 : Int) < (m : Int)) = true := decide_eq_true (by omega)
        have hre : rEnd rr ≠ 0 := by unfold rEnd; rw [if_neg he]; exact he
        have HQ2 : Hid (msgParse l = (msg0, rEnd rr)) := by rw [Hid, HQ.out]; unfold msgEnd; rw [if_neg hre]
        have q2 : (rEnd rr != 0) = true := by rw [bne_iff_ne]; exact hre
        clear HQ hend hgo HP HM he hre hI hcase
        generalize rEnd rr = er at hEn q2 HQ2
        go_wp2_with (first
          | (go_at_call 83; (with_reducible refine (HE.out _ hRdr).mono ?_); rintro x w11 ⟨rfl, rfl⟩)
          | (go_at_call 57; (with_reducible refine (hEn.out _ hRdr).mono ?_); rintro x w12 ⟨rfl, rfl⟩)
          | (refine wpList_store_row rfl 78 _ _ rfl w.heap.size msgZero rfl rfl 78 (msgCells 0 0 0 none 0 0 (.slice none 0 0)) hZ (by kernel_rfl) rfl (by kernel_rfl) ?_)
          )
        refine ret_cell_tmp 2 3 78 78 w.heap.size msgZero _ (.int .i64 er) rfl rfl rfl (setRow_heap _ _ _ _ _ _ hZ) Tryz.underlying78 rfl (by kernel_rfl) rfl ?_
        rw [HQ2.out]
        exact ⟨mit0, rfl, mit0_msg, mit0_in _, below_setRow hbt (Nat.le_refl _) _⟩
      · have d1 := decide_eq_false hcase
        have d2 : decide ((0 : Int) < (m : Int)) = false := decide_eq_false (by omega)
        by_cases hre : rEnd rr = 0
        · have hsms : MsgSmall ⟨k, f, d, mk, am, cm, ls, ax, cx⟩ := ⟨by simp only; omega, by simp only; omega, hsm⟩
          have HRt := Lib.hid (fun (Y : World) (h1 : DotsIn Y am mk) (h2 : EvsIn Y ax ls) => MsgRight_any ⟨k, f, d, mk, am, cm, ls, ax, cx⟩ Y hsms ⟨h1, h2⟩)
          have q2 : (rEnd rr != 0) = false := by rw [bne_eq_false_iff_eq]; exact hre
          have HQ1 : Hid (msgParse l = if msgOk ⟨k, f, d, mk, evsOf ls⟩ = true then (⟨k, f, d, mk, evsOf ls⟩, 0) else (msg0, 1)) := by rw [Hid, HQ.out]; unfold msgEnd; rw [if_pos hre]
          have hpos : w.heap.size < wr.heap.size := hZ.lt
          obtain ⟨ok, hokk⟩ : ∃ ok, msgOk ⟨k, f, d, mk, evsOf ls⟩ = ok := ⟨_, rfl⟩
          have HR0 := HRt.out
          rw [show msgOk (MsgIt.msg ⟨k, f, d, mk, am, cm, ls, ax, cx⟩) = ok from hokk] at HR0
          rw [hokk] at HQ1
          rw [hre] at hEn
          clear HQ hend hgo HP HM hre hI hcase HRt hokk hsms
          cases ok with
          | false =>
            have HR := Lib.hid (show ∀ (Y : World), DotsIn Y am mk → EvsIn Y ax ls → Calls Tryz.prog 37 #[.agg #[.int .i64 k, .int .i64 f, .int .i64 d, .slice am mk.length cm, .slice ax ls.length cx]] Y (fun x w' => x = .returned (.bool false) ∧ Below Y.heap.size Y w') from HR0)
            have HQ2 : Hid (msgParse l = (msg0, 1)) := by rw [Hid, HQ1.out]; rfl
            clear HR0 HQ1
            go_wp2_with (first
              | (go_at_call 57; (with_reducible refine (hEn.out _ hRdr).mono ?_); rintro x w12 ⟨rfl, rfl⟩)
              | (go_at_call 37; (with_reducible refine (HR.out _ hdmr hin).mono ?_); rintro x w13 ⟨rfl, hb13⟩; replace hZ := hZ.below hb13; replace hbt := below2 hbt hb13)
              | (refine wpList_store_row rfl 78 _ _ rfl w.heap.size msgZero rfl rfl 78 (msgCells 0 0 0 none 0 0 (.slice none 0 0)) hZ (by kernel_rfl) rfl (by kernel_rfl) ?_)
              )
            refine ret_cell_tmp 2 3 78 78 w.heap.size msgZero _ (.int .i64 1) rfl rfl rfl (setRow_heap _ _ _ _ _ _ hZ) Tryz.underlying78 rfl (by kernel_rfl) rfl ?_
            rw [HQ2.out]
            exact ⟨mit0, rfl, mit0_msg, mit0_in _, below_setRow hbt (Nat.le_refl _) _⟩
          | true =>
            have HR := Lib.hid (show ∀ (Y : World), DotsIn Y am mk → EvsIn Y ax ls → Calls Tryz.prog 37 #[.agg #[.int .i64 k, .int .i64 f, .int .i64 d, .slice am mk.length cm, .slice ax ls.length cx]] Y (fun x w' => x = .returned (.bool true) ∧ Below Y.heap.size Y w') from HR0)
            have HQ2 : Hid (msgParse l = (⟨k, f, d, mk, evsOf ls⟩, 0)) := by rw [Hid, HQ1.out]; rfl
            clear HR0 HQ1
            go_wp2_with (first
              | (go_at_call 57; (with_reducible refine (hEn.out _ hRdr).mono ?_); rintro x w12 ⟨rfl, rfl⟩)
              | (go_at_call 37; (with_reducible refine (HR.out _ hdmr hin).mono ?_); rintro x w13 ⟨rfl, hb13⟩; replace hZ := hZ.below hb13; replace hbt := below2 hbt hb13; replace hdmr := hdmr.kept hb13; replace hin := hin.kept hb13; replace y0 := kept hb13 y0; replace y1 := kept hb13 y1; replace y2 := kept hb13 y2; replace y3 := kept hb13 y3; replace y4 := kept hb13 y4)
              | (refine wpList_store_row rfl 78 _ _ rfl w.heap.size (msgCells k f d am mk.length cm (.slice ax ls.length cx)) rfl rfl 78 (msgCells 0 0 0 none 0 0 (.slice none 0 0)) hZ (by kernel_rfl) rfl (by kernel_rfl) ?_)
              )
            refine ret_cell_tmp 2 3 78 78 w.heap.size (msgCells k f d am mk.length cm (.slice ax ls.length cx)) _ (.int .i64 0) rfl rfl rfl (setRow_heap _ _ _ _ _ _ hZ) Tryz.underlying78 rfl (by kernel_rfl) rfl ?_
            rw [HQ2.out]
            refine ⟨⟨k, f, d, mk, am, cm, ls, ax, cx⟩, rfl, rfl, ⟨?_, ⟨?_, ?_⟩⟩, below_setRow hbt (Nat.le_refl _) _⟩
            · exact hdmr.keep (fun A off h _ => heap_setRow_other _ _ _ _ (by have := hAm8 A off h; omega))
            · rcases hin.rows with h0 | ⟨A, off, hA, hr⟩
              · exact Or.inl h0
              · refine Or.inr ⟨A, off, hA, fun i hi j u hu => ?_⟩
                have hne : ls ≠ [] := fun e => by rw [e] at hi; simp at hi
                have := hnewx A off hA hne
                exact (World.cell?_of_block (heap_setRow_other _ _ _ A (Nat.ne_of_lt this))).trans (hr i hi j u hu)
            · exact fun x hx => (hin.dots x hx).keep (fun A off h1 h2 => heap_setRow_other _ _ _ _ (by have := hnew x hx A off h1 h2; omega))
        · have q2 : (rEnd rr != 0) = true := by rw [bne_iff_ne]; exact hre
          have HQ2 : Hid (msgParse l = (msg0, rEnd rr)) := by rw [Hid, HQ.out]; unfold msgEnd; rw [if_neg hre]
          clear HQ hend hgo HP HM hre hI hcase
          generalize rEnd rr = er at hEn q2 HQ2
          go_wp2_with (first
            | (go_at_call 57; (with_reducible refine (hEn.out _ hRdr).mono ?_); rintro x w12 ⟨rfl, rfl⟩)
            | (refine wpList_store_row rfl 78 _ _ rfl w.heap.size msgZero rfl rfl 78 (msgCells 0 0 0 none 0 0 (.slice none 0 0)) hZ (by kernel_rfl) rfl (by kernel_rfl) ?_)
            )
          refine ret_cell_tmp 2 3 78 78 w.heap.size msgZero _ (.int .i64 er) rfl rfl rfl (setRow_heap _ _ _ _ _ _ hZ) Tryz.underlying78 rfl (by kernel_rfl) rfl ?_
          rw [HQ2.out]
          exact ⟨mit0, rfl, mit0_msg, mit0_in _, below_setRow hbt (Nat.le_refl _) _⟩
theorem MsgParse_any (a : Option Addr) (cap : Nat) (l : Bytes) (w : World) (hl : l.length ≤ 1073741824) (hcap : l.length ≤ cap) (h : BytesIn w a l) :
    Calls Tryz.prog 38 #[.slice a l.length cap] w (RetMsg (msgParse l) w) := by
  by_cases hok : (frOne l).2 = 0
  · refine MsgParse_ok a cap l w hl hcap h hok ?_
    unfold frOne
    have := frGet_fit l
    split
    · split
      · simp
      · simp only; omega
    · simp
  · exact MsgParse_bad a cap l w hl hcap h hok
end Go.Proofs.YtnpdfmpjjomhcaaGreat
