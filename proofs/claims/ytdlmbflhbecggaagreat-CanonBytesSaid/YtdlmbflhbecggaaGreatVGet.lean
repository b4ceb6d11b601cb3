/- Marks, read. Conditions: at most 2^30 bytes. -/
import Derived.Test.YtdlmbflhbecggaaGreatReadK
import Derived.Test.YtdlmbflhbecggaaGreatMark
import Derived.Test.YtdlmbflhbecggaaGreatFrameP
import Derived.Test.YtdlmbflhbecggaaGreatClone
import Derived.Great.BuildSlice
set_option linter.unusedSimpArgs false
set_option linter.unusedVariables false
set_option linter.unnecessarySimpa false
set_option maxHeartbeats 16000000
set_option maxRecDepth 100000
namespace Go.Proofs.YtdlmbflhbecggaaGreat
open Go.RowKit
/-- marks, read -/
def kw (y : Rd × List Dot) : Rd × List Dot := if y.1.e = 0 then (if bf y.2 = 0 then y else (gZ y.1 (bf y.2), [])) else (y.1, [])
def jU (r : Rd) : Rd × List Dot := kw (dP (bW 4096 r).2 (bW 4096 r).1)
theorem Gy (r : Rd) : (jU r).1.b.length ≤ r.b.length := by
 have h1 := (dE 4096 r).1
 have h2 := uV (bW 4096 r).2 (bW 4096 r).1
 unfold jU kw
 split
 ·split
  ·omega
  ·unfold gZ; split <;> simp only <;> omega
 ·simp only; omega
def FY (R : Nat) (y : Rd × List Dot) (w : World) (x : Ending) (w' : World) : Prop :=
 ∃ a cap, x = .returned (.slice a y.2.length cap) ∧ DotsIn w' a y.2 ∧ RdAt w' R y.1 ∧ Fr (isR R) w w' ∧ (∀ A off, a = some ⟨A, off, none⟩ → w.heap.size ≤ A)
theorem Tryz.infoMark : (Tryz.prog.info? 113).map (fun i => (i.zero, i.size, i.bytes)) = some (some (.agg #[.int .i64 0, .int .i64 0, .int .i64 0]), 3, 24) := by kernel_rfl
theorem zY {w : World} {base : Nat} {t : TypeId} {v : Value} {l : List Dot} (h : w.ownsRow base t 3 v l.length (aI l)) : ∃ a cap, v = .slice a l.length cap ∧ DotsIn w a l ∧ (∀ A off, a = some ⟨A, off, none⟩ → base ≤ A) := by
 rcases h.2 with ⟨rfl, hn⟩ | ⟨g, cap, cur, rfl, hb, rest⟩
 ·exact ⟨none, 0, by rw [hn], Or.inl (List.length_eq_zero_iff.1 hn), fun _ _ h => by cases h⟩
 ·refine ⟨some ⟨g, 0, none⟩, cap, rfl, Or.inr ⟨g, 0, rfl, ?_⟩, fun A off e => by cases e; exact hb⟩
  have hc := World.ownsRow.cells (g := g) h rfl
  have key : ∀ j u, (aI l)[j]? = some u → w.cell? ⟨g, j, none⟩ = some u := fun j u hu => by
   have := hc j u hu
   rwa [Addr.add_mid, Nat.zero_add] at this
  refine ⟨fun i hi => ?_, fun i hi => ?_, fun i hi => ?_⟩
  ·have := key _ _ (gQ l i hi).1; simpa using this
  ·have := key _ _ (gQ l i hi).2.1; simpa using this
  ·have := key _ _ (gQ l i hi).2.2; simpa using this
theorem rW (l : List Dot) (d : Dot) : aI l ++ [.int .i64 d.a.dev, .int .i64 d.a.inc, .int .i64 d.seq] = aI (l ++ [d]) := by simp [aI]
theorem z101 {p : Prop} (h : p := by
 go_wp2_with (go_at_call 21; (with_reducible refine (HE.out _ hRd).mono ?_); rintro v w2 ⟨rfl, rfl⟩)
 go_ret
 rw [HQ3.out]
 exact ⟨none, 0, rfl, Or.inl rfl, hRd, hFF, fun A off h => by cases h⟩) : p := h
theorem y34 {p q : Prop} (k : q) (h : PLift q → p := by
 intro kk
 have hdi : decide ((0 : Int) < ((j : Nat) : Int) + 1) = true := decide_eq_true (by omega)
 have hwr : IntKind.u64.wrap (((j : Nat) : Int) + 1 - 1) = ((j : Nat) : Int) := by rw [show ((j : Nat) : Int) + 1 - 1 = j by omega]; exact IntWalk.u64_in _ (by omega)
 revert hdi hwr
 exact kk.down) : p := h ⟨k⟩
theorem Lj (R : Nat) (r : Rd) (w : World) (hl : r.b.length ≤ 1073741824) (h : RdAt w R r) :
 Calls Tryz.prog 19 #[.pointer (some ⟨R, 0, none⟩)] w (FY R (jU r) w) := by
 obtain ⟨i0, hi, hz0, hz1, hz2⟩ := info_parts Tryz.infoMark
 have hfit := dE 4096 r
 have HN0 := oL R r 4096 w hl (by omega) h
 have HV : Hid (jU r = kw (dP (bW 4096 r).2 (bW 4096 r).1)) := rfl
 obtain ⟨x, N, hx⟩ : ∃ x N, bW 4096 r = (x, N) := ⟨_, _, rfl⟩
 rw [hx] at hfit HN0 HV
 simp only at hfit HN0 HV
 obtain ⟨hxl, hN⟩ := hfit
 have HN : Hid (Calls Tryz.prog 20 #[.pointer (some ⟨R, 0, none⟩), .int .u64 4096] w (iQ R x (.int .u64 N) w)) := HN0
 have HEr := Lib.hid (fun (rr : Rd) (W : World) (h : RdAt W R rr) => Ce R rr W h)
 have HDg := Lib.hid (fun (rr : Rd) (W : World) (hl : rr.b.length ≤ 1073741824) (h : RdAt W R rr) => uF R rr W hl h)
 have hR := h.lt
 clear hx HN0 h
 go_enter Tryz.func19, Tryz.ntmps19
 go_upto_region 3 with (go_at_call 20; (with_reducible refine HN.out.mono ?_); rintro v W ⟨rfl, hRx, hFx⟩)
 have hzW := hFx.size
 clear HN
 go_wp2
 go_loopw [3, 4] (fun out n wr => ∃ (m : Nat) (rr : Rd) (ls : List Dot), n = .int .u64 m ∧ m + ls.length ≤ 4096 ∧ rr.b.length ≤ 1073741824 ∧ wr.ownsRow W.heap.size 113 3 out ls.length (aI ls) ∧ RdAt wr R rr ∧ Fr (isR R) W wr ∧ dP N x = ((dP m rr).1, ls ++ (dP m rr).2)) (fun _ n _ => (intOf n).toNat)
 case atStart => exact ⟨N, x, [], rfl, by simp; omega, by omega, World.ownsRow_nil _ _ _ _, hRx, Fr.refl _ _, by simp⟩
 case round =>
  obtain ⟨m, rr, ls, rfl, hmn, hrl, hown, hRd, hF, hpre⟩ := hrel
  have HP := Lib.hid hpre
  clear hpre
  have hzw := hF.size
  by_cases hgo : 0 < m ∧ rr.e = 0
  ·obtain ⟨hm0, he0⟩ := hgo
   obtain ⟨j, rfl⟩ : ∃ j, m = j + 1 := ⟨m - 1, by omega⟩
   have hq : (rr.e == 0) = true := beq_iff_eq.2 he0
   have hdm : decide (0 < j + 1) = true := by simp
   refine y34 ?_
   intro hdi hwr
   have hf := og rr
   have HS : Hid (dP N x = ((dP j (iL rr).1).1, (ls ++ [(iL rr).2]) ++ (dP j (iL rr).1).2)) := by rw [Hid, HP.out, yN he0]; simp
   have HG0 := HDg.out rr
   obtain ⟨r2, d, hrd⟩ : ∃ r2 d, iL rr = (r2, d) := ⟨_, _, rfl⟩
   rw [hrd] at HG0 HS hf
   simp only at HG0 HS hf
   have HG := Lib.hid (fun (X : World) (h : RdAt X R rr) => HG0 X hrl h)
   have HE := Lib.hid (fun (X : World) (h : RdAt X R rr) => HEr.out rr X h)
   clear hrd HG0 HP he0 hm0
   go_upto_region 6 with (first
        | (go_at_call 21; (with_reducible refine (HE.out _ hRd).mono ?_); rintro v w2 ⟨rfl, rfl⟩)
        | (go_at_call 23; (with_reducible refine (HG.out _ hRd).mono ?_); rintro v wd ⟨rfl, hR2, hF2⟩))
   refine aX (fun W1 hW1 => ?_)
   have hb1 : Below wd.heap.size wd W1 := by rw [hW1.out]; go_grown
   have x0 : W1.cell? ⟨wd.heap.size, 0, none⟩ = some (.int .i64 d.a.dev) := by rw [hW1.out]; go_simp
   have x1 : W1.cell? ⟨wd.heap.size, 1, none⟩ = some (.int .i64 d.a.inc) := by rw [hW1.out]; go_simp
   have x2 : W1.cell? ⟨wd.heap.size, 2, none⟩ = some (.int .i64 d.seq) := by rw [hW1.out]; go_simp
   have hown1 := ownsRow_below (yT hown hF2 (by omega)) hb1
   have hR3 := hR2.below hb1
   have hF3 := (hF.again hF2).again (Fr.of_below hb1)
   have TD := hF3.size
   clear hW1 hb1 hown hR2 hF2 hRd hF HE HG
   go_wp2_with (at_builtin; go_loud (refine wpList_append_own _ rfl _ _ 28 rfl W.heap.size 113 i0 (.agg #[.int .i64 0, .int .i64 0, .int .i64 0]) 3 24 Tryz.underlying28 hi hz0 hz1 hz2 rfl (by decide) _ _ _ rfl (hown1.alloc _) ⟨W1.heap.size, 0, none⟩ 1 1 [.int .i64 d.a.dev, .int .i64 d.a.inc, .int .i64 d.seq] rfl rfl (Po W1 d _) (by simp [Value.oneCell']) (by unfold maxLen; omega) (by omega) (by simp; omega) ?_))
   intro v' w5 hown5 hg5 _
   rw [rW] at hown5
   have hR5 := (hR3.below ((Below.refl _ _).alloc (Nat.le_refl _) _)).grown hg5 (fun g hg => by have := (hown1.lt g hg).1; omega)
   have hF5 := (hF3.alloc (Obj.cells #[.int .i64 d.a.dev, .int .i64 d.a.inc, .int .i64 d.seq] 113)).grown hg5 (fun g hg => (hown1.lt g hg).1)
   go_wp2
   go_roundw
   case rel => exact ⟨j, r2, ls ++ [d], by go_num, by simp; omega, by omega, by rw [List.length_append]; exact hown5, hR5, hF5, HS.out⟩
   case measure => simp [intOf]
  ·have hend : dP m rr = (rr, []) := by
        by_cases h0 : m = 0
        ·subst h0; rfl
        ·exact Bl (fun e => hgo ⟨by omega, e⟩)
   have HQ : Hid (jU r = kw (rr, ls)) := by rw [Hid, HV.out, HP.out, hend]; simp
   have HE := Lib.hid (fun (X : World) (h : RdAt X R rr) => HEr.out rr X h)
   have hlen : ls.length ≤ 4096 := by omega
   obtain ⟨ao, co, hvo, hdo, hao⟩ := zY hown
   have HVO := Lib.hid hvo
   have hFF := hFx.again hF
   by_cases he : rr.e = 0
   ·have hm0 : m = 0 := by
     by_cases h0 : m = 0
     ·exact h0
     ·exact absurd ⟨by omega, he⟩ hgo
    subst hm0
    have q1 : (rr.e == 0) = true := beq_iff_eq.2 he
    have q2 : (rr.e != 0) = false := by rw [bne_eq_false_iff_eq]; exact he
    have HQ2 : Hid (jU r = if bf ls = 0 then (rr, ls) else (gZ rr (bf ls), [])) := by rw [Hid, HQ.out]; unfold kw; simp only; rw [if_pos he]
    have La := fun (X : World) (c : Nat) (h : DotsIn X ao ls) => lS ao c ls X (by omega) h
    by_cases hme : bf ls = 0
    ·have HQ3 : Hid (jU r = (rr, ls)) := by rw [Hid, HQ2.out, if_pos hme]
     rw [hme] at La
     have HCK := Lib.hid La
     clear HQ HQ2 La hme hend hgo he hvo hrl HP HV
     rw [HVO.out]
     go_wp2_with (first
      | (go_at_call 21; (with_reducible refine (HE.out _ hRd).mono ?_); rintro v w2 ⟨rfl, rfl⟩)
      | (go_at_call 57; (with_reducible refine (HCK.out _ _ hdo).mono ?_); rintro v w3 ⟨rfl, hb3⟩; replace hRd := hRd.below hb3; replace hFF := hFF.again (Fr.of_below hb3); replace hdo := hdo.kept hb3))
     go_ret
     rw [HQ3.out]
     exact ⟨ao, co, rfl, hdo, hRd, hFF, fun A off h => Nat.le_trans hzW (hao A off h)⟩
    ·have HQ3 : Hid (jU r = (gZ rr (bf ls), [])) := by rw [Hid, HQ2.out, if_neg hme]
     have Oj := fun (X : World) (h : RdAt X R rr) => sW R rr (bf ls) X h
     have hfe : (gZ rr (bf ls)).e = bf ls := by unfold gZ; rw [if_pos he]
     have NE := fun (X : World) (h : RdAt X R (gZ rr (bf ls))) => HEr.out _ X h
     rw [hfe] at NE
     obtain ⟨me, QT⟩ : ∃ me, me = bf ls := ⟨_, rfl⟩
     obtain ⟨r3, hr3⟩ : ∃ r3, r3 = gZ rr (bf ls) := ⟨_, rfl⟩
     rw [← hr3] at HQ3 Oj NE
     rw [← QT] at La Oj NE hme
     have HCK := Lib.hid La
     have HFl := Lib.hid Oj
     have HE2 := Lib.hid NE
     have q3 : (me == 0) = false := beq_eq_false_iff_ne.2 hme
     have q4 : (me != 0) = true := by rw [bne_iff_ne]; exact hme
     clear HQ HQ2 La hme hend hgo he hvo hrl HP HV Oj hfe NE QT hr3
     rw [HVO.out]
     go_wp2_with (first
      | (go_at_call 21; (with_reducible refine (HE.out _ hRd).mono ?_); rintro v w2 ⟨rfl, rfl⟩)
      | (go_at_call 57; (with_reducible refine (HCK.out _ _ hdo).mono ?_); rintro v w3 ⟨rfl, hb3⟩; replace hRd := hRd.below hb3; replace hFF := hFF.again (Fr.of_below hb3); replace hdo := hdo.kept hb3)
      | (go_at_call 58; (with_reducible refine (HFl.out _ hRd).mono ?_); rintro v w4 ⟨rfl, hR4, hF4⟩; replace hFF := hFF.again hF4; clear hRd)
      | (go_at_call 21; (with_reducible refine (HE2.out _ hR4).mono ?_); rintro v w5 ⟨rfl, rfl⟩))
     go_ret
     rw [HQ3.out]
     exact ⟨none, 0, rfl, Or.inl rfl, hR4, hFF, fun A off h => by cases h⟩
   ·have q1 : (rr.e == 0) = false := beq_eq_false_iff_ne.2 he
    have q2 : (rr.e != 0) = true := by rw [bne_iff_ne]; exact he
    have HQ3 : Hid (jU r = (rr, [])) := by rw [Hid, HQ.out]; unfold kw; simp only; rw [if_neg he]
    clear HQ hend hgo he hvo hrl HP HV
    by_cases h0 : 0 < m
    ·have d1 := decide_eq_true h0
     have d2 : decide ((0 : Int) < (m : Int)) = true := decide_eq_true (by omega)
     exact z101
    ·have d1 := decide_eq_false h0
     have d2 : decide ((0 : Int) < (m : Int)) = false := decide_eq_false (by omega)
     exact z101
/-- n events, one behind the other, till an error -/
def ng : Nat → Rd → Rd × List Ev
 | 0, r => (r, [])
 | n + 1, r => if r.e = 0 then ((ng n (rEv r).1).1, (rEv r).2 :: (ng n (rEv r).1).2) else (r, [])
theorem Eu : ∀ (n : Nat) (r : Rd), (ng n r).1.b.length ≤ r.b.length
 | 0, r => Nat.le_refl _
 | n + 1, r => by
   unfold ng
   split
   ·exact Nat.le_trans (Eu n _) (II r)
   ·exact Nat.le_refl _
theorem LD {m : Nat} {r : Rd} (h : r.e ≠ 0) : ng m r = (r, []) := by
 cases m with
 | zero => rfl
 | succ m => unfold ng; rw [if_neg h]
theorem JB {m : Nat} {r : Rd} (h : r.e = 0) : ng (m + 1) r = ((ng m (rEv r).1).1, (rEv r).2 :: (ng m (rEv r).1).2) := by
 rw [ng, if_pos h]
theorem Bj : ∀ (n : Nat) (r : Rd), (dP n r).2.length ≤ n
 | 0, r => Nat.le_refl _
 | n + 1, r => by
   unfold dP
   split
   ·have := Bj n (iL r).1
    simp only [List.length_cons]; omega
   ·simp
theorem Gx (r : Rd) : (jU r).2.length ≤ 4096 := by
 have h := Bj (bW 4096 r).2 (bW 4096 r).1
 have h2 := (dE 4096 r).2
 unfold jU kw
 split
 ·split
  ·omega
  ·simp
 ·simp
theorem oJ {w : World} {A off : Nat} {l : List Dot} (h : DotsIn w (some ⟨A, off, none⟩) l) (hl : l ≠ []) : A < w.heap.size := by
 rcases h with h | ⟨A', off', he, h⟩
 ·exact absurd h hl
 ·cases he
  exact World.block_lt_of_cell? w _ (h.dev 0 (List.length_pos_iff.2 hl))
theorem JC (r : Rd) : EvSmall (rEv r).2 := by
 have h0 : EvSmall ev0 := by constructor <;> exact Nat.zero_le _
 unfold rEv zV
 split
 ·split
  ·rename_i h; exact sS h
  ·exact h0
 ·exact h0
end Go.Proofs.YtdlmbflhbecggaaGreat
