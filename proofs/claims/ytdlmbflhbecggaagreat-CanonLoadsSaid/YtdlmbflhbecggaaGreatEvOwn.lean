/- An event, read off bytes: event.Read. Conditions: at most 2^30 bytes. -/
import Derived.Test.YtdlmbflhbecggaaGreatReadI
import Derived.Test.YtdlmbflhbecggaaGreatReadJ
import Derived.Test.YtdlmbflhbecggaaGreatMark
import Derived.Test.YtdlmbflhbecggaaGreatCel
import Derived.Test.YtdlmbflhbecggaaGreatClone
import Derived.Great.BuildSlice
import Derived.Test.YtdlmbflhbecggaaGreatRRd
set_option linter.unusedSimpArgs false
set_option linter.unusedVariables false
set_option linter.unnecessarySimpa false
set_option maxHeartbeats 16000000
set_option maxRecDepth 100000
namespace Go.Proofs.YtdlmbflhbecggaaGreat
open Go.RowKit
/-- marks, read -/
def gI (y : Rd × List Dot) : Rd × List Dot := if y.1.e = 0 then (if aU y.2 = 0 then y else (eF y.1 (aU y.2), [])) else (y.1, [])
def dW (r : Rd) : Rd × List Dot := gI (bQ (bu 4096 r).2 (bu 4096 r).1)
theorem xM (r : Rd) : (dW r).1.b.length ≤ r.b.length := by
 have h1 := (bC 4096 r).1
 have h2 := nU (bu 4096 r).2 (bu 4096 r).1
 unfold dW gI
 split
 ·split
  ·omega
  ·unfold eF; split <;> simp only <;> omega
 ·simp only; omega
def EI (R : Nat) (y : Rd × List Dot) (w : World) (x : Ending) (w' : World) : Prop :=
 ∃ a cap, x = .returned (.slice a y.2.length cap) ∧ DotsIn w' a y.2 ∧ RdAt w' R y.1 ∧ Fr (isR R) w w' ∧ (∀ A off, a = some ⟨A, off, none⟩ → w.heap.size ≤ A)
theorem Tryz.infoMark : (Tryz.prog.info? 113).map (fun i => (i.zero, i.size, i.bytes)) = some (some (.agg #[.int .i64 0, .int .i64 0, .int .i64 0]), 3, 24) := by kernel_rfl
theorem mG {w : World} {base : Nat} {t : TypeId} {v : Value} {l : List Dot} (h : w.ownsRow base t 3 v l.length (aW l)) : ∃ a cap, v = .slice a l.length cap ∧ DotsIn w a l ∧ (∀ A off, a = some ⟨A, off, none⟩ → base ≤ A) := by
 rcases h.2 with ⟨rfl, hn⟩ | ⟨g, cap, cur, rfl, hb, rest⟩
 ·exact ⟨none, 0, by rw [hn], Or.inl (List.length_eq_zero_iff.1 hn), fun _ _ h => by cases h⟩
 ·refine ⟨some ⟨g, 0, none⟩, cap, rfl, Or.inr ⟨g, 0, rfl, ?_⟩, fun A off e => by cases e; exact hb⟩
  have hc := World.ownsRow.cells (g := g) h rfl
  have key : ∀ j u, (aW l)[j]? = some u → w.cell? ⟨g, j, none⟩ = some u := fun j u hu => by
   have := hc j u hu
   rwa [Addr.add_mid, Nat.zero_add] at this
  refine ⟨fun i hi => ?_, fun i hi => ?_, fun i hi => ?_⟩
  ·have := key _ _ (gQ l i hi).1; simpa using this
  ·have := key _ _ (gQ l i hi).2.1; simpa using this
  ·have := key _ _ (gQ l i hi).2.2; simpa using this
theorem kT (l : List Dot) (d : Dot) : aW l ++ [.int .i64 d.a.dev, .int .i64 d.a.inc, .int .i64 d.seq] = aW (l ++ [d]) := by simp [aW]
theorem JB (R : Nat) (r : Rd) (w : World) (hl : r.b.length ≤ 1073741824) (h : RdAt w R r) :
 Calls Tryz.prog 19 #[.pointer (some ⟨R, 0, none⟩)] w (EI R (dW r) w) := by
 obtain ⟨i0, hi, hz0, hz1, hz2⟩ := info_parts Tryz.infoMark
 have hfit := bC 4096 r
 have HN0 := oz R r 4096 w hl (by omega) h
 have HV : Hid (dW r = gI (bQ (bu 4096 r).2 (bu 4096 r).1)) := rfl
 obtain ⟨x, N, hx⟩ : ∃ x N, bu 4096 r = (x, N) := ⟨_, _, rfl⟩
 rw [hx] at hfit HN0 HV
 simp only at hfit HN0 HV
 obtain ⟨hxl, hN⟩ := hfit
 have HN : Hid (Calls Tryz.prog 20 #[.pointer (some ⟨R, 0, none⟩), .int .u64 4096] w (iG R x (.int .u64 N) w)) := HN0
 have HEr := Lib.hid (fun (rr : Rd) (W : World) (h : RdAt W R rr) => AU R rr W h)
 have HDg := Lib.hid (fun (rr : Rd) (W : World) (hl : rr.b.length ≤ 1073741824) (h : RdAt W R rr) => ui R rr W hl h)
 have hR := h.lt
 clear hx HN0 h
 go_enter Tryz.func19, Tryz.ntmps19
 go_upto_region 3 with (go_at_call 20; (with_reducible refine HN.out.mono ?_); rintro v W ⟨rfl, hRx, hFx⟩)
 have hzW := hFx.size
 clear HN
 go_wp2
 go_loopw [3, 4] (fun out n wr => ∃ (m : Nat) (rr : Rd) (ls : List Dot), n = .int .u64 m ∧ m + ls.length ≤ 4096 ∧ rr.b.length ≤ 1073741824 ∧ wr.ownsRow W.heap.size 113 3 out ls.length (aW ls) ∧ RdAt wr R rr ∧ Fr (isR R) W wr ∧ bQ N x = ((bQ m rr).1, ls ++ (bQ m rr).2)) (fun _ n _ => (intOf n).toNat)
 case atStart => exact ⟨N, x, [], rfl, by simp; omega, by omega, World.ownsRow_nil _ _ _ _, hRx, Fr.refl _ _, by simp⟩
 case round =>
  obtain ⟨m, rr, ls, rfl, hmn, hrl, hown, hRd, hF, hpre⟩ := hrel
  have HP := Lib.hid hpre
  clear hpre
  have hzw := hF.size
  by_cases hgo : 0 < m ∧ rr.e = 0
  ·obtain ⟨hm0, he0⟩ := hgo
   obtain ⟨j, rfl⟩ : ∃ j, m = j + 1 := ⟨m - 1, by omega⟩
   have hq : (rr.e == 0) = true := beq_iff_eq.2 he0
   have hdm : decide (0 < j + 1) = true := by simp
   have hdi : decide ((0 : Int) < ((j : Nat) : Int) + 1) = true := decide_eq_true (by omega)
   have hwr : IntKind.u64.wrap (((j : Nat) : Int) + 1 - 1) = ((j : Nat) : Int) := by rw [show ((j : Nat) : Int) + 1 - 1 = j by omega]; exact IntWalk.u64_in _ (by omega)
   have hf := iZ rr
   have HS : Hid (bQ N x = ((bQ j (dS rr).1).1, (ls ++ [(dS rr).2]) ++ (bQ j (dS rr).1).2)) := by rw [Hid, HP.out, jL he0]; simp
   have HG0 := HDg.out rr
   obtain ⟨r2, d, hrd⟩ : ∃ r2 d, dS rr = (r2, d) := ⟨_, _, rfl⟩
   rw [hrd] at HG0 HS hf
   simp only at HG0 HS hf
   have HG := Lib.hid (fun (X : World) (h : RdAt X R rr) => HG0 X hrl h)
   have HE := Lib.hid (fun (X : World) (h : RdAt X R rr) => HEr.out rr X h)
   clear hrd HG0 HP he0 hm0
   go_upto_region 6 with (first
        | (go_at_call 21; (with_reducible refine (HE.out _ hRd).mono ?_); rintro v w2 ⟨rfl, rfl⟩)
        | (go_at_call 23; (with_reducible refine (HG.out _ hRd).mono ?_); rintro v wd ⟨rfl, hR2, hF2⟩))
   refine au (fun W1 hW1 => ?_)
   have hb1 : Below wd.heap.size wd W1 := by rw [hW1.out]; go_grown
   have x0 : W1.cell? ⟨wd.heap.size, 0, none⟩ = some (.int .i64 d.a.dev) := by rw [hW1.out]; go_simp
   have x1 : W1.cell? ⟨wd.heap.size, 1, none⟩ = some (.int .i64 d.a.inc) := by rw [hW1.out]; go_simp
   have x2 : W1.cell? ⟨wd.heap.size, 2, none⟩ = some (.int .i64 d.seq) := by rw [hW1.out]; go_simp
   have hown1 := ownsRow_below (uF hown hF2 (by omega)) hb1
   have hR3 := hR2.below hb1
   have hF3 := (hF.again hF2).again (Fr.of_below hb1)
   have Qx := hF3.size
   clear hW1 hb1 hown hR2 hF2 hRd hF HE HG
   go_wp2_with (at_builtin; go_loud (refine wpList_append_own _ rfl _ _ 28 rfl W.heap.size 113 i0 (.agg #[.int .i64 0, .int .i64 0, .int .i64 0]) 3 24 Tryz.underlying28 hi hz0 hz1 hz2 rfl (by decide) _ _ _ rfl (hown1.alloc _) ⟨W1.heap.size, 0, none⟩ 1 1 [.int .i64 d.a.dev, .int .i64 d.a.inc, .int .i64 d.seq] rfl rfl (FD W1 d _) (by simp [Value.oneCell']) (by unfold maxLen; omega) (by omega) (by simp; omega) ?_))
   intro v' w5 hown5 hg5 _
   rw [kT] at hown5
   have hR5 := (hR3.below ((Below.refl _ _).alloc (Nat.le_refl _) _)).grown hg5 (fun g hg => by have := (hown1.lt g hg).1; omega)
   have hF5 := (hF3.alloc (Obj.cells #[.int .i64 d.a.dev, .int .i64 d.a.inc, .int .i64 d.seq] 113)).grown hg5 (fun g hg => (hown1.lt g hg).1)
   go_wp2
   go_roundw
   case rel => exact ⟨j, r2, ls ++ [d], by go_num, by simp; omega, by omega, by rw [List.length_append]; exact hown5, hR5, hF5, HS.out⟩
   case measure => simp [intOf]
  ·have hend : bQ m rr = (rr, []) := by
        by_cases h0 : m = 0
        ·subst h0; rfl
        ·exact jS (fun e => hgo ⟨by omega, e⟩)
   have HQ : Hid (dW r = gI (rr, ls)) := by rw [Hid, HV.out, HP.out, hend]; simp
   have HE := Lib.hid (fun (X : World) (h : RdAt X R rr) => HEr.out rr X h)
   have hlen : ls.length ≤ 4096 := by omega
   obtain ⟨ao, co, hvo, hdo, hao⟩ := mG hown
   have HVO := Lib.hid hvo
   have hFF := hFx.again hF
   by_cases he : rr.e = 0
   ·have hm0 : m = 0 := by
     by_cases h0 : m = 0
     ·exact h0
     ·exact absurd ⟨by omega, he⟩ hgo
    subst hm0
    have q1 : (rr.e == 0) = true := beq_iff_eq.2 he
    have q2 : (rr.e != 0) = false := by rw [bne_eq_false_iff_eq]; exact he
    have HQ2 : Hid (dW r = if aU ls = 0 then (rr, ls) else (eF rr (aU ls), [])) := by rw [Hid, HQ.out]; unfold gI; simp only; rw [if_pos he]
    have zL := fun (X : World) (c : Nat) (h : DotsIn X ao ls) => lF ao c ls X (by omega) h
    by_cases hme : aU ls = 0
    ·have HQ3 : Hid (dW r = (rr, ls)) := by rw [Hid, HQ2.out, if_pos hme]
     rw [hme] at zL
     have HCK := Lib.hid zL
     clear HQ HQ2 zL hme hend hgo he hvo hrl HP HV
     rw [HVO.out]
     go_wp2_with (first
      | (go_at_call 21; (with_reducible refine (HE.out _ hRd).mono ?_); rintro v w2 ⟨rfl, rfl⟩)
      | (go_at_call 57; (with_reducible refine (HCK.out _ _ hdo).mono ?_); rintro v w3 ⟨rfl, hb3⟩; replace hRd := hRd.below hb3; replace hFF := hFF.again (Fr.of_below hb3); replace hdo := hdo.kept hb3))
     go_ret
     rw [HQ3.out]
     exact ⟨ao, co, rfl, hdo, hRd, hFF, fun A off h => Nat.le_trans hzW (hao A off h)⟩
    ·have HQ3 : Hid (dW r = (eF rr (aU ls), [])) := by rw [Hid, HQ2.out, if_neg hme]
     have Me := fun (X : World) (h : RdAt X R rr) => qm R rr (aU ls) X h
     have hfe : (eF rr (aU ls)).e = aU ls := by unfold eF; rw [if_pos he]
     have Ll := fun (X : World) (h : RdAt X R (eF rr (aU ls))) => HEr.out _ X h
     rw [hfe] at Ll
     obtain ⟨me, Kw⟩ : ∃ me, me = aU ls := ⟨_, rfl⟩
     obtain ⟨r3, hr3⟩ : ∃ r3, r3 = eF rr (aU ls) := ⟨_, rfl⟩
     rw [← hr3] at HQ3 Me Ll
     rw [← Kw] at zL Me Ll hme
     have HCK := Lib.hid zL
     have HFl := Lib.hid Me
     have HE2 := Lib.hid Ll
     have q3 : (me == 0) = false := beq_eq_false_iff_ne.2 hme
     have q4 : (me != 0) = true := by rw [bne_iff_ne]; exact hme
     clear HQ HQ2 zL hme hend hgo he hvo hrl HP HV Me hfe Ll Kw hr3
     rw [HVO.out]
     go_wp2_with (first
      | (go_at_call 21; (with_reducible refine (HE.out _ hRd).mono ?_); rintro v w2 ⟨rfl, rfl⟩)
      | (go_at_call 57; (with_reducible refine (HCK.out _ _ hdo).mono ?_); rintro v w3 ⟨rfl, hb3⟩; replace hRd := hRd.below hb3; replace hFF := hFF.again (Fr.of_below hb3); replace hdo := hdo.kept hb3)
      | (go_at_call 58; (with_reducible refine (HFl.out _ hRd).mono ?_); rintro v w4 ⟨rfl, hR4, hF4⟩; replace hFF := hFF.again hF4; clear hRd)
      | (go_at_call 21; (with_reducible refine (HE2.out _ hR4).mono ?_); rintro v w5 ⟨rfl, rfl⟩))
     go_ret
     rw [HQ3.out]
     exact ⟨none, 0, rfl, Or.inl rfl, hR4, hFF, fun A off h => by cases h⟩
   ·have q1 : (rr.e == 0) = false := beq_eq_false_iff_ne.2 he
    have q2 : (rr.e != 0) = true := by rw [bne_iff_ne]; exact he
    have HQ3 : Hid (dW r = (rr, [])) := by rw [Hid, HQ.out]; unfold gI; simp only; rw [if_neg he]
    clear HQ hend hgo he hvo hrl HP HV
    by_cases h0 : 0 < m
    ·have d1 := decide_eq_true h0
     have d2 : decide ((0 : Int) < (m : Int)) = true := decide_eq_true (by omega)
     go_wp2_with (go_at_call 21; (with_reducible refine (HE.out _ hRd).mono ?_); rintro v w2 ⟨rfl, rfl⟩)
     go_ret
     rw [HQ3.out]
     exact ⟨none, 0, rfl, Or.inl rfl, hRd, hFF, fun A off h => by cases h⟩
    ·have d1 := decide_eq_false h0
     have d2 : decide ((0 : Int) < (m : Int)) = false := decide_eq_false (by omega)
     go_wp2_with (go_at_call 21; (with_reducible refine (HE.out _ hRd).mono ?_); rintro v w2 ⟨rfl, rfl⟩)
     go_ret
     rw [HQ3.out]
     exact ⟨none, 0, rfl, Or.inl rfl, hRd, hFF, fun A off h => by cases h⟩
/-- n events, one behind the other, till an error -/
def jK : Nat → Rd → Rd × List Ev
 | 0, r => (r, [])
 | n + 1, r => if r.e = 0 then ((jK n (rEv r).1).1, (rEv r).2 :: (jK n (rEv r).1).2) else (r, [])
theorem xP : ∀ (n : Nat) (r : Rd), (jK n r).1.b.length ≤ r.b.length
 | 0, r => Nat.le_refl _
 | n + 1, r => by
   unfold jK
   split
   ·exact Nat.le_trans (xP n _) (Bl r)
   ·exact Nat.le_refl _
theorem xQ {m : Nat} {r : Rd} (h : r.e ≠ 0) : jK m r = (r, []) := by
 cases m with
 | zero => rfl
 | succ m => unfold jK; rw [if_neg h]
theorem uC {m : Nat} {r : Rd} (h : r.e = 0) : jK (m + 1) r = ((jK m (rEv r).1).1, (rEv r).2 :: (jK m (rEv r).1).2) := by
 rw [jK, if_pos h]
theorem zZ : ∀ (n : Nat) (r : Rd), (bQ n r).2.length ≤ n
 | 0, r => Nat.le_refl _
 | n + 1, r => by
   unfold bQ
   split
   ·have := zZ n (dS r).1
    simp only [List.length_cons]; omega
   ·simp
theorem rD (r : Rd) : (dW r).2.length ≤ 4096 := by
 have h := zZ (bu 4096 r).2 (bu 4096 r).1
 have h2 := (bC 4096 r).2
 unfold dW gI
 split
 ·split
  ·omega
  ·simp
 ·simp
theorem uD {w : World} {base : Nat} {e : TypeId} {size : Nat} {v : Value} {n : Nat} {xs : List Value} (h : w.ownsRow base e size v n xs) : ∃ a c, v = .slice a n c := by
 rcases h.2 with ⟨rfl, hn⟩ | ⟨g, cap, cur, rfl, _⟩
 ·exact ⟨none, 0, by rw [hn]⟩
 ·exact ⟨_, _, rfl⟩
theorem jq {w : World} {A off : Nat} {l : List Dot} (h : DotsIn w (some ⟨A, off, none⟩) l) (hl : l ≠ []) : A < w.heap.size := by
 rcases h with h | ⟨A', off', he, h⟩
 ·exact absurd h hl
 ·cases he
  exact World.block_lt_of_cell? w _ (h.dev 0 (List.length_pos_iff.2 hl))
theorem zY (r : Rd) : EvSmall (rEv r).2 := by
 have h0 : EvSmall ev0 := by constructor <;> exact Nat.zero_le _
 unfold rEv yT
 split
 ·split
  ·rename_i h; exact rY h
  ·exact h0
 ·exact h0
theorem yf {w : World} {base size : Nat} {t : TypeId} {a : Option Addr} {n cap : Nat} {xs : List Value} (h : w.ownsRow base t size (.slice a n cap) n xs) : n ≤ cap := by
 rcases h.2 with ⟨h0, hn⟩ | ⟨g, c, cur, he, _, _, hc, _⟩
 ·omega
 ·cases he; exact hc
/-- behind the read of marks -/
def uV (r : Rd) (w0 w : World) (x : Ending) (w' : World) : Prop :=
 ∃ a cap ao co, x = .returned (.tuple #[bz (dW r).1 a cap, .slice ao (dW r).2.length co]) ∧ BytesIn w0 a (dW r).1.b ∧ (dW r).1.b.length ≤ cap ∧ DotsIn w' ao (dW r).2 ∧ Below w.heap.size w w' ∧ (∀ A off, ao = some ⟨A, off, none⟩ → w.heap.size ≤ A) ∧ (dW r).2.length ≤ co
theorem RdBlk.fr {w w' : World} {S : Nat → Prop} {R : Nat} {r : Rd} {a : Option Addr} {cap : Nat} (h : RdBlk w R r a cap) (hf : Fr S w w') (hs : ¬ S R) : RdBlk w' R r a cap := (hf.block _ h.lt hs).trans h
theorem Ls (w : World) (o : Obj) (cs : Array Value) (t : TypeId) : ((w.alloc o).alloc (.cells cs t)).heap[w.heap.size + 1]? = some (.cells cs t (0, 0)) := by
 have := heap_alloc_last (w.alloc o) (Obj.cells cs t)
 rw [show (w.alloc o).heap.size = w.heap.size + 1 by simp] at this
 exact this
theorem xN (r : Rd) (a : Option Addr) (cap : Nat) (w0 w : World) (h0 : Below w0.heap.size w0 w) (hl : r.b.length ≤ 1073741824) (hc : r.b.length ≤ cap) (hby : BytesIn w0 a r.b) :
 Calls Tryz.prog 26 #[bz r a cap] w (uV r w0 w) := by
 obtain ⟨i0, hi, hz0, hz1, hz2⟩ := info_parts Tryz.infoMark
 have hfit := bC 4096 r
 have HV : Hid (dW r = gI (bQ (bu 4096 r).2 (bu 4096 r).1)) := rfl
 obtain ⟨x, N, hx⟩ : ∃ x N, bu 4096 r = (x, N) := ⟨_, _, rfl⟩
 have g1 : Hid (∀ W, Below w0.heap.size w0 W → Calls Tryz.prog 27 #[bz r a cap, .int .u64 4096] W (iO x (.int .u64 N) w0 W)) := fun W h => by have := dG r a cap 4096 w0 W h hl hc (by omega) hby; rw [hx] at this; exact this
 rw [hx] at hfit HV
 simp only at hfit HV
 obtain ⟨hxl, hN⟩ := hfit
 have hw0 := h0.size
 clear hx
 go_enter Tryz.func26, Tryz.ntmps26
 go_upto_region 1 with fail
 refine au (fun W hW => ?_)
 have hbt : Below w.heap.size w W := by rw [hW.out]; go_grown
 have hB : RdBlk W w.heap.size r a cap := by
  rw [hW.out]; unfold RdBlk; rw [Below.heap_alloc _ _ _ (by simp)]; exact heap_alloc_last w _
 have hZ : W.heap[w.heap.size + 1]? = some (.cells aY 69 (0, 0)) := by
  rw [hW.out]; exact Ls w _ _ _
 have h0W := h0.trans (hbt.mono h0.size)
 have hrg := hB.range
 have hlw := lt_of_block hZ
 clear hW hB
 go_upto_region 2 with (first
  | ((with_reducible refine ak 69 _ w.heap.size 0 [.slice a r.b.length cap, .int .i64 r.e] (bz r a cap) rfl _ Tryz.underlying69 rfl (by kernel_rfl) hrg ?_ rfl ?_); exact rfl)
  | (go_at_call 27; (with_reducible refine (g1.out _ h0W).mono ?_); rintro x w1 ⟨a1, c1, rfl, hin1, hc1, hb1⟩)
  | (refine aN 69 _ _ _ #[.slice a1 x.b.length c1, .int .i64 x.e] rfl rfl (by kernel_rfl) rfl (by kernel_rfl) ?_))
 refine au (fun V1 hV => ?_)
 have hX1 : RdBlk V1 w1.heap.size x a1 c1 := by rw [hV.out]; exact RdBlk.new w1 x a1 c1
 have hbv : Below W.heap.size W V1 := by rw [hV.out]; exact hb1.alloc hb1.size _
 replace h0W := h0W.trans (hbv.mono h0W.size)
 have hlo1 := Nat.lt_of_lt_of_le hlw hb1.size
 replace hlw := Nat.lt_of_lt_of_le hlw hbv.size
 clear hV hb1 hrg
 have hrg := hX1.range
 replace hZ := (hbv.block _ (lt_of_block hZ)).trans hZ
 replace hbt := below2 hbt hbv
 clear hbv
 obtain ⟨W, hWe⟩ : ∃ W, W = V1 := ⟨_, rfl⟩
 subst hWe
 have hXl := hX1.lt
 have hwW := hbt.size
 have DJ : (W.alloc (Obj.cells #[] 113)).ownsRow W.heap.size 113 3 (.slice (some ⟨W.heap.size, 0, none⟩) 0 0) 0 (aW []) := World.ownsRow_made _ _ _ (Nat.le_refl _) (by decide) rfl
 have hFm : Fr (isR w1.heap.size) W (W.alloc (Obj.cells #[] 113)) := Fr.of_below ((Below.refl _ _).alloc (Nat.le_refl _) _)
 have hXm := hX1.below ((Below.refl _ _).alloc (Nat.le_refl _) (Obj.cells #[] 113))
 clear g1 hrg
 go_upto_region 3 with fail
 go_wp2
 go_loopw [6, 7] (fun out i wr => ∃ (j m : Nat) (ls : List Dot) (rr : Rd) (ar : Option Addr) (cr : Nat), i = .int .u64 j ∧ j + m = N ∧ m + ls.length ≤ 4096 ∧ rr.b.length ≤ 1073741824 ∧ RdBlk wr w1.heap.size rr ar cr ∧ BytesIn w0 ar rr.b ∧ rr.b.length ≤ cr ∧ wr.ownsRow W.heap.size 113 3 out ls.length (aW ls) ∧ Fr (isR w1.heap.size) W wr ∧ bQ N x = ((bQ m rr).1, ls ++ (bQ m rr).2)) (fun _ i _ => N - (intOf i).toNat)
 case atStart => exact ⟨0, N, [], x, a1, c1, rfl, by omega, by simp; omega, by omega, hXm, hin1, hc1, DJ, hFm, by simp⟩
 case round =>
  clear DJ hFm hXm hX1
  obtain ⟨j, m, ls, rr, ar, cr, rfl, hjm, hmn, hrl, hX, hinr, hcr, hown, hF, hpre⟩ := hrel
  have HP := Lib.hid hpre
  clear hpre
  have hzw := hF.size
  have h0R : Below w0.heap.size w0 wr := h0W.trans (hF.below (by omega) (fun q hq => by simp only [isR] at hq; omega))
  by_cases hgo : 0 < m ∧ rr.e = 0
  ·obtain ⟨hm0, hre⟩ := hgo
   obtain ⟨n, rfl⟩ : ∃ n, m = n + 1 := ⟨m - 1, by omega⟩
   have hjk : j < N := by omega
   have d1 := decide_eq_true hjk
   have d2 : decide ((j : Int) < (N : Int)) = true := decide_eq_true (by omega)
   have q1 : (rr.e == 0) = true := beq_iff_eq.2 hre
   have hf := iZ rr
   have HS : Hid (bQ N x = ((bQ n (dS rr).1).1, (ls ++ [(dS rr).2]) ++ (bQ n (dS rr).1).2)) := by rw [Hid, HP.out, jL hre]; simp
   have hG0 := mY rr
   obtain ⟨r2, d, hrd⟩ : ∃ r2 d, dS rr = (r2, d) := ⟨_, _, rfl⟩
   rw [hrd] at hf HS hG0
   simp only at hf HS hG0
   have HG := Lib.hid (fun (U : World) (h : Below w0.heap.size w0 U) => hG0 ar cr w0 U h hrl hcr hinr)
   obtain ⟨p0, p1, zf0, zf1⟩ := hX.two
   have hrg := hX.range
   clear hrd hG0 HP hre
   go_upto_region 7 with (first
        | ((with_reducible refine ak 69 _ w1.heap.size 0 [.slice ar rr.b.length cr, .int .i64 rr.e] (bz rr ar cr) rfl _ Tryz.underlying69 rfl (by kernel_rfl) hrg ?_ rfl ?_); exact rfl)
        | (go_at_call 29; (with_reducible refine (HG.out _ h0R).mono ?_); rintro x w5 ⟨a5, c5, rfl, zB, hc5, hb5⟩)
        | (refine dV 69 _ _ _ #[.slice a5 r2.b.length c5, .int .i64 r2.e] _ rfl rfl (by kernel_rfl) rfl (by kernel_rfl) ?_)
        | (refine dm 56 _ _ _ #[.int .i64 d.a.dev, .int .i64 d.a.inc, .int .i64 d.seq] (w5.heap.size + 1) (by simp) rfl rfl (by kernel_rfl) rfl (by kernel_rfl) ?_))
   refine au (fun U hU => ?_)
   have hN5 : RdBlk U w5.heap.size r2 a5 c5 := by rw [hU.out]; exact RdBlk.new2 w5 r2 a5 c5 _
   have hS : StBlk U (w5.heap.size + 1) #[.int .i64 d.a.dev, .int .i64 d.a.inc, .int .i64 d.seq] 56 := by rw [hU.out]; exact StBlk.new2 w5 _ _ _
   have hbU : Below wr.heap.size wr U := by rw [hU.out]; exact (hb5.alloc hb5.size _).alloc (Nat.le_trans hb5.size (by simp)) _
   have hz5 := hb5.size
   have hXU := hX.below hbU
   have vJ := ownsRow_below hown hbU
   have hFU := hF.again (Fr.of_below hbU)
   clear hU hb5 hX hown hF p0 p1 zf0 zf1 hrg
   have hrN := hN5.range
   go_upto_region 8 with (first
        | ((with_reducible refine ak 69 _ w5.heap.size 0 [.slice a5 r2.b.length c5, .int .i64 r2.e] (bz r2 a5 c5) rfl _ Tryz.underlying69 rfl (by kernel_rfl) hrN ?_ rfl ?_); exact rfl)
        | (refine wpList_store_row rfl 69 _ _ rfl w1.heap.size #[.slice a5 r2.b.length c5, .int .i64 r2.e] rfl rfl 69 (bi rr ar cr) hXU (by kernel_rfl) rfl (by kernel_rfl) ?_))
   refine au (fun Y hY => ?_)
   have hk : ∀ q, q ≠ w1.heap.size → Y.heap[q]? = U.heap[q]? := fun q hq => by rw [hY.out]; exact aI _ _ _ _ (fun e => hq e.symm)
   have hXY : RdBlk Y w1.heap.size r2 a5 c5 := by rw [hY.out]; exact setRow_heap _ _ _ _ _ _ hXU
   have hSY : StBlk Y (w5.heap.size + 1) #[.int .i64 d.a.dev, .int .i64 d.a.inc, .int .i64 d.seq] 56 := (hk _ (by omega)).trans hS
   have mi := jT vJ (fun q hq => hk q (by omega))
   have hFY : Fr (isR w1.heap.size) W Y := by rw [hY.out]; exact hFU.setRow (Or.inr rfl) _
   have Pi := hXY.lt
   have hVY := hFY.size
   clear hY hk hrN hN5 hXU vJ hFU hbU hS
   have hrS := hSY.range
   have s0 : Y.cell? ⟨w5.heap.size + 1, 0, none⟩ = some (.int .i64 d.a.dev) := by have := hrS 0 _ rfl; simpa using this
   have s1 : Y.cell? ⟨w5.heap.size + 1, 1, none⟩ = some (.int .i64 d.a.inc) := by have := hrS 1 _ rfl; simpa using this
   have s2 : Y.cell? ⟨w5.heap.size + 1, 2, none⟩ = some (.int .i64 d.seq) := by have := hrS 2 _ rfl; simpa using this
   have hdv := gq ls
   go_wp2_with (at_builtin; go_loud (refine wpList_append_own _ rfl _ _ 28 rfl W.heap.size 113 i0 (.agg #[.int .i64 0, .int .i64 0, .int .i64 0]) 3 24 Tryz.underlying28 hi hz0 hz1 hz2 rfl (by decide) _ _ _ rfl (mi.alloc _) ⟨Y.heap.size, 0, none⟩ 1 1 [.int .i64 d.a.dev, .int .i64 d.a.inc, .int .i64 d.seq] rfl rfl (FD Y d _) (by simp [Value.oneCell']) (by unfold maxLen; omega) (by omega) (by simp; omega) ?_))
   intro v' wf mg hgrow _
   rw [kT] at mg
   have hXf : RdBlk wf w1.heap.size r2 a5 c5 := (hgrow.block _ (by simp; omega) (fun h => by have := (mi.lt _ h.symm).1; omega)).trans (hXY.below ((Below.refl _ _).alloc (Nat.le_refl _) _))
   have hFf : Fr (isR w1.heap.size) W wf := (hFY.alloc _).grown2 hgrow (fun q hq => (mi.lt q hq).1)
   go_wp2
   go_roundw
   case rel => exact ⟨j + 1, n, ls ++ [d], r2, a5, c5, by go_num, by omega, by simp; omega, by omega, hXf, zB, hc5, by rw [List.length_append]; exact mg, hFf, HS.out⟩
   case measure => simp [intOf] <;> omega
  ·have hend : bQ m rr = (rr, []) := by
        by_cases h0 : m = 0
        ·subst h0; rfl
        ·exact jS (fun e => hgo ⟨by omega, e⟩)
   have HQ : Hid (dW r = gI (rr, ls)) := by rw [Hid, HV.out, HP.out, hend]; simp
   have hlen : ls.length ≤ 4096 := by omega
   obtain ⟨ao, co, hvo, hdo, hao⟩ := mG hown
   have HVO := Lib.hid hvo
   have hco : ls.length ≤ co := yf (hvo ▸ hown)
   replace hZ := (hF.block _ (lt_of_block hZ) (by simp only [isR]; omega)).trans hZ
   replace hbt : Below w.heap.size w wr := hbt.trans (hF.below (by omega) (fun q hq => by simp only [isR] at hq; omega))
   clear hown hend HP HV hF
   rw [HVO.out]
   clear hvo
   by_cases he : rr.e = 0
   ·have hm0 : m = 0 := by
     by_cases h0 : m = 0
     ·exact h0
     ·exact absurd ⟨by omega, he⟩ hgo
    subst hm0
    have hjk : ¬ j < N := by omega
    have d1 := decide_eq_false hjk
    have d2 : decide ((j : Int) < (N : Int)) = false := decide_eq_false (by omega)
    have q1 : (rr.e == 0) = true := beq_iff_eq.2 he
    have q2 : (rr.e != 0) = false := by rw [bne_eq_false_iff_eq]; exact he
    have HQ2 : Hid (dW r = if aU ls = 0 then (rr, ls) else (eF rr (aU ls), [])) := by rw [Hid, HQ.out]; unfold gI; simp only; rw [if_pos he]
    have zL := fun (X : World) (c : Nat) (h : DotsIn X ao ls) => xU ao c ls X (by omega) h
    have HRF : Hid (eF rr (aU ls) = ⟨rr.b, aU ls⟩) := by unfold Hid eF; rw [if_pos he]
    obtain ⟨me, Kw⟩ : ∃ me, me = aU ls := ⟨_, rfl⟩
    rw [← Kw] at HQ2 HRF zL
    have HCK := Lib.hid zL
    obtain ⟨p0, p1, zf0, zf1⟩ := hX.two
    have HHE := Lib.hid he
    clear zL Kw hgo he HQ
    go_upto_region 11 with (go_at_call 72; (with_reducible refine (HCK.out _ _ hdo).mono ?_); rintro v w3 ⟨rfl, hb3⟩; obtain ⟨y0, y1, yf0, yf1⟩ := (hX.below hb3).two)
    refine au (fun U hU => ?_)
    have hk : ∀ q, q ≠ w1.heap.size → U.heap[q]? = w3.heap[q]? := fun q hq => by rw [hU.out]; exact heap_setCell_other _ _ _ _ (fun e => hq e.symm)
    have hXU : RdBlk U w1.heap.size ⟨rr.b, me⟩ ar cr := by rw [hU.out]; exact pg (hX.below hb3) _
    have hZU := (hk _ (by omega)).trans ((hb3.block _ (lt_of_block hZ)).trans hZ)
    have hbU : Below w.heap.size w U := by rw [hU.out]; exact (below2 hbt hb3).setCell (by simp only; omega) _
    have hdU : DotsIn U ao ls := (hdo.kept hb3).keep (fun A off h _ => hk _ (by have := hao A off h; omega))
    clear hU hk hX hZ hbt hdo hb3 p0 p1 zf0 zf1 y0 y1 yf0 yf1 q1 q2
    have hX := hXU
    have hZ := hZU
    by_cases hme : me = 0
    ·have HQ3 : Hid (dW r = (⟨rr.b, me⟩, ls)) := by rw [Hid, HQ2.out, if_pos hme, hme]; cases rr; simp only at *; rw [HHE.out]
     have q3 : (me == 0) = true := beq_iff_eq.2 hme
     have q4 : (me != 0) = false := by rw [bne_eq_false_iff_eq]; exact hme
     clear HQ2 hme
     obtain ⟨p0, p1, zf0, zf1⟩ := hX.two
     have hrg := hX.range
     go_wp2_with (first
      | ((with_reducible refine ak 69 _ w1.heap.size 0 [.slice ar (⟨rr.b, me⟩ : Rd).b.length cr, .int .i64 (⟨rr.b, me⟩ : Rd).e] (bz (⟨rr.b, me⟩ : Rd) ar cr) rfl _ Tryz.underlying69 rfl (by kernel_rfl) hrg ?_ rfl ?_); exact rfl)
      | (refine wpList_store_row rfl 69 _ _ rfl (w.heap.size + 1) #[.slice ar (⟨rr.b, me⟩ : Rd).b.length cr, .int .i64 (⟨rr.b, me⟩ : Rd).e] rfl rfl 69 aY hZ (by kernel_rfl) rfl (by kernel_rfl) ?_)
      )
     refine bH 2 3 69 69 (w.heap.size + 1) #[.slice ar (⟨rr.b, me⟩ : Rd).b.length cr, .int .i64 (⟨rr.b, me⟩ : Rd).e] _ (.slice ao ls.length co) rfl rfl rfl (setRow_heap _ _ _ _ _ _ hZ) Tryz.underlying69 rfl (by kernel_rfl) rfl ?_
     unfold uV
     rw [HQ3.out]
     exact ⟨ar, cr, ao, co, rfl, hinr, hcr, hdU.setRow _ (fun A off h => by have := hao A off h; omega), below_setRow hbU (by omega) _, fun A off h => by have := hao A off h; omega, hco⟩
    ·have HQ3 : Hid (dW r = (⟨rr.b, me⟩, [])) := by rw [Hid, HQ2.out, if_neg hme, HRF.out]
     have q3 : (me == 0) = false := beq_eq_false_iff_ne.2 hme
     have q4 : (me != 0) = true := by rw [bne_iff_ne]; exact hme
     clear HQ2 hme
     obtain ⟨p0, p1, zf0, zf1⟩ := hX.two
     have hrg := hX.range
     go_wp2_with (first
      | ((with_reducible refine ak 69 _ w1.heap.size 0 [.slice ar (⟨rr.b, me⟩ : Rd).b.length cr, .int .i64 (⟨rr.b, me⟩ : Rd).e] (bz (⟨rr.b, me⟩ : Rd) ar cr) rfl _ Tryz.underlying69 rfl (by kernel_rfl) hrg ?_ rfl ?_); exact rfl)
      | (refine wpList_store_row rfl 69 _ _ rfl (w.heap.size + 1) #[.slice ar (⟨rr.b, me⟩ : Rd).b.length cr, .int .i64 (⟨rr.b, me⟩ : Rd).e] rfl rfl 69 aY hZ (by kernel_rfl) rfl (by kernel_rfl) ?_)
      )
     refine bH 2 3 69 69 (w.heap.size + 1) #[.slice ar (⟨rr.b, me⟩ : Rd).b.length cr, .int .i64 (⟨rr.b, me⟩ : Rd).e] _ (.slice none 0 0) rfl rfl rfl (setRow_heap _ _ _ _ _ _ hZ) Tryz.underlying69 rfl (by kernel_rfl) rfl ?_
     unfold uV
     rw [HQ3.out]
     exact ⟨ar, cr, none, 0, rfl, hinr, hcr, Or.inl rfl, below_setRow hbU (by omega) _, (fun A off h => by cases h), Nat.le_refl _⟩
   ·have q1 : (rr.e == 0) = false := beq_eq_false_iff_ne.2 he
    have q2 : (rr.e != 0) = true := by rw [bne_iff_ne]; exact he
    have HQ3 : Hid (dW r = (rr, [])) := by rw [Hid, HQ.out]; unfold gI; simp only; rw [if_neg he]
    clear HQ hgo he
    by_cases hjk : j < N
    ·have d1 := decide_eq_true hjk
     have d2 : decide ((j : Int) < (N : Int)) = true := decide_eq_true (by omega)
     obtain ⟨p0, p1, zf0, zf1⟩ := hX.two
     have hrg := hX.range
     go_wp2_with (first
      | ((with_reducible refine ak 69 _ w1.heap.size 0 [.slice ar rr.b.length cr, .int .i64 rr.e] (bz rr ar cr) rfl _ Tryz.underlying69 rfl (by kernel_rfl) hrg ?_ rfl ?_); exact rfl)
      | (refine wpList_store_row rfl 69 _ _ rfl (w.heap.size + 1) #[.slice ar rr.b.length cr, .int .i64 rr.e] rfl rfl 69 aY hZ (by kernel_rfl) rfl (by kernel_rfl) ?_)
      )
     refine bH 2 3 69 69 (w.heap.size + 1) #[.slice ar rr.b.length cr, .int .i64 rr.e] _ (.slice none 0 0) rfl rfl rfl (setRow_heap _ _ _ _ _ _ hZ) Tryz.underlying69 rfl (by kernel_rfl) rfl ?_
     unfold uV
     rw [HQ3.out]
     exact ⟨ar, cr, none, 0, rfl, hinr, hcr, Or.inl rfl, below_setRow hbt (by omega) _, (fun A off h => by cases h), Nat.le_refl _⟩
    ·have d1 := decide_eq_false hjk
     have d2 : decide ((j : Int) < (N : Int)) = false := decide_eq_false (by omega)
     obtain ⟨p0, p1, zf0, zf1⟩ := hX.two
     have hrg := hX.range
     go_wp2_with (first
      | ((with_reducible refine ak 69 _ w1.heap.size 0 [.slice ar rr.b.length cr, .int .i64 rr.e] (bz rr ar cr) rfl _ Tryz.underlying69 rfl (by kernel_rfl) hrg ?_ rfl ?_); exact rfl)
      | (refine wpList_store_row rfl 69 _ _ rfl (w.heap.size + 1) #[.slice ar rr.b.length cr, .int .i64 rr.e] rfl rfl 69 aY hZ (by kernel_rfl) rfl (by kernel_rfl) ?_)
      )
     refine bH 2 3 69 69 (w.heap.size + 1) #[.slice ar rr.b.length cr, .int .i64 rr.e] _ (.slice none 0 0) rfl rfl rfl (setRow_heap _ _ _ _ _ _ hZ) Tryz.underlying69 rfl (by kernel_rfl) rfl ?_
     unfold uV
     rw [HQ3.out]
     exact ⟨ar, cr, none, 0, rfl, hinr, hcr, Or.inl rfl, below_setRow hbt (by omega) _, (fun A off h => by cases h), Nat.le_refl _⟩
/-- events that grow, in memory of its own; the dots elsewhere; blocks of S may be written -/
structure EvsOwn (S : Nat → Prop) (w0 : World) (v : Value) (ls : List bJ) (W : World) : Prop where
 own : W.ownsRow w0.heap.size 64 19 v ls.length (aS ls)
 dots : ∀ x ∈ ls, DotsIn W x.2.1 x.1.over
 ne : ∀ x ∈ ls, ∀ A off, x.2.1 = some ⟨A, off, none⟩ → x.1.over ≠ [] → w0.heap.size ≤ A ∧ v.ownBlock ≠ some A
 fr : Fr S w0 W
theorem EvsOwn.step {S : Nat → Prop} {w0 w w' : World} {v : Value} {ls : List bJ} (h : EvsOwn S w0 v ls w) (hb : Below w.heap.size w w') : EvsOwn S w0 v ls w' :=
 ⟨ownsRow_below h.own hb, fun x hx => (h.dots x hx).kept hb, h.ne, h.fr.again (Fr.of_below hb)⟩
theorem EvsOwn.other {S : Nat → Prop} {w0 w w' : World} {v : Value} {ls : List bJ} (h : EvsOwn S w0 v ls w) {g : Nat} (hg : g < w0.heap.size) (hk : ∀ k, k ≠ g → w'.heap[k]? = w.heap[k]?) (hf : Fr S w0 w') : EvsOwn S w0 v ls w' :=
 ⟨jT h.own (fun k hk2 => hk k (by omega)), fun x hx => (h.dots x hx).keep (fun A off hA hne => hk A (by have := (h.ne x hx A off hA hne).1; omega)), h.ne, hf⟩
theorem EvsOwn.app {S : Nat → Prop} {w0 w w2 : World} {v v2 : Value} {ls : List bJ} {x : bJ} (h : EvsOwn S w0 v ls w) (hown : w2.ownsRow w0.heap.size 64 19 v2 (ls.length + 1) (aS ls ++ kN x))
 (hg : w.grownBy w2 v.ownBlock) (hat : v2.ownBlock = v.ownBlock ∨ v2.ownBlock = some w.heap.size) (hd : DotsIn w x.2.1 x.1.over) (hx : ∀ A off, x.2.1 = some ⟨A, off, none⟩ → x.1.over ≠ [] → w0.heap.size ≤ A ∧ v.ownBlock ≠ some A) : EvsOwn S w0 v2 (ls ++ [x]) w2 := by
 have hall : ∀ y ∈ ls ++ [x], DotsIn w y.2.1 y.1.over ∧ ∀ A off, y.2.1 = some ⟨A, off, none⟩ → y.1.over ≠ [] → w0.heap.size ≤ A ∧ v.ownBlock ≠ some A := by
  intro y hy
  rcases List.mem_append.1 hy with hy | hy
  ·exact ⟨h.dots y hy, h.ne y hy⟩
  ·simp only [List.mem_singleton] at hy; subst hy; exact ⟨hd, hx⟩
 refine ⟨by rw [jg, List.length_append]; exact hown, fun y hy => ?_, fun y hy A off hA hne => ⟨((hall y hy).2 A off hA hne).1, ?_⟩, h.fr.grown2 hg (fun k hk => (h.own.lt k hk).1)⟩
 ·obtain ⟨h1, h2⟩ := hall y hy
  refine h1.keep (fun A off hA hne => hg.block A ?_ (fun e => (h2 A off hA hne).2 e.symm))
  rw [hA] at h1; exact jq h1 hne
 ·obtain ⟨h1, h2⟩ := hall y hy
  rcases hat with hat | hat
  ·rw [hat]; exact (h2 A off hA hne).2
  ·rw [hA] at h1
   have := jq h1 hne
   rw [hat]; intro e; injection e with e; omega
theorem EvsOwn.fresh {S : Nat → Prop} {w0 w : World} {v : Value} {ls : List bJ} (h : EvsOwn S w0 v ls w) {a : Option Addr} {p : Prop} (hn : ∀ A off, a = some ⟨A, off, none⟩ → w.heap.size ≤ A) : ∀ A off, a = some ⟨A, off, none⟩ → p → w0.heap.size ≤ A ∧ v.ownBlock ≠ some A :=
 fun A off ha _ => ⟨Nat.le_trans h.fr.size (hn A off ha), fun e => by have := hn A off ha; have := (h.own.lt A e).2; omega⟩
theorem Ed {P : Program} {o : Oper} {a : Act} {w : World} (t : TypeId) (parts : Array (Nat × Operand)) (ho : o.op = .build t parts) (cells : Array Value) (hf : P.built t (parts.map fun (i, x) => (i, a.eval x)).toList = some cells) : (execOp a.eval o).run P w = .ok (.value (.agg cells)) w := by
 unfold execOp
 simp only [ho, Sem.run_bind, run_build w t _ cells hf, Result.andThen_ok, Sem.run_pure]
end Go.Proofs.YtdlmbflhbecggaaGreat
