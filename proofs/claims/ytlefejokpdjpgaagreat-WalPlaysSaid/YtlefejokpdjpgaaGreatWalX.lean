/- The reference's log: Recover. Conditions: as in the text. -/
import Derived.Test.YtlefejokpdjpgaaGreatRest
import Derived.Test.YtlefejokpdjpgaaGreatWalR
import Derived.Test.YtlefejokpdjpgaaGreatRRdH
import Derived.Test.YtlefejokpdjpgaaGreatWalS
import Derived.Test.YtlefejokpdjpgaaGreatWalU
set_option linter.unusedSimpArgs false
set_option linter.unusedVariables false
set_option linter.unnecessarySimpa false
set_option maxHeartbeats 16000000
set_option maxRecDepth 100000
namespace Go.Proofs.YtlefejokpdjpgaaGreat
open Go.RowKit
variable {S : DS} {w w' : World}
/-- four results: a struct in a block of its own, and three more -/
theorem rW {P : Program} {fn : Func} {R : Ending → World → Prop} {a : Act} {w : World} (p u1 u2 u3 : Tmp) (ty t : TypeId) (g : Nat) (c : Array Value) (d : TypeDesc) (v1 v2 v3 : Value) (hr : fn.results = #[.cell p ty, .tmp u1, .tmp u2, .tmp u3])
 (hp : a.tmps.getD p undef = .pointer (some ⟨g, 0, none⟩)) (hv1 : a.tmps.getD u1 undef = v1) (hv2 : a.tmps.getD u2 undef = v2) (hv3 : a.tmps.getD u3 undef = v3) (hg : w.heap[g]? = some (.cells c t (0, 0))) (hu : P.underlying ty = some d) (hd : d.isRow = true) (hi : (P.info? ty).map (·.size) = some c.size)
 (hde : a.defers = []) (hR : R (.returned (.tuple #[.agg c, v1, v2, v3])) w) : bodyPost P fn R .ret a w := by
 have h1 : w.rangeAt g 0 c.toList := fun j v hv => by
  exact z36
 have h2 := run_loadVar_mid (P := P) w g 0 ty c.toList d h1 hu hd (by simpa using hi)
 refine bodyPost_ret ?_ hde hR
 have hp' : a.tmps[p]?.getD undef = .pointer (some ⟨g, 0, none⟩) := by simpa using hp
 have hv1' : a.tmps[u1]?.getD undef = v1 := by simpa using hv1
 have hv2' : a.tmps[u2]?.getD undef = v2 := by simpa using hv2
 have hv3' : a.tmps[u3]?.getD undef = v3 := by simpa using hv3
 simp [results, hr, hp', hv1', hv2', hv3', asAddr, h2, Sem.run_bind, Result.andThen]
/-- what the reference's recovery hands back -/
def uD (r : DS × List Rec × Nat × Int) (w : World) (e : Ending) (w' : World) : Prop :=
 ∃ (a : Option Addr) (l : List RF) (cap : Nat) (ar : Option Addr) (ls : List aY) (cr : Nat), e = .returned (.tuple #[aO a l.length cap r.1.arm r.1.down, .slice ar ls.length cr, .int .i64 (r.2.2.1 : Nat), .int .i64 r.2.2.2]) ∧
   RFsIn w' a l ∧ l.length ≤ cap ∧ az l = r.1.f ∧ RecsIn w' ar ls ∧ ls.length ≤ cr ∧ bD ls = r.2.1 ∧ Below w.heap.size w w'
theorem kQ {z : Nat} {t : TypeId} {a : Option Addr} {ls : List aY} {cs : Array Value} (h : RecsIn w a ls) (hZ : B3 w z t (.slice none 0 0) (.int .i64 0) (.bool false)) : RecsIn (w.setRow z cs) a ls :=
 h.fr (T := isR z) (dw _ _ _) (fun k hk => by
  subst hk
  refine ⟨hZ.noStr ⟨trivial, trivial, trivial⟩, fun o x y h1 h2 => ?_⟩
  simp only [World.cell?, show w.heap[k]? = _ from hZ] at h1 h2
  match o, h1, h2 with
  | 0, h1, _ => simp at h1
  | 1, _, h2 => simp at h2
  | o + 2, _, h2 => simp at h2)
theorem z16 {p : Prop} (h : p := by
 refine rW 2 3 4 5 62 62 (w.heap.size + 1) _ _ _ _ _ rfl rfl rfl rfl rfl (hZ2.row _ _ _) Tryz.underlying62 rfl (by kernel_rfl) rfl ?_
 exact ⟨a, l, cap, ar, ls, cr, by rw [HDN.out]; rfl, hin2.fr (T := isR (w.heap.size + 1)) (dw _ _ _) (fun k hk => by subst hk; exact ⟨hZ2.noByte ⟨trivial, trivial, trivial⟩, hZ2.noStr ⟨trivial, trivial, trivial⟩⟩), hlc, HLF.out, kQ kE hZ2, hcr, rO.out, aJ hbw2 (Nat.le_succ _) _⟩) : p := h
theorem y36 {p q : Prop} (k : q) (h : PLift q → p := by
 intro kk
 refine y38 ?_
 intro W hW hb0
 have hD : B3 W w.heap.size 62 (.slice a l.length cap) (.int .i64 S.arm) (.bool true) := by
      exact z4
 revert W hW hb0 hD
 exact kk.down) : p := h ⟨k⟩
theorem y35 {p q : Prop} (k : q) (h : PLift q → p := by
 intro kk
 refine y38 ?_
 intro W hW hb0
 have hD : B3 W w.heap.size 62 (.slice a l.length cap) (.int .i64 S.arm) (.bool false) := by
  exact z4
 revert W hW hb0 hD
 exact kk.down) : p := h ⟨k⟩
theorem y20 {p q : Prop} (k : q) (h : PLift q → p := by
 intro kk
 have HBy := Lib.hid fF
 have HLF := Lib.hid hl
 have HFD := Lib.hid jq
 have HDN := Lib.hid hdn
 revert HBy HLF HFD HDN
 exact kk.down) : p := h ⟨k⟩
theorem y14 {p q : Prop} (k : q) (h : PLift q → p := by
 intro kk
 refine wp_name (fun W3 hW3 => ?_)
 have hX : B3 W3 w3.heap.size 62 (.slice a3 l3.length c3) (.int .i64 T.arm) (.bool T.down) := by rw [hW3.out]; exact aF w3 _
 have hb4 : Below w3.heap.size w3 W3 := by rw [hW3.out]; exact (Below.refl _ _).alloc (Nat.le_refl _) _
 have hZ3 := (hZ2.below hb3).below hb4
 have dR := ed.kept hb4
 have su := (kE.kept hb3).kept hb4
 have lD := below2 (below2 hbw2 hb3) hb4
 have HL3 := Lib.hid hl3
 revert W3 hW3 hX hb4 hZ3 dR su lD HL3
 exact kk.down) : p := h ⟨k⟩
theorem y13 {p q : Prop} (k : q) (h : PLift q → p := by
 intro kk
 have iR := below2 hb0 hb1
 have hD1 := hD.below hb1
 have hZ1 := hZ.below hb1
 have hin1 := HIN.out.kept iR
 obtain ⟨d0, d1, d2, e0, e1, e2⟩ := hD1.cells
 revert iR hD1 hZ1 hin1 d0 d1 d2 e0 e1 e2
 exact kk.down) : p := h ⟨k⟩
theorem y12 {p q : Prop} (k : q) (h : PLift q → p := by
 intro kk
 have hbw2 := below2 iR hb2
 have hD2 := hD1.below hb2
 have hZ2 := hZ1.below hb2
 have rO : Hid (bD ls = L) := Lib.hid hmap
 have hin2 := HIN.out.kept hbw2
 obtain ⟨d0, d1, d2, e0, e1, e2⟩ := hD2.cells
 revert hbw2 hD2 hZ2 rO hin2 d0 d1 d2 e0 e1 e2
 exact kk.down) : p := h ⟨k⟩
theorem y9 {p q : Prop} (k : q) (h : PLift q → p := by
 intro kk
 refine y39 ?_
 intro hZ
 obtain ⟨d0, d1, d2, e0, e1, e2⟩ := hD.cells
 revert hZ d0 d1 d2 e0 e1 e2
 exact kk.down) : p := h ⟨k⟩
theorem kC (a : Option Addr) (cap : Nat) (l : List RF) (w : World) (hi : DInv S) (hlc : l.length ≤ cap) (hl : az l = S.f) (h : RFsIn w a l) :
 Calls Tryz.prog 36 #[aO a l.length cap S.arm S.down] w (uD S.recov w) := by
 have hll : l.length ≤ 8 := by have := congrArg List.length hl; rw [List.length_map] at this; have := hi.len; omega
 have hgb : ∀ g ∈ l, g.f.b.length ≤ 16777216 := fun g hg => (hi.ok g.f (by rw [← hl]; exact List.mem_map_of_mem hg)).len
 have hSl : (⟨az l, S.arm, S.down⟩ : DS) = S := by rw [hl]
 have hwl := iF hi
 have HIN := Lib.hid h
 have fF := fun X (h : RFsIn X a l) => fM a cap S.arm S.down l X hl (by omega) h
 have jq : ∀ X, RFsIn X a l → Calls Tryz.prog 45 #[.slice a l.length cap, .string ⟨#[108, 111, 103]⟩] X fun e w' => e = .returned (.int .i64 (eP (az l) logS)) ∧ X = w' := fun X h => jU a cap l logS X (by omega) h
 obtain ⟨q, hq⟩ : ∃ q, q = eP (az l) logS := ⟨_, rfl⟩
 rw [← hq] at jq
 have hsome : 0 ≤ q ↔ (getF S.f logS).isSome = true := by
  rcases pI hl with ⟨hf, hg⟩ | ⟨j, hj, hf, hg⟩
  ·rw [hq, hf, hg]; simp
  ·rw [hq, hf, hg]; simp
 clear hq
 obtain ⟨L, n, hLn⟩ : ∃ L n, aC (aV S) = (L, n) := ⟨_, _, rfl⟩
 have HS0 := fun (W : World) (A : Option Addr) (C : Nat) (hc : (aV S).length ≤ C) (h : BytesIn W A (aV S)) => nO A C (aV S) W (by omega) hc h
 rw [hLn] at HS0
 have hn : n ≤ (aV S).length := by have := iK _ (aV S) (Nat.le_refl _); rw [hLn] at this; exact this
 have hT0 : ∀ X, RFsIn X a l → Calls Tryz.prog 69 #[aO a l.length cap S.arm S.down, .string ⟨#[108, 111, 103]⟩, .int .i64 (n : Nat)] X (eG (S.trunc logS (n : Nat)).1 (S.trunc logS (n : Nat)).2 X) := fun X h => by
  have := kV a cap S.arm S.down l logS n X (by omega) hlc hi.arm logS_size hgb h
  rw [hSl, oK hi.srt logS n] at this
  exact this
 have hru := fun h1 he => iJ (S := S) h1 he
 have hrc := fun h1 he T c ht => jC (S := S) h1 he (T := T) (c := c) ht
 rw [hLn] at hru hrc
 simp only at hru hrc
 have hnil : getF S.f logS = none → aV S = [] := fun h => by unfold aV; rw [h]
 obtain ⟨m, hm⟩ : ∃ m, m = (aV S).length := ⟨_, rfl⟩
 rw [← hm] at HS0 hn hru hrc hwl
 simp only [← hm] at fF
 clear hSl hgb h
 by_cases hdn : S.down = true
 ·by_cases hq0 : 0 ≤ q
  ·have hr : S.recov = (S, [], 0, 12) := by unfold DS.recov; rw [if_pos ⟨hdn, hsome.1 hq0⟩]
   rw [hr, hdn]
   have HS := Lib.hid HS0
   rw [hdn] at fF
   refine y20 ?_
   intro HBy HLF HFD HDN
   clear hr hsome hT0 hwl HS0 fF jq hdn hl hru hrc hnil hm hLn hn
   go_enter Tryz.func36, Tryz.ntmps36
   go_upto_region 1 with fail
   refine y36 ?_
   intro W hW hb0 hD
   refine y9 ?_
   clear hW
   intro hZ d0 d1 d2 e0 e1 e2
   go_upto_region 2 with (go_at_call 21; (with_reducible refine (HBy.out _ (HIN.out.kept hb0)).mono ?_); rintro e w1 ⟨ab, cb, rfl, hby, hcb, hb1⟩)
   refine y13 ?_
   clear d0 d1 d2 e0 e1 e2 hD hZ hb0 hb1
   intro iR hD1 hZ1 hin1 d0 d1 d2 e0 e1 e2
   go_wp2_with (first
        | (go_at_call 45; (with_reducible refine (HFD.out _ hin1).mono ?_); rintro e w2 ⟨rfl, rfl⟩)
        | (refine wpList_store_row rfl 62 _ _ rfl (w.heap.size + 1) #[.slice a l.length cap, .int .i64 S.arm, .bool true] rfl rfl 62 _ hZ1 (by kernel_rfl) rfl (by kernel_rfl) ?_)
        )
   refine rW 2 3 4 5 62 62 (w.heap.size + 1) _ _ _ _ _ rfl rfl rfl rfl rfl (hZ1.row _ _ _) Tryz.underlying62 rfl (by kernel_rfl) rfl ?_
   exact ⟨a, l, cap, none, [], 0, by rw [HDN.out]; rfl, hin1.fr (T := isR (w.heap.size + 1)) (dw _ _ _) (fun k hk => by subst hk; exact ⟨hZ1.noByte ⟨trivial, trivial, trivial⟩, hZ1.noStr ⟨trivial, trivial, trivial⟩⟩), hlc, HLF.out, gG _, Nat.le_refl _, rfl, aJ iR (Nat.le_succ _) _⟩
  ·have h1 : ¬ (S.down = true ∧ (getF S.f logS).isSome = true) := fun e => hq0 (hsome.2 e.2)
   have hg : getF S.f logS = none := by
        cases hx : getF S.f logS with
        | none => rfl
        | some f => exact absurd (hsome.2 (by rw [hx]; rfl)) hq0
   have hm0 : m = 0 := by rw [hm, hnil hg]; rfl
   have hnm : n = m := by omega
   have HRU := Lib.hid (hru h1 hnm)
   rw [HRU.out, hdn]
   have q1 : ((n : Int) == (m : Int)) = true := beq_iff_eq.2 (by omega)
   have q2 : (n == m) = true := beq_iff_eq.2 hnm
   have HS := Lib.hid HS0
   rw [hdn] at fF
   refine y20 ?_
   intro HBy HLF HFD HDN
   clear hsome hT0 hwl HS0 fF jq hdn hl hru hrc hnil hm hLn hn hm0 hnm hg h1
   go_enter Tryz.func36, Tryz.ntmps36
   go_upto_region 1 with fail
   refine y36 ?_
   intro W hW hb0 hD
   refine y9 ?_
   clear hW
   intro hZ d0 d1 d2 e0 e1 e2
   go_upto_region 2 with (go_at_call 21; (with_reducible refine (HBy.out _ (HIN.out.kept hb0)).mono ?_); rintro e w1 ⟨ab, cb, rfl, hby, hcb, hb1⟩)
   refine y13 ?_
   clear d0 d1 d2 e0 e1 e2 hD hZ hb0 hb1
   intro iR hD1 hZ1 hin1 d0 d1 d2 e0 e1 e2
   go_upto_region 5 with (first
        | (go_at_call 45; (with_reducible refine (HFD.out _ hin1).mono ?_); rintro e w2 ⟨rfl, rfl⟩)
        | (go_at_call 68; (with_reducible refine (HS.out _ _ _ hcb hby).mono ?_); rintro e w2 ⟨v2, ls, rfl, hinv, hmap⟩))
   have hb2 : Below w1.heap.size w1 w2 := hinv.bel
   obtain ⟨ar, cr, rfl, kE, hcr⟩ := dL hinv.own hinv.dots
   refine y12 ?_
   clear hinv hmap d0 d1 d2 e0 e1 e2 hD1 hZ1 iR hb2 hby hin1
   intro hbw2 hD2 hZ2 rO hin2 d0 d1 d2 e0 e1 e2
   go_wp2_with (refine wpList_store_row rfl 62 _ _ rfl (w.heap.size + 1) #[.slice a l.length cap, .int .i64 S.arm, .bool true] rfl rfl 62 _ hZ2 (by kernel_rfl) rfl (by kernel_rfl) ?_)
   exact z16
 ·have h1 : ¬ (S.down = true ∧ (getF S.f logS).isSome = true) := fun e => hdn e.1
  have hdn := Bool.eq_false_iff.2 hdn
  by_cases he : n = m
  ·have HRU := Lib.hid (hru h1 he)
   rw [HRU.out, hdn]
   have q1 : ((n : Int) == (m : Int)) = true := beq_iff_eq.2 (by omega)
   have q2 : (n == m) = true := beq_iff_eq.2 he
   have HS := Lib.hid HS0
   rw [hdn] at fF
   refine y20 ?_
   intro HBy HLF HFD HDN
   clear hsome hT0 hwl HS0 fF jq hdn hl hru hrc hnil hm hLn hn he h1
   go_enter Tryz.func36, Tryz.ntmps36
   go_upto_region 1 with fail
   refine y38 ?_
   intro W hW hb0
   have hD : B3 W w.heap.size 62 (.slice a l.length cap) (.int .i64 S.arm) (.bool false) := by
        exact z4
   refine y9 ?_
   clear hW
   intro hZ d0 d1 d2 e0 e1 e2
   go_upto_region 2 with (go_at_call 21; (with_reducible refine (HBy.out _ (HIN.out.kept hb0)).mono ?_); rintro e w1 ⟨ab, cb, rfl, hby, hcb, hb1⟩)
   refine y13 ?_
   clear d0 d1 d2 e0 e1 e2 hD hZ hb0 hb1
   intro iR hD1 hZ1 hin1 d0 d1 d2 e0 e1 e2
   go_upto_region 5 with (first
        | (go_at_call 45; (with_reducible refine (HFD.out _ hin1).mono ?_); rintro e w2 ⟨rfl, rfl⟩)
        | (go_at_call 68; (with_reducible refine (HS.out _ _ _ hcb hby).mono ?_); rintro e w2 ⟨v2, ls, rfl, hinv, hmap⟩))
   have hb2 : Below w1.heap.size w1 w2 := hinv.bel
   obtain ⟨ar, cr, rfl, kE, hcr⟩ := dL hinv.own hinv.dots
   refine y12 ?_
   clear hinv hmap d0 d1 d2 e0 e1 e2 hD1 hZ1 iR hb2 hby hin1
   intro hbw2 hD2 hZ2 rO hin2 d0 d1 d2 e0 e1 e2
   go_wp2_with (refine wpList_store_row rfl 62 _ _ rfl (w.heap.size + 1) #[.slice a l.length cap, .int .i64 S.arm, .bool false] rfl rfl 62 _ hZ2 (by kernel_rfl) rfl (by kernel_rfl) ?_)
   exact z16
  ·have q1 : ((n : Int) == (m : Int)) = false := beq_eq_false_iff_ne.2 (by omega)
   have q2 : (n == m) = false := beq_eq_false_iff_ne.2 he
   obtain ⟨T, c, hT⟩ : ∃ T c, S.trunc logS (n : Nat) = (T, c) := ⟨_, _, rfl⟩
   rw [hT, hdn] at hT0
   simp only at hT0
   have HT := Lib.hid hT0
   have hrx := hrc h1 he T c hT
   by_cases hc0 : c = 0
   ·subst hc0
    rw [if_pos rfl] at hrx
    rw [hrx, hdn]
    have HS := Lib.hid HS0
    rw [hdn] at fF
    refine y20 ?_
    intro HBy HLF HFD HDN
    clear hsome hT0 HS0 fF jq hdn hl hru hrc hnil hm hLn he h1 hT hrx
    go_enter Tryz.func36, Tryz.ntmps36
    go_upto_region 1 with fail
    refine y35 ?_
    intro W hW hb0 hD
    refine y9 ?_
    clear hW
    intro hZ d0 d1 d2 e0 e1 e2
    go_upto_region 2 with (go_at_call 21; (with_reducible refine (HBy.out _ (HIN.out.kept hb0)).mono ?_); rintro e w1 ⟨ab, cb, rfl, hby, hcb, hb1⟩)
    refine y13 ?_
    clear d0 d1 d2 e0 e1 e2 hD hZ hb0 hb1
    intro iR hD1 hZ1 hin1 d0 d1 d2 e0 e1 e2
    go_upto_region 5 with (first
     | (go_at_call 45; (with_reducible refine (HFD.out _ hin1).mono ?_); rintro e w2 ⟨rfl, rfl⟩)
     | (go_at_call 68; (with_reducible refine (HS.out _ _ _ hcb hby).mono ?_); rintro e w2 ⟨v2, ls, rfl, hinv, hmap⟩))
    have hb2 : Below w1.heap.size w1 w2 := hinv.bel
    obtain ⟨ar, cr, rfl, kE, hcr⟩ := dL hinv.own hinv.dots
    refine y12 ?_
    clear hinv hmap d0 d1 d2 e0 e1 e2 hD1 hZ1 iR hb2 hby hin1
    intro hbw2 hD2 hZ2 rO hin2 d0 d1 d2 e0 e1 e2
    go_upto_region 8 with (go_at_call 69; (with_reducible refine (HT.out _ hin2).mono ?_); rintro e w3 ⟨a3, l3, c3, rfl, ed, hc3, hl3, hb3⟩)
    refine y14 ?_
    intro W3 hW3 hX hb4 hZ3 dR su lD HL3
    clear hW3 hb3 hb4 hZ2 hD2 hin2 ed kE hbw2 hl3 d0 d1 d2 e0 e1 e2
    obtain ⟨d0, d1, d2, e0, e1, e2⟩ := hX.cells
    go_wp2_with (refine wpList_store_row rfl 62 _ _ rfl (w.heap.size + 1) #[.slice a3 l3.length c3, .int .i64 T.arm, .bool T.down] rfl rfl 62 _ hZ3 (by kernel_rfl) rfl (by kernel_rfl) ?_)
    refine rW 2 3 4 5 62 62 (w.heap.size + 1) _ _ _ _ _ rfl rfl rfl rfl rfl (hZ3.row _ _ _) Tryz.underlying62 rfl (by kernel_rfl) rfl ?_
    refine ⟨a3, l3, c3, ar, ls, cr, ?_, dR.fr (T := isR (w.heap.size + 1)) (dw _ _ _) (fun k hk => by subst hk; exact ⟨hZ3.noByte ⟨trivial, trivial, trivial⟩, hZ3.noStr ⟨trivial, trivial, trivial⟩⟩), hc3, HL3.out, kQ su hZ3, hcr, rO.out, aJ lD (Nat.le_succ _) _⟩
    rw [show ((m : Int) - (n : Int)) = ((m - n : Nat) : Int) by omega]
    rfl
   ·have q3 : (c != 0) = true := bne_iff_ne.2 hc0
    rw [if_neg hc0] at hrx
    rw [hrx, hdn]
    have HS := Lib.hid HS0
    rw [hdn] at fF
    refine y20 ?_
    intro HBy HLF HFD HDN
    clear hsome hT0 hwl HS0 fF jq hdn hl hru hrc hnil hm hLn he h1 hT hrx hc0 hn
    go_enter Tryz.func36, Tryz.ntmps36
    go_upto_region 1 with fail
    refine y35 ?_
    intro W hW hb0 hD
    refine y9 ?_
    clear hW
    intro hZ d0 d1 d2 e0 e1 e2
    go_upto_region 2 with (go_at_call 21; (with_reducible refine (HBy.out _ (HIN.out.kept hb0)).mono ?_); rintro e w1 ⟨ab, cb, rfl, hby, hcb, hb1⟩)
    refine y13 ?_
    clear d0 d1 d2 e0 e1 e2 hD hZ hb0 hb1
    intro iR hD1 hZ1 hin1 d0 d1 d2 e0 e1 e2
    go_upto_region 5 with (first
     | (go_at_call 45; (with_reducible refine (HFD.out _ hin1).mono ?_); rintro e w2 ⟨rfl, rfl⟩)
     | (go_at_call 68; (with_reducible refine (HS.out _ _ _ hcb hby).mono ?_); rintro e w2 ⟨v2, ls, rfl, hinv, hmap⟩))
    have hb2 : Below w1.heap.size w1 w2 := hinv.bel
    obtain ⟨ar, cr, rfl, kE, hcr⟩ := dL hinv.own hinv.dots
    refine y12 ?_
    clear hinv hmap d0 d1 d2 e0 e1 e2 hD1 hZ1 iR hb2 hby hin1
    intro hbw2 hD2 hZ2 rO hin2 d0 d1 d2 e0 e1 e2
    go_upto_region 8 with (go_at_call 69; (with_reducible refine (HT.out _ hin2).mono ?_); rintro e w3 ⟨a3, l3, c3, rfl, ed, hc3, hl3, hb3⟩)
    refine y14 ?_
    intro W3 hW3 hX hb4 hZ3 dR su lD HL3
    clear hW3 hb3 hb4 hZ2 hD2 hin2 ed kE hbw2 hl3 d0 d1 d2 e0 e1 e2
    obtain ⟨d0, d1, d2, e0, e1, e2⟩ := hX.cells
    go_wp2_with (refine wpList_store_row rfl 62 _ _ rfl (w.heap.size + 1) #[.slice a3 l3.length c3, .int .i64 T.arm, .bool T.down] rfl rfl 62 _ hZ3 (by kernel_rfl) rfl (by kernel_rfl) ?_)
    refine rW 2 3 4 5 62 62 (w.heap.size + 1) _ _ _ _ _ rfl rfl rfl rfl rfl (hZ3.row _ _ _) Tryz.underlying62 rfl (by kernel_rfl) rfl ?_
    exact ⟨a3, l3, c3, none, [], 0, rfl, dR.fr (T := isR (w.heap.size + 1)) (dw _ _ _) (fun k hk => by subst hk; exact ⟨hZ3.noByte ⟨trivial, trivial, trivial⟩, hZ3.noStr ⟨trivial, trivial, trivial⟩⟩), hc3, HL3.out, gG _, Nat.le_refl _, rfl, aJ lD (Nat.le_succ _) _⟩
variable {F : Nat → Prop} {d : Nat} {S : DS} {b : Nat} {D : DataW Unit} {w w' : World}
theorem mM {k : Nat} (h : jK w k) (hb : w'.heap[k]? = w.heap[k]?) : jK w' k := fun o x y h1 h2 => h o x y (by rw [← h1]; exact (World.cell?_of_block (w := w) (a := ⟨k, o, none⟩) hb).symm) (by rw [← h2]; exact (World.cell?_of_block (w := w) (a := ⟨k, o + 1, none⟩) hb).symm)
theorem oQ {T : DS} {L : List Rec} {n : Nat} {c : Int} (hi : DInv S) (h : S.recov = (T, L, n, c)) : (∀ x ∈ L, EvSmall x.e) ∧ L.length ≤ 16777216 := by
 have hs := lM (aV S)
 have hw := iF hi
 have key : L = [] ∨ L = (aC (aV S)).1 := by
  have := congrArg (fun r => r.2.1) h
  simp only at this
  rw [← this]
  unfold DS.recov
  split
  ·exact Or.inl rfl
  ·split
   ·exact Or.inr rfl
   ·split
    ·exact Or.inr rfl
    ·exact Or.inl rfl
 rcases key with rfl | rfl
 ·exact ⟨fun x hx => by simp at hx, by simp⟩
 ·exact ⟨hs.1, by have := hs.2; omega⟩
theorem lJ {a ab ax : Option Addr} {cap cb cx : Nat} {l : List RF} {x : Rec} {n : Int} {bs : Bytes} (h : DkIn w F d S b D) (hi : DInv S) (hF : ∀ k, F k → k < w.heap.size ∧ NoByte w k ∧ NoStr w k) (hFI : ∀ k, F k → jK w k)
 (hin : RFsIn w a l) (hlc : l.length ≤ cap) (hl : az l = S.f) :
 Calls Tryz.prog 19 #[.pointer (some ⟨d, 0, none⟩), aO a l.length cap S.arm S.down, jh ⟨3, n, x, ax, cx, bs, ab, cb⟩] w (RetStepT F d b S.recov.1 w) := by
 obtain ⟨S1, L, nn, c, hr⟩ : ∃ S1 L nn c, S.recov = (S1, L, nn, c) := ⟨_, _, _, _, rfl⟩
 obtain ⟨hsL, hLl⟩ := oQ hi hr
 have hR0 := fun X (hX : Below w.heap.size w X) => kC a cap l X hi hlc hl (hin.kept hX)
 have hP0 := fun X (hX : Below w.heap.size w X) => iE (h.below hX) hi (fun k hk => Nat.lt_of_lt_of_le (hF k hk).1 hX.size)
 rw [hr] at hR0 hP0 ⊢
 have HR := Lib.hid hR0
 have HP := Lib.hid hP0
 clear hR0 hP0 hr h
 go_enter Tryz.func19, Tryz.ntmps19
 go_upto_region 1 with fail
 refine wp_name (fun W hW => ?_)
 have hb0 : Below w.heap.size w W := by rw [hW.out]; go_grown
 have hD : B3 W w.heap.size 62 (.slice a l.length cap) (.int .i64 S.arm) (.bool S.down) := by
  exact z10
 have hZ : B3 W (w.heap.size + 1 + 1) 62 (.slice none 0 0) (.int .i64 0) (.bool false) := by rw [hW.out]; exact cZ w _ _ _
 have hQ : W.rangeAt (w.heap.size + 1) 0 (aQ ⟨3, n, x, ax, cx, bs, ab, cb⟩) := by rw [hW.out]; exact iC ⟨3, n, x, ax, cx, bs, ab, cb⟩ w _ _ _
 have q0 : W.cell? ⟨w.heap.size + 1, 0, none⟩ = some (.int .i64 3) := hQ 0 _ rfl
 clear hW
 obtain ⟨d0, d1, d2, e0, e1, e2⟩ := hD.cells
 clear hQ
 go_upto_region 9 with fail
 go_upto_region 10 with (go_at_call 36; (with_reducible refine (HR.out _ hb0).mono ?_); rintro e w1 ⟨a1, l1, c1, ar, ls, cr, rfl, hin1, hc1, hl1, kE, hcr, hls, hb1⟩)
 have HL1 := Lib.hid hl1
 have HLS := Lib.hid hls
 have lF := hZ.lt
 refine wp_name (fun W1 hW1 => ?_)
 have hX : B3 W1 w1.heap.size 62 (.slice a1 l1.length c1) (.int .i64 S1.arm) (.bool S1.down) := by rw [hW1.out]; exact aF w1 _
 have hbw : Below W.heap.size W W1 := by rw [hW1.out]; exact hb1.alloc hb1.size _
 have hb2 : Below w1.heap.size w1 W1 := by rw [hW1.out]; exact (Below.refl _ _).alloc (Nat.le_refl _) _
 replace hin1 := hin1.kept hb2
 replace kE := kE.kept hb2
 replace hZ := hZ.below hbw
 replace hb0 := below2 hb0 hbw
 have hlt1 : w.heap.size + 1 + 1 < w1.heap.size := Nat.lt_of_lt_of_le lF hb1.size
 have hlt2 : w1.heap.size < W1.heap.size := hX.lt
 clear hW1 hb1 hbw hb2 hl1 hls d0 d1 d2 e0 e1 e2 hD q0
 have hn1 : ¬ F w1.heap.size := fun e => by have := (hF _ e).1; omega
 have hnz : ¬ F (w.heap.size + 1 + 1) := fun e => by have := (hF _ e).1; omega
 go_upto_region 11 with (go_at_call 13; (with_reducible refine (HP.out _ hb0).mono ?_); rintro e w2 ⟨a2, ls2, c2, rfl, hin2, hc2, wG, ⟨D2, hD2⟩, hf2⟩)
 have hpl : ∀ k, F k → NoByte W1 k ∧ NoStr W1 k := fun k hk => dG (hF k hk).2 (hb0.block k (hF k hk).1)
 have hX2 := hX.fr hf2 hn1
 have hZ2 := hZ.fr hf2 hnz
 have wY := hin1.fr hf2 hpl
 have xZ := kE.fr hf2 (fun k hk => ⟨(hpl k hk).2, mM (hFI k hk) (hb0.block k (hF k hk).1)⟩)
 have hfw : Fr F w w2 := (Fr.of_below hb0).again hf2
 have hzz := hf2.size
 have hlen2 : ls2.length ≤ 16777216 := by have := congrArg List.length wG; rw [aT] at this; omega
 have hlen1 : ls.length ≤ 16777216 := by have := congrArg List.length HLS.out; rw [aT] at this; omega
 have hs1 : ∀ y ∈ ls, y.1.e.over.length ≤ 1073741824 := fun y hy => (hsL y.1 (by rw [← HLS.out]; exact List.mem_map_of_mem hy)).over
 have hs2 : ∀ y ∈ ls2, y.1.e.over.length ≤ 1073741824 := fun y hy => (hsL y.1 (by rw [← wG]; exact List.mem_map_of_mem hy)).over
 have HBk := Lib.hid (fun X (hi : RecsIn X a2 ls2) => vU a2 c2 ls2 X (by omega) hi)
 have xG := fun X q c' (h1 : RecsIn X q ls2) (h2 : RecsIn X ar ls) => lV q ar c' cr ls2 ls X (by omega) (by omega) hs2 hs1 h1 h2
 have hdd : decide (bD ls2 = bD ls) = true := decide_eq_true (by rw [wG, HLS.out])
 rw [hdd] at xG
 have HSA := Lib.hid xG
 have hd2 := hin2.dots
 have HD2 := Lib.hid hD2
 have HFW := Lib.hid hfw
 have yV := Lib.hid wY
 have hwz : w.heap.size ≤ W1.heap.size := hb0.size
 have hlz : w.heap.size + 1 + 1 < W1.heap.size := by omega
 clear xG hdd hs1 hs2 hlen1 hlen2 wG hsL hLl hX hZ hin1 kE hf2 hpl hb0 hD2 hfw wY HR HP
 have hq1 : (c == c) = true := beq_self_eq_true c
 have hq2 : ((nn : Int) == (nn : Int)) = true := beq_self_eq_true _
 have hq3 : (nn == nn) = true := beq_self_eq_true _
 have hnx : w.heap.size + 1 + 1 ≠ w1.heap.size := by omega
 have hXd : B3 w2.drew w1.heap.size 62 (.slice a1 l1.length c1) (.int .i64 S1.arm) (.bool S1.down) := hX2
 have hZd : B3 w2.drew (w.heap.size + 1 + 1) 62 (.slice none 0 0) (.int .i64 0) (.bool false) := hZ2
 obtain ⟨x0, x1, x2, y0, y1, y2⟩ := hXd.cells
 obtain ⟨z0, z1, z2, t0, t1, t2⟩ := hZd.cells
 have hB : Below w2.heap.size w2 w2.drew := (Below.refl _ _).drew
 have k0 : w2.cell? ⟨w1.heap.size, 0, none⟩ = some (.slice a1 l1.length c1) := x0
 have k1 : w2.cell? ⟨w1.heap.size, 1, none⟩ = some (.int .i64 S1.arm) := x1
 have k2 : w2.cell? ⟨w1.heap.size, 2, none⟩ = some (.bool S1.down) := x2
 go_region_held3 (fun W' => W'.cell? ⟨w1.heap.size, 0, none⟩ = some (.slice a1 l1.length c1) ∧ W'.cell? ⟨w1.heap.size, 1, none⟩ = some (.int .i64 S1.arm) ∧ W'.cell? ⟨w1.heap.size, 2, none⟩ = some (.bool S1.down)) (first | exact ⟨kept hB k0, kept hB k1, kept hB k2⟩ | go_keep)
  (first
   | (go_at_call 14; (with_reducible refine (HBk.out _ (hin2.kept hB)).mono ?_); rintro v w4 ⟨vb, rfl, jX, hb4⟩; obtain ⟨aq, cq, rfl, yJ, _⟩ := dL jX (fun x hx => ((hd2 x hx).kept hB).kept hb4); replace hB := below2 hB hb4; clear jX hb4)
   | (go_at_call 15; (with_reducible refine (HSA.out _ _ _ yJ (xZ.kept hB)).mono ?_); rintro v w5 ⟨rfl, hb5⟩; replace hB := below2 hB hb5; have hZ5 := hZ2.below hB; clear z0 z1 z2 t0 t1 t2; obtain ⟨z0, z1, z2, t0, t1, t2⟩ := hZ5.cells))
 all_goals
  clear x0 x1 x2 y0 y1 y2 k0 k1 k2 z0 z1 z2 t0 t1 t2
  go_wp2
  refine dA 6 7 62 62 (w.heap.size + 1 + 1) _ _ _ rfl rfl rfl (((hZ5.set0 _).set1 _).set2 _) Tryz.underlying62 rfl (by kernel_rfl) rfl ?_
  exact ⟨iI (w1 := W1) a1 l1 c1 _ rfl (yV.out.kept hB) hc1 HL1.out (HD2.out.below hB) hZ5 (HFW.out.again (Fr.of_below hB)) hwz (by omega) hnz hlz, _, rfl⟩
theorem oD {a ab ax : Option Addr} {cap cb cx : Nat} {l : List RF} {x : Rec} {n : Int} {bs : Bytes} (h : DkIn w F d S b D) (hi : DInv S) (hF : ∀ k, F k → k < w.heap.size ∧ NoByte w k ∧ NoStr w k)
 (hin : RFsIn w a l) (hl : az l = S.f) (hn : iP n) :
 Calls Tryz.prog 19 #[.pointer (some ⟨d, 0, none⟩), aO a l.length cap S.arm S.down, jh ⟨5, n, x, ax, cx, bs, ab, cb⟩] w (RetStepT F d b (S.crash [(logS, n)]) w) := by
 have hll : l.length ≤ 16777216 := by have := congrArg List.length hl; rw [List.length_map] at this; have := hi.len; omega
 have hok : ∀ g ∈ l, g.f.safe ≤ g.f.b.length ∧ g.f.b.length ≤ 1073741824 := fun g hg => by
  have := hi.ok g.f (by rw [← hl]; exact List.mem_map_of_mem hg)
  exact ⟨this.safe, Nat.le_trans this.len (by decide)⟩
 go_enter Tryz.func19, Tryz.ntmps19
 go_upto_region 1 with fail
 refine wp_name (fun W hW => ?_)
 have hb0 : Below w.heap.size w W := by rw [hW.out]; go_grown
 have hD : B3 W w.heap.size 62 (.slice a l.length cap) (.int .i64 S.arm) (.bool S.down) := by
  exact z10
 have hZ : B3 W (w.heap.size + 1 + 1) 62 (.slice none 0 0) (.int .i64 0) (.bool false) := by rw [hW.out]; exact cZ w _ _ _
 have hQ : W.rangeAt (w.heap.size + 1) 0 (aQ ⟨5, n, x, ax, cx, bs, ab, cb⟩) := by rw [hW.out]; exact iC ⟨5, n, x, ax, cx, bs, ab, cb⟩ w _ _ _
 have q0 : W.cell? ⟨w.heap.size + 1, 0, none⟩ = some (.int .i64 5) := hQ 0 _ rfl
 clear hW
 obtain ⟨d0, d1, d2, e0, e1, e2⟩ := hD.cells
 have q1 : W.cell? ⟨w.heap.size + 1, 1, none⟩ = some (.int .i64 n) := hQ 1 _ rfl
 have HC := Lib.hid (fun X (p : Option Addr) (cp : Nat) (hX : Below w.heap.size w X) (hc : CellsIn X p (kcs [(logS, n)])) => Crash_any (ck := cp) [(logS, n)] (h.below hX) hi (by simp) (by intro p hp; simp only [List.mem_singleton] at hp; subst hp; exact ⟨logS_size, uH hn⟩) hc)
 have HK : Hid (∀ X p cp, Below w.heap.size w X → CellsIn X p (kcs [(logS, n)]) → Calls Tryz.prog 12 #[.pointer (some ⟨d, 0, none⟩), .slice p 1 cp] X fun e w' => e = .returned (.tuple #[]) ∧ DkIn w' F d (S.crash [(logS, n)]) b D ∧ Fr F X w') := HC
 have hnz : ¬ F (w.heap.size + 1 + 1) := fun e => by have := (hF _ e).1; omega
 have hnq : ¬ F (w.heap.size + 1) := fun e => by have := (hF _ e).1; omega
 have hnd : ¬ F w.heap.size := fun e => by have := (hF _ e).1; omega
 clear hQ
 go_upto_region 17 with (go_at_call 12; (with_reducible refine (HK.out _ _ _ (hb0.alloc hb0.size _) (uX _ _ _)).mono ?_); rintro e w2 ⟨rfl, hD2, hf2⟩)
 have hal : Below W.heap.size W (W.alloc (.cells #[.string ⟨#[108, 111, 103]⟩, .int .i64 n] 49)) := (Below.refl _ _).alloc (Nat.le_refl _) _
 have hin2 : RFsIn w2 a l := ((hin.kept hb0).kept hal).fr hf2 (fun k e => dG (hF k e).2 ((below2 hb0 hal).block k (hF k e).1))
 have hDb := (hD.below hal).fr hf2 hnd
 have hZ2 := (hZ.below hal).fr hf2 hnz
 have q12 := hf2.kept (kept hal q1) hnq
 have yO : Fr F w w2 := (Fr.of_below (below2 hb0 hal)).again hf2
 clear d0 d1 d2 e0 e1 e2 hD hZ q0 q1 hf2 hal HC HK hb0
 obtain ⟨d0, d1, d2, e0, e1, e2⟩ := hDb.cells
 have q13 : (w2.alloc (.cells #[.string ⟨#[108, 111, 103]⟩] 9)).cell? ⟨w.heap.size + 1, 1, none⟩ = some (.int .i64 n) := kept ((Below.refl _ _).alloc (Nat.le_refl _) _) q12
 have hA1 : (w2.alloc (.cells #[.string ⟨#[108, 111, 103]⟩] 9)).heap.size = w2.heap.size + 1 := by simp
 have hBB : Below w2.heap.size w2 ((w2.alloc (.cells #[.string ⟨#[108, 111, 103]⟩] 9)).alloc (.cells #[.int .i64 n] 3)) := ((Below.refl _ _).alloc (Nat.le_refl _) _).alloc (by simp) _
 have g1 : CellsIn ((w2.alloc (.cells #[.string ⟨#[108, 111, 103]⟩] 9)).alloc (.cells #[.int .i64 n] 3)) (some ⟨w2.heap.size, 0, none⟩) [.string ⟨#[108, 111, 103]⟩] := (cell1_new _ _ _).kept ((Below.refl _ _).alloc (Nat.le_refl _) _)
 have g2 : CellsIn ((w2.alloc (.cells #[.string ⟨#[108, 111, 103]⟩] 9)).alloc (.cells #[.int .i64 n] 3)) (some ⟨w2.heap.size + 1, 0, none⟩) [.int .i64 n] := by
  have := cell1_new (w2.alloc (.cells #[.string ⟨#[108, 111, 103]⟩] 9)) (.int .i64 n) 3
  rwa [hA1] at this
 have G1 := Lib.hid g1
 have G2 := Lib.hid g2
 have GB := Lib.hid hBB
 clear hA1 g1 g2 hBB
 have HL : Hid (∀ X p cp q cq, Below w2.heap.size w2 X → CellsIn X p [.string ⟨#[108, 111, 103]⟩] → CellsIn X q [.int .i64 n] → Calls Tryz.prog 38 #[aO a l.length cap S.arm S.down, .slice p 1 cp, .slice q 1 cq] X fun e w' => ∃ (a' : Option Addr) (l' : List RF) (cap' : Nat), e = .returned (aO a' l'.length cap' 0 false) ∧
  RFsIn w' a' l' ∧ l'.length ≤ cap' ∧ az l' = (az l).map (crashF [(logS, n)]) ∧ Below X.heap.size X w') := Lib.hid fun X p cp q cq hX h1 h2 => qN a p q cap cp cq S.arm S.down l [(logS, n)] X hll (by simp) hok (hin2.kept hX) h1 h2
 go_wp2_with (first
  | (go_at_call 38; (with_reducible refine (HL.out _ _ _ _ _ GB.out G1.out G2.out).mono ?_); rintro e w4 ⟨a4, l4, c4, rfl, dR, hc4, hl4, hb4⟩; have HL4 := Lib.hid hl4; clear hl4; replace hb4 := below2 GB.out hb4; have hZ4 := hZ2.below hb4)
  | (refine wpList_store_row rfl 62 _ _ rfl (w.heap.size + 1 + 1) #[.slice a4 l4.length c4, .int .i64 0, .bool false] rfl rfl 62 _ hZ4 (by kernel_rfl) rfl (by kernel_rfl) ?_)
  )
 refine dA 6 7 62 62 (w.heap.size + 1 + 1) _ _ _ rfl rfl rfl (hZ4.row _ _ _) Tryz.underlying62 rfl (by kernel_rfl) rfl ?_
 exact ⟨mD (S1 := S.crash [(logS, n)]) a4 l4 c4 _ rfl dR hc4 (by rw [HL4.out, hl]; rfl) (hD2.below hb4) hZ4 (yO.again (Fr.of_below hb4)) (by omega) hnz, _, rfl⟩
theorem qj {a ab ax : Option Addr} {cap cb cx : Nat} {l : List RF} {x : Rec} {n kd : Int} {bs : Bytes} (h : DkIn w F d S b D) (hF : ∀ k, F k → k < w.heap.size ∧ NoByte w k ∧ NoStr w k)
 (hin : RFsIn w a l) (hlc : l.length ≤ cap) (hl : az l = S.f) (hk : kd ≠ 1 ∧ kd ≠ 2 ∧ kd ≠ 3 ∧ kd ≠ 4 ∧ kd ≠ 5 ∧ kd ≠ 6 ∧ kd ≠ 7) :
 Calls Tryz.prog 19 #[.pointer (some ⟨d, 0, none⟩), aO a l.length cap S.arm S.down, jh ⟨kd, n, x, ax, cx, bs, ab, cb⟩] w (RetStepT F d b S w) := by
 obtain ⟨k1, k2, k3, k4, k5, k6, k7⟩ := hk
 have r1 : (kd == 1) = false := beq_eq_false_iff_ne.2 k1
 have r2 : (kd == 2) = false := beq_eq_false_iff_ne.2 k2
 have r3 : (kd == 3) = false := beq_eq_false_iff_ne.2 k3
 have r4 : (kd == 4) = false := beq_eq_false_iff_ne.2 k4
 have r5 : (kd == 5) = false := beq_eq_false_iff_ne.2 k5
 have r6 : (kd == 6) = false := beq_eq_false_iff_ne.2 k6
 have r7 : (kd == 7) = false := beq_eq_false_iff_ne.2 k7
 have hnz : ¬ F (w.heap.size + 1 + 1) := fun e => by have := (hF _ e).1; omega
 clear k1 k2 k3 k4 k5 k6 k7
 go_enter Tryz.func19, Tryz.ntmps19
 go_upto_region 1 with fail
 refine wp_name (fun W hW => ?_)
 have hb0 : Below w.heap.size w W := by rw [hW.out]; go_grown
 have hD : B3 W w.heap.size 62 (.slice a l.length cap) (.int .i64 S.arm) (.bool S.down) := by
  exact z10
 have hZ : B3 W (w.heap.size + 1 + 1) 62 (.slice none 0 0) (.int .i64 0) (.bool false) := by rw [hW.out]; exact cZ w _ _ _
 have hQ : W.rangeAt (w.heap.size + 1) 0 (aQ ⟨kd, n, x, ax, cx, bs, ab, cb⟩) := by rw [hW.out]; exact iC ⟨kd, n, x, ax, cx, bs, ab, cb⟩ w _ _ _
 have q0 : W.cell? ⟨w.heap.size + 1, 0, none⟩ = some (.int .i64 kd) := hQ 0 _ rfl
 clear hW
 obtain ⟨d0, d1, d2, e0, e1, e2⟩ := hD.cells
 clear hQ
 go_wp2_with (refine wpList_store_row rfl 62 _ _ rfl (w.heap.size + 1 + 1) #[.slice a l.length cap, .int .i64 S.arm, .bool S.down] rfl rfl 62 _ hZ (by kernel_rfl) rfl (by kernel_rfl) ?_)
 refine dA 6 7 62 62 (w.heap.size + 1 + 1) _ _ _ rfl rfl rfl (hZ.row _ _ _) Tryz.underlying62 rfl (by kernel_rfl) rfl ?_
 exact ⟨mD a l cap _ rfl (hin.kept hb0) hlc hl (h.below hb0) hZ (Fr.of_below hb0) (by omega) hnz, _, rfl⟩
end Go.Proofs.YtlefejokpdjpgaaGreat
