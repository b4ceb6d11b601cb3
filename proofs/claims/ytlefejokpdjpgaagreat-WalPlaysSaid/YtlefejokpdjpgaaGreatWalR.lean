/- The log's laws: the program answers at all; the law WalNils. Conditions: none. -/
import Derived.Test.YtlefejokpdjpgaaGreatRest
import Derived.Test.YtlefejokpdjpgaaGreatDStep
import Derived.Test.YtlefejokpdjpgaaGreatLoad
import Derived.Test.YtlefejokpdjpgaaGreatDRefE
import Derived.Test.YtlefejokpdjpgaaGreatDRefG
import Derived.Test.YtlefejokpdjpgaaGreatLast
set_option linter.unusedSimpArgs false
set_option linter.unusedVariables false
set_option linter.unnecessarySimpa false
set_option maxHeartbeats 16000000
set_option maxRecDepth 100000
namespace Go.Proofs.YtlefejokpdjpgaaGreat
open Go.RowKit
variable {F : Nat → Prop} {d : Nat} {S : DS} {b : Nat} {D : DataW Unit} {w w' : World}
theorem kL (R : List Rec) (sb : Nat) (h : sb ≤ (aj R).length) (hl : (aj R).length ≤ 16777216) : DInv (gy R sb) := by
 unfold gy
 by_cases hR : R = []
 ·rw [if_pos hR]; exact DInv.new
 ·rw [if_neg hR]
  exact ⟨List.pairwise_singleton _ _, by simp, by simp, fun f hf => by
   simp only [List.mem_singleton] at hf; subst hf; exact ⟨gV, hl, h⟩⟩
/-- a recovery of a disk all of whose blocks are new -/
theorem RetRecov.own {B : Nat} {X : World} {r : DS × List Rec × Nat × Int} {e : Ending} (h : RetRecov (Ex X (fun k => B ≤ k) d b D) d b r X e w') (hB : B ≤ X.heap.size) :
 ∃ (a : Option Addr) (ls : List aY) (cap : Nat), e = .returned (.tuple #[.slice a ls.length cap, .int .i64 (r.2.2.1 : Nat), .int .i64 r.2.2.2]) ∧ RecsIn w' a ls ∧ ls.length ≤ cap ∧ bD ls = r.2.1 ∧
   (∃ D', DkIn w' (fun k => B ≤ k) d r.1 b D') ∧ Fr (Ex X (fun k => B ≤ k) d b D) X w' ∧ Below B X w' := by
 obtain ⟨a, ls, cap, h1, h2, h3, h4, ⟨D', h5⟩, h6⟩ := h
 exact ⟨a, ls, cap, h1, h2, h3, h4, ⟨D', h5.mono fun k hk => by rcases hk with hk | hk; exact hk.1; exact Nat.le_trans hB hk⟩, h6, h6.below hB fun k hk => hk.1⟩
def gK : Rec := ⟨1, 2, ev0⟩
theorem rY : bH gK = true := by decide +kernel
theorem xh : dQ gK = [1, 2] := by
 unfold dQ gK
 rw [if_pos rfl, show (1 : Int).toNat = 1 from rfl, show (2 : Int).toNat = 2 from rfl, shortB_small 1 (by omega), shortB_small 2 (by omega)]; rfl
theorem kS : (aN dZ).length = 7 := by
 obtain ⟨r, hr, h4⟩ := tq
 rw [hr]; simp [h4]
theorem oV : (aN gK).length = 7 := by
 unfold aN bG
 rw [xh, show ([1, 2] : Bytes).length = 2 from rfl, shortB_small 2 (by omega)]
 rfl
theorem qR (x : Rec) : aj [x] = aN x := by simp [aj]
theorem qQ (x y : Rec) : aj [x, y] = aN x ++ aN y := by simp [aj]
/-- the example's disks -/
def W0 : DS := ⟨[], 0, false⟩
def W1 : DS := gy [dZ] 0
def W2 : DS := gy [dZ] 7
def W3 : DS := gy [dZ, gK] 7
theorem len1 : (aj [dZ]).length = 7 := by rw [qR, kS]
theorem uU : (aj [dZ, gK]).length = 14 := by rw [qQ, List.length_append, kS, oV]
theorem xU : W0.append logS (aN dZ) = (W1, 0) := oJ [] 0 dZ (fun _ => rfl) (by rw [kS]; simp [aj])
theorem xR : ∃ c, W1.sync logS = (W2, c) ∧ dB c = 0 := by
 have := sJ [dZ] 0
 rw [if_neg (by simp), len1] at this
 exact this
theorem xQ : W2.append logS (aN gK) = (W3, 0) := oJ [dZ] 7 gK (fun h => by simp at h) (by rw [len1, oV]; decide)
theorem vX : eQ W3 = 14 := by
 unfold eQ
 rw [if_neg (by decide)]
 show (aV (gy [dZ, gK] 7)).length = 14
 have : aV (gy [dZ, gK] 7) = aj [dZ, gK] := by unfold gy; rw [if_neg (by simp)]; simp [aV, getF]
 rw [this, uU]
theorem xP : ∃ T, (W3.crash [(logS, 3)]).recov = (T, [dZ], 3, 0) := by
 have hok : je [dZ, gK] := sZ (fun x hx => by
  rcases List.mem_cons.1 hx with rfl | hx
  ·exact rZ
  ·obtain rfl : x = gK := by simpa using hx
   exact rY)
 obtain ⟨k, T, n, h1, h2, h3, -, h5⟩ := qm [dZ, gK] hok 1 7 (by simp) (by simp [len1]) 3
 obtain ⟨h6, h7, h8⟩ := h5 (by simp)
 have hc : 7 + clampK 3 ((aj [dZ, gK]).length - 7) = 10 := by rw [uU]; rfl
 rw [hc] at h6 h7 h8
 simp only [List.length_cons, List.length_nil, Nat.zero_add, Nat.reduceAdd] at h1 h7
 obtain rfl : k = 1 := by
  rcases Nat.lt_or_ge k 2 with h | h
  ·omega
  ·obtain rfl : k = 2 := by omega
   have : ([dZ, gK] : List Rec).take 2 = [dZ, gK] := rfl
   rw [this, uU] at h6
   omega
 have e1 : ([dZ, gK] : List Rec).take 1 = [dZ] := rfl
 rw [e1, len1] at h8
 rw [e1] at h3
 subst h8
 exact ⟨T, h3⟩
theorem iv1 : DInv W1 := kL _ _ (Nat.zero_le _) (by rw [len1]; decide)
theorem iv2 : DInv W2 := kL _ _ (by rw [len1]; exact Nat.le_refl _) (by rw [len1]; decide)
theorem iv3 : DInv W3 := kL _ _ (by rw [uU]; decide) (by rw [uU]; decide)
theorem uY (w : World) (t : TypeId) : CellsIn (w.alloc (.cells #[.string ⟨#[108, 111, 103]⟩, .int .i64 3] t)) (some ⟨w.heap.size, 0, none⟩) (kcs [(⟨#[108, 111, 103]⟩, 3)]) := by
 refine Or.inr ⟨_, _, rfl, fun j v hv => ?_⟩
 rw [Nat.zero_add, World.cell?_alloc_new]
 simpa [kcs] using hv
theorem pM (w : World) : Calls Tryz.prog 6 #[] w fun e w' => e = .returned (.bool true) ∧ Below w.heap.size w w' := by
 have HNW : Hid (Calls Tryz.prog 7 #[] w fun e w' => e = .returned (.pointer (some ⟨w.heap.size + 1, 0, none⟩)) ∧ DkIn w' (fun k => w.heap.size ≤ k) (w.heap.size + 1) W0 w.heap.size (.map []) ∧ Below w.heap.size w w') := Lib.hid (New_any w)
 obtain ⟨c2, hc2, hb2⟩ := xR
 obtain ⟨T, hT⟩ := xP
 have HA1 : Hid (∀ X D, DkIn X (fun k => w.heap.size ≤ k) (w.heap.size + 1) W0 w.heap.size D → Calls Tryz.prog 9 #[.pointer (some ⟨w.heap.size + 1, 0, none⟩), .agg #[.int .i64 1, .int .i64 1, .int .i64 0, .int .i64 0, .int .i64 0, .int .i64 0, .int .i64 0, .int .i64 0, .int .i64 0, .string ⟨#[]⟩, .string ⟨#[]⟩, .string ⟨#[]⟩, .string ⟨#[]⟩, .bool false, .bool false, .bool false, .bool false, .int .i64 0, .int .i64 0, .int .i64 0, .slice none 0 0]] X (RetDk (fun k => w.heap.size ≤ k) (w.heap.size + 1) w.heap.size W1 0 X)) := Lib.hid fun X D h => by
  have := fJ (x := dZ) none 0 h DInv.new (Or.inl rfl) (fun A off h => by cases h) rZ
  rw [xU] at this
  exact this
 have HA3 : Hid (∀ X D, DkIn X (fun k => w.heap.size ≤ k) (w.heap.size + 1) W2 w.heap.size D → Calls Tryz.prog 9 #[.pointer (some ⟨w.heap.size + 1, 0, none⟩), .agg #[.int .i64 1, .int .i64 2, .int .i64 0, .int .i64 0, .int .i64 0, .int .i64 0, .int .i64 0, .int .i64 0, .int .i64 0, .string ⟨#[]⟩, .string ⟨#[]⟩, .string ⟨#[]⟩, .string ⟨#[]⟩, .bool false, .bool false, .bool false, .bool false, .int .i64 0, .int .i64 0, .int .i64 0, .slice none 0 0]] X (RetDk (fun k => w.heap.size ≤ k) (w.heap.size + 1) w.heap.size W3 0 X)) := Lib.hid fun X D h => by
  have := fJ (x := gK) none 0 h iv2 (Or.inl rfl) (fun A off h => by cases h) rY
  rw [xQ] at this
  exact this
 have HS2 : Hid (∀ X D, DkIn X (fun k => w.heap.size ≤ k) (w.heap.size + 1) W1 w.heap.size D → Calls Tryz.prog 11 #[.pointer (some ⟨w.heap.size + 1, 0, none⟩)] X (RetDk (fun k => w.heap.size ≤ k) (w.heap.size + 1) w.heap.size W2 0 X)) := Lib.hid fun X D h => by
  have := jM h iv1
  rw [hc2] at this
  simp only [hb2] at this
  exact this
 have HZ4 : Hid (∀ X D, DkIn X (fun k => w.heap.size ≤ k) (w.heap.size + 1) W3 w.heap.size D → Calls Tryz.prog 17 #[.pointer (some ⟨w.heap.size + 1, 0, none⟩)] X fun e w' => e = .returned (.int .i64 14) ∧ Below X.heap.size X w') := Lib.hid fun X D h => by
  have := iD h iv3
  rw [vX] at this
  exact this
 have HC5 : Hid (∀ X D a c, DkIn X (fun k => w.heap.size ≤ k) (w.heap.size + 1) W3 w.heap.size D → CellsIn X a (kcs [(logS, 3)]) → Calls Tryz.prog 12 #[.pointer (some ⟨w.heap.size + 1, 0, none⟩), .slice a 1 c] X fun e w' => e = .returned (.tuple #[]) ∧ DkIn w' (fun k => w.heap.size ≤ k) (w.heap.size + 1) (W3.crash [(logS, 3)]) w.heap.size D ∧ Fr (fun k => w.heap.size ≤ k) X w') := Lib.hid fun X D a c h hk => Crash_any (ck := c) [(logS, 3)] h iv3 (by simp) (by intro p hp; simp only [List.mem_singleton] at hp; subst hp; exact ⟨logS_size, by decide⟩) hk
 have HR6 : Hid (∀ X D, w.heap.size ≤ X.heap.size → DkIn X (fun k => w.heap.size ≤ k) (w.heap.size + 1) (W3.crash [(logS, 3)]) w.heap.size D → Calls Tryz.prog 13 #[.pointer (some ⟨w.heap.size + 1, 0, none⟩)] X fun e w' => ∃ a c, e = .returned (.tuple #[.slice a 1 c, .int .i64 3, .int .i64 0]) ∧ Below w.heap.size X w') := Lib.hid fun X D hz h => by
  have := iE h.exact (iv3.crash _) (fun k hk => hk.2.1)
  rw [hT] at this
  refine this.mono ?_
  intro e w' hr
  obtain ⟨a, ls, cap, rfl, -, -, hls, -, -, hb⟩ := hr.own hz
  have hl : ls.length = 1 := by have := congrArg List.length hls; rwa [aT] at this
  rw [hl]
  exact ⟨a, cap, rfl, hb⟩
 clear hc2 hb2 hT
 go_enter Tryz.func6, Tryz.ntmps6
 go_upto_region 2 with (go_at_call 7; (with_reducible refine HNW.out.mono ?_); rintro e w1 ⟨rfl, hN, hb1⟩)
 have hz1 := hb1.size
 go_upto_region 3 with (first | (refine Great.wpList_buildTo rfl 44 _ rfl _ rfl #[.int .i64 1, .int .i64 1, .int .i64 0, .int .i64 0, .int .i64 0, .int .i64 0, .int .i64 0, .int .i64 0, .int .i64 0, .string ⟨#[]⟩, .string ⟨#[]⟩, .string ⟨#[]⟩, .string ⟨#[]⟩, .bool false, .bool false, .bool false, .bool false, .int .i64 0, .int .i64 0, .int .i64 0, .slice none 0 0] (by kernel_rfl) ?_) | (go_at_call 9; (with_reducible refine (HA1.out _ _ hN).mono ?_); intro e w2 hr; obtain ⟨rfl, ⟨D2, hD2⟩, hb2⟩ := hr.own hz1; replace hb2 := hb1.trans hb2))
 have hz2 := hb2.size
 go_upto_region 4 with (go_at_call 11; (with_reducible refine (HS2.out _ _ hD2).mono ?_); intro e w3 hr; obtain ⟨rfl, ⟨D3, hD3⟩, hb3⟩ := hr.own hz2; replace hb3 := hb2.trans hb3)
 have hz3 := hb3.size
 go_upto_region 5 with (first | (refine Great.wpList_buildTo rfl 44 _ rfl _ rfl #[.int .i64 1, .int .i64 2, .int .i64 0, .int .i64 0, .int .i64 0, .int .i64 0, .int .i64 0, .int .i64 0, .int .i64 0, .string ⟨#[]⟩, .string ⟨#[]⟩, .string ⟨#[]⟩, .string ⟨#[]⟩, .bool false, .bool false, .bool false, .bool false, .int .i64 0, .int .i64 0, .int .i64 0, .slice none 0 0] (by kernel_rfl) ?_) | (go_at_call 9; (with_reducible refine (HA3.out _ _ hD3).mono ?_); intro e w4 hr; obtain ⟨rfl, ⟨D4, hD4⟩, hb4⟩ := hr.own hz3; replace hb4 := hb3.trans hb4))
 have hz4 := hb4.size
 go_upto_region 6 with (go_at_call 17; (with_reducible refine (HZ4.out _ _ hD4).mono ?_); rintro e w5 ⟨rfl, hb5⟩; have hD5 := hD4.below hb5; replace hb5 := hb4.trans (hb5.mono hz4))
 have hz5 := hb5.size
 go_upto_region 7 with (go_at_call 12; (with_reducible refine (HC5.out _ _ _ _ (hD5.below ((Below.refl _ _).alloc (Nat.le_refl _) _)) ?_).mono ?_); exact uY _ _; rintro e w6 ⟨rfl, hD6, hf6⟩)
 have hb6 : Below w.heap.size w w6 := (hb5.alloc hz5 _).trans (hf6.below (by simp; omega) fun k hk => hk)
 have hz6 := hb6.size
 go_wp2_with (go_at_call 13; (with_reducible refine (HR6.out _ _ hz6 hD6).mono ?_); rintro e w7 ⟨a7, c7, rfl, hb7⟩)
 go_ret
 exact ⟨rfl, hb6.trans hb7⟩
variable {S : DS} {w w' : World}
theorem bT {T : Nat → Prop} {B o : Nat} {vs : List Value} (h : w.rangeAt B o vs) (hf : Fr T w w') (hn : ¬ T B) : w'.rangeAt B o vs := fun j v hv => hf.kept (h j v hv) hn
theorem bP {B o g : Nat} {vs : List Value} {cs : Array Value} (h : w.rangeAt B o vs) (hn : B ≠ g) : (w.setRow g cs).rangeAt B o vs := bT (T := isR g) h (dw _ _ _) (fun e => hn e)
theorem jT (c : Int) (w : World) : Calls Tryz.prog 67 #[.int .i64 c] w fun e w' => e = .returned (.int .i64 (dB c)) ∧ w = w' := by
 by_cases h : c = 10
 ·subst h
  go_enter Tryz.func67, Tryz.ntmps67
  go_wp2
  go_ret
  exact ⟨rfl, rfl⟩
 ·have q : (c == 10) = false := beq_eq_false_iff_ne.2 h
  have HE : Hid (dB c = c) := if_neg h
  clear h
  go_enter Tryz.func67, Tryz.ntmps67
  go_wp2
  go_ret
  exact ⟨by rw [HE.out]; rfl, rfl⟩
/-- the log in a slice of files -/
theorem pI {l : List RF} (hl : az l = S.f) : (eP (az l) logS = -1 ∧ getF S.f logS = none) ∨ ∃ (j : Nat) (h : j < l.length), eP (az l) logS = j ∧ getF S.f logS = some l[j].f := by
 unfold eP
 cases hx : kD (az l) logS with
 | none => exact Or.inl ⟨rfl, by rw [← hl]; exact mQ hx⟩
 | some j =>
   obtain ⟨h1, h2⟩ := pz hx
   have h3 : j < l.length := by simpa using h1
   refine Or.inr ⟨j, h3, rfl, ?_⟩
   rw [← hl, h2]
   simp
theorem y28 {p q : Prop} (k : q) (h : PLift q → p := by
 intro kk
 refine y38 ?_
 intro W hW hb0
 have hB : B3 W w.heap.size 62 (.slice a l.length cap) (.int .i64 arm) (.bool down) := by rw [hW.out]; exact aF w _
 have hin := h.kept hb0
 clear hW
 obtain ⟨d0, d1, d2, e0, e1, e2⟩ := hB.cells
 revert W hb0 hB hin d0 d1 d2 e0 e1 e2
 exact kk.down) : p := h ⟨k⟩
theorem fM (a : Option Addr) (cap arm : Nat) (down : Bool) (l : List RF) (w : World) (hl : az l = S.f) (hll : l.length ≤ 16777216) (h : RFsIn w a l) :
 Calls Tryz.prog 21 #[aO a l.length cap arm down] w fun e w' => ∃ ab cb, e = .returned (.slice ab (aV S).length cb) ∧ BytesIn w' ab (aV S) ∧ (aV S).length ≤ cb ∧ Below w.heap.size w w' := by
 have jq : ∀ X, RFsIn X a l → Calls Tryz.prog 45 #[.slice a l.length cap, .string ⟨#[108, 111, 103]⟩] X fun e w' => e = .returned (.int .i64 (eP (az l) logS)) ∧ X = w' := fun X h => jU a cap l logS X (by omega) h
 rcases pI hl with ⟨hf, hg⟩ | ⟨j, hj, hf, hg⟩
 ·have hw : aV S = [] := by unfold aV; rw [hg]
  rw [hw]
  rw [hf] at jq
  have HFD := Lib.hid jq
  clear jq hf hg hw hl
  go_enter Tryz.func21, Tryz.ntmps21
  go_upto_region 1 with fail
  refine y28 ?_
  intro W hb0 hB hin d0 d1 d2 e0 e1 e2
  go_wp2_with (go_at_call 45; (with_reducible refine (HFD.out _ hin).mono ?_); rintro e w1 ⟨rfl, rfl⟩)
  go_ret
  exact ⟨_, 0, rfl, Or.inl rfl, Nat.le_refl _, hb0.alloc hb0.size _⟩
 ·have hw : aV S = l[j].f.b := by unfold aV; rw [hg]
  obtain ⟨M, hM⟩ : ∃ M, M = l[j].f.b := ⟨_, rfl⟩
  rw [← hM] at hw
  rw [hw]
  rw [hf] at jq
  have HFD := Lib.hid jq
  have hj0 : ¬ ((j : Int) < 0) := by omega
  have hj1 : (j : Int) < (l.length : Int) := by omega
  have hj2 : (0 : Int) ≤ (j : Int) := by omega
  clear jq hf hg hw hl
  go_enter Tryz.func21, Tryz.ntmps21
  go_upto_region 1 with fail
  refine y28 ?_
  intro W hb0 hB hin d0 d1 d2 e0 e1 e2
  obtain ⟨A, off, rfl, hr, hok⟩ := hin.at hj
  have c1 := hr j hj 1 _ rfl
  have hby := hok.bytes
  have hca := hok.cap
  rw [← hM] at hby hca
  have c2 : W.cell? ⟨A, off + j * 3 + 1, none⟩ = some (.slice l[j].a M.length l[j].cap) := by rw [hM]; exact c1
  have HOK := Lib.hid (And.intro hby hca)
  clear hr hok c1 hby hca hM
  go_wp2_with (go_at_call 45; (with_reducible refine (HFD.out _ hin).mono ?_); rintro e w1 ⟨rfl, rfl⟩)
  go_ret
  exact ⟨l[j].a, l[j].cap, rfl, HOK.out.1, HOK.out.2, hb0⟩
theorem nM (a : Option Addr) (cap : Nat) (l : List RF) (w : World) (hi : DInv S) (hlc : l.length ≤ cap) (hl : az l = S.f) (h : RFsIn w a l) :
 Calls Tryz.prog 35 #[aO a l.length cap S.arm S.down] w (eG (S.sync logS).1 (dB (S.sync logS).2) w) := by
 have hll : l.length ≤ 8 := by have := congrArg List.length hl; rw [List.length_map] at this; have := hi.len; omega
 have hgb : ∀ g ∈ l, g.f.b.length ≤ 16777216 := fun g hg => (hi.ok g.f (by rw [← hl]; exact List.mem_map_of_mem hg)).len
 have hSl : (⟨az l, S.arm, S.down⟩ : DS) = S := by rw [hl]
 obtain ⟨T, c, hT⟩ : ∃ T c, S.sync logS = (T, c) := ⟨_, _, rfl⟩
 have h0 : ∀ X, RFsIn X a l → Calls Tryz.prog 66 #[aO a l.length cap S.arm S.down, .string ⟨#[108, 111, 103]⟩] X (eG T c X) := fun X h => by
  have := tJ a cap S.arm S.down l logS X (by omega) hlc hi.arm logS_size h
  rw [hSl, vZ hi.srt logS, hT] at this
  exact this
 rw [hT]
 have HN := Lib.hid h0
 have HB := Lib.hid (fun X => jT c X)
 have HSY := Lib.hid hSl
 clear h0 hT hgb hSl
 go_enter Tryz.func35, Tryz.ntmps35
 go_upto_region 1 with fail
 refine wp_name (fun W hW => ?_)
 have hb0 : Below w.heap.size w W := by rw [hW.out]; go_grown
 have hD : B3 W w.heap.size 62 (.slice a l.length cap) (.int .i64 S.arm) (.bool S.down) := by
  exact z4
 have hZ : B3 W (w.heap.size + 1) 62 (.slice none 0 0) (.int .i64 0) (.bool false) := by rw [hW.out]; exact bn w _ _
 have hin := h.kept hb0
 clear hW
 obtain ⟨d0, d1, d2, e0, e1, e2⟩ := hD.cells
 go_upto_region 2 with (go_at_call 66; (with_reducible refine (HN.out _ hin).mono ?_); rintro e w1 ⟨a1, l1, c1, rfl, hin1, hc1, hl1, hb1⟩)
 refine wp_name (fun W1 hW1 => ?_)
 have hX : B3 W1 w1.heap.size 62 (.slice a1 l1.length c1) (.int .i64 T.arm) (.bool T.down) := by rw [hW1.out]; exact aF w1 _
 have hb2 : Below w1.heap.size w1 W1 := by rw [hW1.out]; exact (Below.refl _ _).alloc (Nat.le_refl _) _
 have hZ1 := (hZ.below hb1).below hb2
 have hbw := below2 (below2 hb0 hb1) hb2
 have hzz : w.heap.size + 1 < w1.heap.size := Nat.lt_of_lt_of_le hZ.lt hb1.size
 replace hin1 := hin1.kept hb2
 have HL1 := Lib.hid hl1
 have HN1 := Lib.hid hin1
 clear hW1 hb1 hb2 hZ hD d0 d1 d2 e0 e1 e2 hb0 hin hl1 hin1
 have hXr : W1.drew.rangeAt w1.heap.size 0 [.slice a1 l1.length c1, .int .i64 T.arm, .bool T.down] := hX.range
 have hZ' : B3 W1.drew (w.heap.size + 1) 62 (.slice none 0 0) (.int .i64 0) (.bool false) := hZ1
 have hnx : w1.heap.size ≠ w.heap.size + 1 := by omega
 refine wp_region_noPanic ?_
 refine wp_region_held_drew (S := fun W' => W'.rangeAt w1.heap.size 0 [.slice a1 l1.length c1, .int .i64 T.arm, .bool T.down]) (by kernel_rfl) hXr (fun hHeld => ?_)
 refine tH 0 11 rfl (yieldsIf_load_mid (by rfl) 62 _ rfl w1.heap.size 0 rfl [.slice a1 l1.length c1, .int .i64 T.arm, .bool T.down] _ (fun X h => h) Tryz.underlying62 rfl (by kernel_rfl)) ?_
 try simp only [pS]
 refine tH (v := ?_) 1 12 rfl (Or.inl ⟨by rfl, ?_⟩) ?_
 case refine_2 => exact z2
 try simp only [pS]
 refine rH 2 13 rfl fun K hK => ?_
 (go_simp; go_at_call 67; (with_reducible refine (HB.out _).mono ?_); rintro v w2 ⟨rfl, rfl⟩; go_wp2_with fail)
 refine hK.out _ _ hHeld (fun ai => ?_)
 clear hK K hHeld
 have hHeld := ai
 clear ai
 try simp only [pS]
 refine wpAnyH_ready (rs := [3]) (by kernel_rfl) (by simp) ?_
 refine AllReadyH.cons (o := ⟨none, _, _, _, _, _⟩) rfl (fun K hK => ?_) AllReadyH.nil
 refine aP (by rfl) 62 _ _ rfl (w.heap.size + 1) #[.slice a1 l1.length c1, .int .i64 T.arm, .bool T.down] rfl rfl 62 _ hZ' (by kernel_rfl) rfl (by kernel_rfl) ?_
 refine hK.out _ _ (bP hXr hnx) (fun ai => ?_)
 clear hK K hHeld
 have hHeld := ai
 clear ai
 try simp only [pS]
 refine tH (v := ?_) 4 3 rfl (Or.inl ⟨by rfl, ?_⟩) ?_
 case refine_2 => exact z2
 try simp only [pS]
 refine wpAnyH_done (by kernel_rfl) ?_ _
 refine NoPanic.normal ?_
 go_wp2
 refine dA 2 3 62 62 (w.heap.size + 1) _ _ _ rfl rfl rfl (hZ'.row _ _ _) Tryz.underlying62 rfl (by kernel_rfl) rfl ?_
 have hset : Fr (isR (w.heap.size + 1)) W1.drew (W1.drew.setRow (w.heap.size + 1) #[.slice a1 l1.length c1, .int .i64 T.arm, .bool T.down]) := dw _ _ _
 exact ⟨a1, l1, c1, rfl, (show RFsIn W1.drew a1 l1 from HN1.out.kept (Below.refl _ _).drew).fr hset (fun k hk => by subst hk; exact ⟨hZ'.noByte ⟨trivial, trivial, trivial⟩, hZ'.noStr ⟨trivial, trivial, trivial⟩⟩), hc1, HL1.out, aJ hbw.drew (Nat.le_succ _) _⟩
theorem lS (a : Option Addr) (cap : Nat) (l : List RF) (w : World) (hi : DInv S) (hlc : l.length ≤ cap) (hl : az l = S.f) (h : RFsIn w a l) :
 Calls Tryz.prog 37 #[aO a l.length cap S.arm S.down] w (eG (S.trunc logS 0).1 (dB (S.trunc logS 0).2) w) := by
 have hll : l.length ≤ 8 := by have := congrArg List.length hl; rw [List.length_map] at this; have := hi.len; omega
 have hgb : ∀ g ∈ l, g.f.b.length ≤ 16777216 := fun g hg => (hi.ok g.f (by rw [← hl]; exact List.mem_map_of_mem hg)).len
 have hSl : (⟨az l, S.arm, S.down⟩ : DS) = S := by rw [hl]
 obtain ⟨T, c, hT⟩ : ∃ T c, S.trunc logS 0 = (T, c) := ⟨_, _, rfl⟩
 have h0 : ∀ X, RFsIn X a l → Calls Tryz.prog 69 #[aO a l.length cap S.arm S.down, .string ⟨#[108, 111, 103]⟩, .int .i64 0] X (eG T c X) := fun X h => by
  have := kV a cap S.arm S.down l logS 0 X (by omega) hlc hi.arm logS_size hgb h
  rw [hSl, oK hi.srt logS 0, hT] at this
  exact this
 rw [hT]
 have HN := Lib.hid h0
 have HB := Lib.hid (fun X => jT c X)
 have HSY := Lib.hid hSl
 clear h0 hT hgb hSl
 go_enter Tryz.func37, Tryz.ntmps37
 go_upto_region 1 with fail
 refine wp_name (fun W hW => ?_)
 have hb0 : Below w.heap.size w W := by rw [hW.out]; go_grown
 have hD : B3 W w.heap.size 62 (.slice a l.length cap) (.int .i64 S.arm) (.bool S.down) := by
  exact z4
 have hZ : B3 W (w.heap.size + 1) 62 (.slice none 0 0) (.int .i64 0) (.bool false) := by rw [hW.out]; exact bn w _ _
 have hin := h.kept hb0
 clear hW
 obtain ⟨d0, d1, d2, e0, e1, e2⟩ := hD.cells
 go_upto_region 2 with (go_at_call 69; (with_reducible refine (HN.out _ hin).mono ?_); rintro e w1 ⟨a1, l1, c1, rfl, hin1, hc1, hl1, hb1⟩)
 refine wp_name (fun W1 hW1 => ?_)
 have hX : B3 W1 w1.heap.size 62 (.slice a1 l1.length c1) (.int .i64 T.arm) (.bool T.down) := by rw [hW1.out]; exact aF w1 _
 have hb2 : Below w1.heap.size w1 W1 := by rw [hW1.out]; exact (Below.refl _ _).alloc (Nat.le_refl _) _
 have hZ1 := (hZ.below hb1).below hb2
 have hbw := below2 (below2 hb0 hb1) hb2
 have hzz : w.heap.size + 1 < w1.heap.size := Nat.lt_of_lt_of_le hZ.lt hb1.size
 replace hin1 := hin1.kept hb2
 have HL1 := Lib.hid hl1
 have HN1 := Lib.hid hin1
 clear hW1 hb1 hb2 hZ hD d0 d1 d2 e0 e1 e2 hb0 hin hl1 hin1
 have hXr : W1.drew.rangeAt w1.heap.size 0 [.slice a1 l1.length c1, .int .i64 T.arm, .bool T.down] := hX.range
 have hZ' : B3 W1.drew (w.heap.size + 1) 62 (.slice none 0 0) (.int .i64 0) (.bool false) := hZ1
 have hnx : w1.heap.size ≠ w.heap.size + 1 := by omega
 refine wp_region_noPanic ?_
 refine wp_region_held_drew (S := fun W' => W'.rangeAt w1.heap.size 0 [.slice a1 l1.length c1, .int .i64 T.arm, .bool T.down]) (by kernel_rfl) hXr (fun hHeld => ?_)
 refine tH 0 11 rfl (yieldsIf_load_mid (by rfl) 62 _ rfl w1.heap.size 0 rfl [.slice a1 l1.length c1, .int .i64 T.arm, .bool T.down] _ (fun X h => h) Tryz.underlying62 rfl (by kernel_rfl)) ?_
 try simp only [pS]
 refine tH (v := ?_) 1 12 rfl (Or.inl ⟨by rfl, ?_⟩) ?_
 case refine_2 => exact z2
 try simp only [pS]
 refine rH 2 13 rfl fun K hK => ?_
 (go_simp; go_at_call 67; (with_reducible refine (HB.out _).mono ?_); rintro v w2 ⟨rfl, rfl⟩; go_wp2_with fail)
 refine hK.out _ _ hHeld (fun ai => ?_)
 clear hK K hHeld
 have hHeld := ai
 clear ai
 try simp only [pS]
 refine wpAnyH_ready (rs := [3]) (by kernel_rfl) (by simp) ?_
 refine AllReadyH.cons (o := ⟨none, _, _, _, _, _⟩) rfl (fun K hK => ?_) AllReadyH.nil
 refine aP (by rfl) 62 _ _ rfl (w.heap.size + 1) #[.slice a1 l1.length c1, .int .i64 T.arm, .bool T.down] rfl rfl 62 _ hZ' (by kernel_rfl) rfl (by kernel_rfl) ?_
 refine hK.out _ _ (bP hXr hnx) (fun ai => ?_)
 clear hK K hHeld
 have hHeld := ai
 clear ai
 try simp only [pS]
 refine tH (v := ?_) 4 3 rfl (Or.inl ⟨by rfl, ?_⟩) ?_
 case refine_2 => exact z2
 try simp only [pS]
 refine wpAnyH_done (by kernel_rfl) ?_ _
 refine NoPanic.normal ?_
 go_wp2
 refine dA 2 3 62 62 (w.heap.size + 1) _ _ _ rfl rfl rfl (hZ'.row _ _ _) Tryz.underlying62 rfl (by kernel_rfl) rfl ?_
 have hset : Fr (isR (w.heap.size + 1)) W1.drew (W1.drew.setRow (w.heap.size + 1) #[.slice a1 l1.length c1, .int .i64 T.arm, .bool T.down]) := dw _ _ _
 exact ⟨a1, l1, c1, rfl, (show RFsIn W1.drew a1 l1 from HN1.out.kept (Below.refl _ _).drew).fr hset (fun k hk => by subst hk; exact ⟨hZ'.noByte ⟨trivial, trivial, trivial⟩, hZ'.noStr ⟨trivial, trivial, trivial⟩⟩), hc1, HL1.out, aJ hbw.drew (Nat.le_succ _) _⟩
end Go.Proofs.YtlefejokpdjpgaaGreat
