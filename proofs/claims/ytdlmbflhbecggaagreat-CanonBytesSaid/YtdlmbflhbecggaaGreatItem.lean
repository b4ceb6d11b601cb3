/- Which cookies may be: package cookie's Right and the reference's. Conditions: texts of at most 2^30 bytes. -/
import Derived.Test.YtdlmbflhbecggaaGreatCookie
import Derived.Test.YtdlmbflhbecggaaGreatDot
set_option linter.unusedSimpArgs false
set_option linter.unusedVariables false
set_option linter.unnecessarySimpa false
set_option maxHeartbeats 16000000
set_option maxRecDepth 100000
namespace Go.Proofs.YtdlmbflhbecggaaGreat
open Go.RowKit
def ny (c : Ck) : Bool := (decide (-1099511627776 ≤ c.expiry) && decide (c.expiry ≤ 1099511627776)) && ((decide (0 ≤ c.creation) && decide (c.creation ≤ 1099511627776)) && ((decide (0 ≤ c.access) && decide (c.access ≤ 1099511627776)) && (c.persistent || decide (c.expiry = 1099511627776))))
def kH (l : Bytes) : Bool := decide (0 < l.length) && ((l.head?.any fun x => decide (x.toNat = 47)) && decide (l.length ≤ 256))
def gp (k : Key) (c : Ck) : Bool := decide (0 < k.name.size) && (fC 256 [59, 61] (bl k.name) && (fC 1024 [59] (bl c.value) && (fZ (bl k.domain) && (kH (bl k.path) && ny c))))
abbrev qY (c : Ck) : List Value := [.string c.value, .bool c.hostOnly, .bool c.secure, .bool c.httpOnly, .bool c.persistent, .int .i64 c.expiry, .int .i64 c.creation, .int .i64 c.access]
theorem yt (s : ByteArray) : decide (0 < s.size) = decide (¬ s.toList = []) := by
 by_cases h : 0 < s.size
 ·simp [h, mF h]
 ·simp only [h, lT h, not_true_eq_false]
theorem EC {s : ByteArray} (h : s.toList = []) : kH (bl s) = false := by
 unfold kH; rw [au, yt]; simp [h]
theorem IK {s : ByteArray} (h : 0 < s.size) (h2 : ¬ (s[0].toNat : Int) = 47) : kH (bl s) = false := by
 unfold kH; rw [qQ s h]; simp only [Option.any_some]
 rw [decide_eq_false (show ¬ s[0].toNat = 47 by omega)]; simp
theorem ED {s : ByteArray} (h : 256 < (s.size : Int)) : kH (bl s) = false := by
 unfold kH; rw [au, decide_eq_false (show ¬ s.size ≤ 256 by omega)]; simp
theorem Ez {s : ByteArray} (h : 0 < s.size) (h2 : (s[0].toNat : Int) = 47) (h3 : (s.size : Int) ≤ 256) : kH (bl s) = true := by
 unfold kH; rw [qQ s h, au]; simp only [Option.any_some]
 rw [decide_eq_true h, decide_eq_true (show s[0].toNat = 47 by omega), decide_eq_true (show s.size ≤ 256 by omega)]; rfl
/-- in block b lie a key's cells, a cookie's -/
structure KeyAt (w : World) (b : Nat) (k : Key) : Prop where
 c0 : w.cell? ⟨b, 0, none⟩ = some (.string k.name)
 c1 : w.cell? ⟨b, 1, none⟩ = some (.string k.domain)
 c2 : w.cell? ⟨b, 2, none⟩ = some (.string k.path)
structure CkAt (w : World) (b : Nat) (c : Ck) : Prop where
 c0 : w.cell? ⟨b, 0, none⟩ = some (.string c.value)
 c1 : w.cell? ⟨b, 1, none⟩ = some (.bool c.hostOnly)
 c2 : w.cell? ⟨b, 2, none⟩ = some (.bool c.secure)
 c3 : w.cell? ⟨b, 3, none⟩ = some (.bool c.httpOnly)
 c4 : w.cell? ⟨b, 4, none⟩ = some (.bool c.persistent)
 c5 : w.cell? ⟨b, 5, none⟩ = some (.int .i64 c.expiry)
 c6 : w.cell? ⟨b, 6, none⟩ = some (.int .i64 c.creation)
 c7 : w.cell? ⟨b, 7, none⟩ = some (.int .i64 c.access)
theorem KeyAt.kept {w w' : World} {b : Nat} {k : Key} (h : KeyAt w b k) (hb : Below w.heap.size w w') : KeyAt w' b k := ⟨YtdlmbflhbecggaaGreat.kept hb h.c0, YtdlmbflhbecggaaGreat.kept hb h.c1, YtdlmbflhbecggaaGreat.kept hb h.c2⟩
theorem CkAt.kept {w w' : World} {b : Nat} {k : Ck} (h : CkAt w b k) (hb : Below w.heap.size w w') : CkAt w' b k :=
 ⟨YtdlmbflhbecggaaGreat.kept hb h.c0, YtdlmbflhbecggaaGreat.kept hb h.c1, YtdlmbflhbecggaaGreat.kept hb h.c2, YtdlmbflhbecggaaGreat.kept hb h.c3, YtdlmbflhbecggaaGreat.kept hb h.c4, YtdlmbflhbecggaaGreat.kept hb h.c5, YtdlmbflhbecggaaGreat.kept hb h.c6, YtdlmbflhbecggaaGreat.kept hb h.c7⟩
theorem P9 (w : World) (t : TypeId) : BytesAt (w.alloc (Obj.cells #[.int .u8 59, .int .u8 61] t)) w.heap.size 0 [59, 61] := by
 intro j hj
 match j, hj with
 | 0, _ => simp [World.cell?_alloc_new]
 | 1, _ => simp [World.cell?_alloc_new]
theorem Qa (w : World) (t : TypeId) : BytesAt (w.alloc (Obj.cells #[.int .u8 59] t)) w.heap.size 0 [59] := by
 intro j hj
 match j, hj with
 | 0, _ => simp [World.cell?_alloc_new]
theorem AY (k : Key) (c : Ck) (p : Bool) (hp : Hid (c.persistent = p)) (w : World) (h1 : k.name.size ≤ 1073741824) (h2 : k.domain.size ≤ 1073741824) (h3 : k.path.size ≤ 1073741824) (h4 : c.value.size ≤ 1073741824) :
 Calls Tryz.prog 115 #[.agg #[.string k.name, .string k.domain, .string k.path, .string c.value, .bool c.hostOnly, .bool c.secure, .bool c.httpOnly, .bool p, .int .i64 c.expiry, .int .i64 c.creation, .int .i64 c.access]] w fun e w' => e = .returned (.bool (gp k c)) ∧ Below w.heap.size w w' := by
 cases p
 all_goals
  go_enter Tryz.func115, Tryz.ntmps115
  go_upto_region 1 with fail
  go_cut [3, 4] (fun v3 v4 wx => ∃ a b, v3 = .pointer (some ⟨a, 0, none⟩) ∧ v4 = .pointer (some ⟨b, 0, none⟩) ∧ KeyAt wx a k ∧ CkAt wx b c ∧ Below w.heap.size w wx)
  case first =>
   go_region
   all_goals
        go_wp2
        go_meet
        refine ⟨_, _, rfl, rfl, ⟨?_, ?_, ?_⟩, ⟨?_, ?_, ?_, ?_, ?_, ?_, ?_, ?_⟩, ?_⟩
        all_goals first | (go_simp; done) | (go_grown; done) | (rw [hp.out]; go_simp; done)
  case rest =>
   obtain ⟨a, b, rfl, rfl, hka, hcb, hbel⟩ := hcut
   have hcan := fun (W : World) => Ld k.domain W h2
   have hI : gp k c = (decide (¬ k.name.toList = []) && (fC 256 [59, 61] (bl k.name) && (fC 1024 [59] (bl c.value) && ((decide (pI (bl k.domain) = 0) && decide (mX (bl k.domain) = bl k.domain)) && (kH (bl k.path) && ny c))))) := by unfold gp; rw [KH, yt]
   have hTq : ((mkS (mX (bl k.domain))).toList == k.domain.toList) = decide (mX (bl k.domain) = bl k.domain) := by rw [lV, lJ]
   generalize pI (bl k.domain) = ce at *
   generalize mX (bl k.domain) = ct at *
   have HC := Lib.hid hcan
   have HI := Lib.hid hI
   clear hcan hI
   obtain ⟨ka0, ka1, ka2⟩ := hka
   obtain ⟨cb0, cb1, cb2, cb3, cb4, cb5, cb6, cb7⟩ := hcb
   rw [hp.out] at cb4
   have hP1 : ∀ (A : Nat) (W : World), BytesAt W A 0 [59, 61] → Calls Tryz.prog 155 #[.string k.name, .int .i64 256, .slice (some ⟨A, 0, none⟩) 2 2] W fun e w' => e = .returned (.bool (fC 256 [59, 61] (bl k.name))) ∧ Below W.heap.size W w' := fun A W hb => Bo k.name 256 A [59, 61] W h1 (by omega) (by simp) hb
   have hP2 : ∀ (A : Nat) (W : World), BytesAt W A 0 [59] → Calls Tryz.prog 155 #[.string c.value, .int .i64 1024, .slice (some ⟨A, 0, none⟩) 1 1] W fun e w' => e = .returned (.bool (fC 1024 [59] (bl c.value))) ∧ Below W.heap.size W w' := fun A W hb => Bo c.value 1024 A [59] W h4 (by omega) (by simp) hb
   have HP1 := Lib.hid hP1
   have HP2 := Lib.hid hP2
   clear hP1 hP2
   go_upto_region 3 with (go_at_call 153; refine (HC.out _).mono ?_; rintro e w1 ⟨rfl, hb1⟩; replace ka0 := kept hb1 ka0; replace ka1 := kept hb1 ka1; replace ka2 := kept hb1 ka2; replace cb0 := kept hb1 cb0; replace cb4 := kept hb1 cb4; replace cb5 := kept hb1 cb5; replace cb6 := kept hb1 cb6; replace cb7 := kept hb1 cb7)
   go_cut [7] (fun v7 wx => v7 = .bool (ny c) ∧ wx = w1)
   case first =>
        go_wp2_with (go_at_call 154; refine (F7 _ _ _ _).mono ?_; rintro e w2 ⟨rfl, rfl⟩)
        all_goals
         go_meet
         exact ⟨congrArg Value.bool (by unfold ny; rw [hp.out, Bool.eq_iff_iff]; simp [*] <;> omega), rfl⟩
   case rest =>
        obtain ⟨rfl, rfl⟩ := hcut
        have hb2 := below2 hbel hb1
        go_wp2_with (first
         | (go_at_call 155; (with_reducible refine (HP1.out _ _ (P9 _ _)).mono ?_); rintro e w2 ⟨rfl, hb3⟩; have hb4 := below2 ((Below.refl _ _).alloc (Nat.le_refl _) _) hb3; replace ka0 := kept hb4 ka0; replace ka1 := kept hb4 ka1; replace ka2 := kept hb4 ka2; replace cb0 := kept hb4 cb0; replace hb2 := below2 hb2 hb4; clear hb3 hb4)
         | (go_at_call 155; (with_reducible refine (HP2.out _ _ (Qa _ _)).mono ?_); rintro e w2 ⟨rfl, hb3⟩; have hb4 := below2 ((Below.refl _ _).alloc (Nat.le_refl _) _) hb3; replace ka0 := kept hb4 ka0; replace ka1 := kept hb4 ka1; replace ka2 := kept hb4 ka2; replace cb0 := kept hb4 cb0; replace hb2 := below2 hb2 hb4; clear hb3 hb4))
        all_goals first
         | (go_ret; exact ⟨aB (by rw [HI.out]; first | (simp [*]; done) | (rw [EC ‹_›]; simp; done) | (rw [IK ‹_› ‹_›]; simp; done) | (rw [ED ‹_›]; simp; done) | (rw [Ez ‹_› ‹_› ‹_›]; simp [*]; done)), hb2⟩)
         | exact absurd (lT ‹¬ 0 < k.path.size›) ‹_›
theorem z132 {p : Prop} (h : p := by
 unfold fC lF
 simp only [List.all_cons, List.all_nil, Bool.and_true]
 cases control l <;> cases decide (trim l = l) <;> simp [Bool.and_comm]) : p := h
theorem Dh (l : Bytes) : fC 256 [59, 61] l = (decide (l.length ≤ 256) && (lF l && decide (eu 61 l = none))) := by
 exact z132
theorem Au (l : Bytes) : fC 1024 [59] l = (decide (l.length ≤ 1024) && lF l) := by
 exact z132
theorem G6 (k : Key) (c : Ck) : gp k c = (decide (¬ k.name.toList = []) && (decide ((k.name.size : Int) ≤ 256) && (lF (bl k.name) && (decide (kN (bl k.name) 61 < 0) && (decide ((c.value.size : Int) ≤ 1024) && (lF (bl c.value) && (fZ (bl k.domain) && (kH (bl k.path) && ny c)))))))) := by
 unfold gp
 rw [yt, Dh, Au, au, au, Fq]
 rw [show decide ((k.name.size : Int) ≤ 256) = decide (k.name.size ≤ 256) by rw [Bool.eq_iff_iff]; simp; omega]
 rw [show decide ((c.value.size : Int) ≤ 1024) = decide (c.value.size ≤ 1024) by rw [Bool.eq_iff_iff]; simp; omega]
 simp only [Bool.and_assoc]
theorem y64 {p q : Prop} (k : q) (h : PLift q → p := by
 intro kk
 have cb5 : W.cell? ⟨w.heap.size + 2, 5, none⟩ = some (.int .i64 c.expiry) := by rw [hW.out]; go_simp
 have cb6 : W.cell? ⟨w.heap.size + 2, 6, none⟩ = some (.int .i64 c.creation) := by rw [hW.out]; go_simp
 have cb7 : W.cell? ⟨w.heap.size + 2, 7, none⟩ = some (.int .i64 c.access) := by rw [hW.out]; go_simp
 have hb2 : Below w.heap.size w W := by rw [hW.out]; go_grown
 revert cb5 cb6 cb7 hb2
 exact kk.down) : p := h ⟨k⟩
theorem z23 {p : Prop} (h : p := by
 refine y64 ?_
 intro cb5 cb6 cb7 hb2
 clear hW
 go_wp2_with (first
      | (go_at_call 156; (with_reducible refine (HPN.out _).mono ?_); rintro e w2 ⟨rfl, rfl⟩)
      | (go_at_call 156; (with_reducible refine (HPV.out _).mono ?_); rintro e w2 ⟨rfl, rfl⟩)
      | (go_at_call 157; refine (HF.out _).mono ?_; rintro e w2 ⟨rfl, rfl⟩)
      | (go_at_call 158; refine (HC.out _).mono ?_; rintro e w2 ⟨rfl, hb4⟩; replace ka2 := kept hb4 ka2; replace cb4 := kept hb4 cb4; replace cb5 := kept hb4 cb5; replace cb6 := kept hb4 cb6; replace cb7 := kept hb4 cb7; replace hb2 := below2 hb2 hb4; clear hb4))
 all_goals
      go_ret
      exact ⟨aB (by rw [HE.out]; unfold ny; rw [hp.out, Bool.eq_iff_iff]; simp [*] <;> omega), hb2⟩) : p := h
theorem y61 {p q : Prop} (k : q) (h : PLift q → p := by
 intro kk
 refine aX (fun W hW => ?_)
 have ka0 : W.cell? ⟨w.heap.size + 1, 0, none⟩ = some (.string k.name) := by rw [hW.out]; go_simp
 have ka1 : W.cell? ⟨w.heap.size + 1, 1, none⟩ = some (.string k.domain) := by rw [hW.out]; go_simp
 have ka2 : W.cell? ⟨w.heap.size + 1, 2, none⟩ = some (.string k.path) := by rw [hW.out]; go_simp
 have cb0 : W.cell? ⟨w.heap.size + 2, 0, none⟩ = some (.string c.value) := by rw [hW.out]; go_simp
 revert W hW ka0 ka1 ka2 cb0
 exact kk.down) : p := h ⟨k⟩
theorem y4 {p q : Prop} (k : q) (h : PLift q → p := by
 intro kk
 refine y61 ?_
 intro W hW ka0 ka1 ka2 cb0
 have cb4 : W.cell? ⟨w.heap.size + 2, 4, none⟩ = some (.bool p) := by rw [hW.out]; go_simp
 refine y64 ?_
 intro cb5 cb6 cb7 hb2
 revert W hW ka0 ka1 ka2 cb0 cb4 cb5 cb6 cb7 hb2
 exact kk.down) : p := h ⟨k⟩
theorem z19 {p : Prop} (h : p := by
 clear HI
 go_enter Tryz.func124, Tryz.ntmps124
 go_upto_region 4 with fail
 refine y4 ?_
 intro W hW ka0 ka1 ka2 cb0 cb4 cb5 cb6 cb7 hb2
 clear hW
 go_wp2_with (first
      | (go_at_call 156; (with_reducible refine (HPN.out _).mono ?_); rintro e w2 ⟨rfl, rfl⟩)
      | (go_at_call 156; (with_reducible refine (HPV.out _).mono ?_); rintro e w2 ⟨rfl, rfl⟩)
      | (go_at_call 157; refine (HF.out _).mono ?_; rintro e w2 ⟨rfl, rfl⟩)
      | (go_at_call 158; refine (HC.out _).mono ?_; rintro e w2 ⟨rfl, hb4⟩; replace ka2 := kept hb4 ka2; replace cb4 := kept hb4 cb4; replace cb5 := kept hb4 cb5; replace cb6 := kept hb4 cb6; replace cb7 := kept hb4 cb7; replace hb2 := below2 hb2 hb4; clear hb4))
 go_ret
 exact ⟨aB HE.out.symm, hb2⟩) : p := h
theorem z11 {p : Prop} (h : p := by
 clear HI
 go_enter Tryz.func124, Tryz.ntmps124
 go_upto_region 4 with fail
 refine y4 ?_
 intro W hW ka0 ka1 ka2 cb0 cb4 cb5 cb6 cb7 hb2
 clear hW
 go_wp2_with (first
     | (go_at_call 156; (with_reducible refine (HPN.out _).mono ?_); rintro e w2 ⟨rfl, rfl⟩)
     | (go_at_call 156; (with_reducible refine (HPV.out _).mono ?_); rintro e w2 ⟨rfl, rfl⟩)
     | (go_at_call 157; refine (HF.out _).mono ?_; rintro e w2 ⟨rfl, rfl⟩)
     | (go_at_call 158; refine (HC.out _).mono ?_; rintro e w2 ⟨rfl, hb4⟩; replace ka2 := kept hb4 ka2; replace cb4 := kept hb4 cb4; replace cb5 := kept hb4 cb5; replace cb6 := kept hb4 cb6; replace cb7 := kept hb4 cb7; replace hb2 := below2 hb2 hb4; clear hb4))
 go_ret
 exact ⟨aB HE.out.symm, hb2⟩) : p := h
theorem z3 {p : Prop} (h : p := by
 clear HI
 go_enter Tryz.func124, Tryz.ntmps124
 go_upto_region 4 with fail
 refine y4 ?_
 intro W hW ka0 ka1 ka2 cb0 cb4 cb5 cb6 cb7 hb2
 clear hW
 go_wp2_with (first
  | (go_at_call 156; (with_reducible refine (HPN.out _).mono ?_); rintro e w2 ⟨rfl, rfl⟩)
  | (go_at_call 156; (with_reducible refine (HPV.out _).mono ?_); rintro e w2 ⟨rfl, rfl⟩)
  | (go_at_call 157; refine (HF.out _).mono ?_; rintro e w2 ⟨rfl, rfl⟩)
  | (go_at_call 158; refine (HC.out _).mono ?_; rintro e w2 ⟨rfl, hb4⟩; replace ka2 := kept hb4 ka2; replace cb4 := kept hb4 cb4; replace cb5 := kept hb4 cb5; replace cb6 := kept hb4 cb6; replace cb7 := kept hb4 cb7; replace hb2 := below2 hb2 hb4; clear hb4))
 go_ret
 exact ⟨aB HE.out.symm, hb2⟩) : p := h
theorem z129 {p : Prop} (h : p := by
 have HE : Hid (gp k c = false) := by rw [Hid, HI.out]; simp
 exact z3) : p := h
theorem CY (k : Key) (c : Ck) (p : Bool) (hp : Hid (c.persistent = p)) (w : World) (h1 : k.name.size ≤ 1073741824) (h2 : k.domain.size ≤ 1073741824) (h4 : c.value.size ≤ 1073741824) :
 Calls Tryz.prog 124 #[.agg #[.string k.name, .string k.domain, .string k.path, .string c.value, .bool c.hostOnly, .bool c.secure, .bool c.httpOnly, .bool p, .int .i64 c.expiry, .int .i64 c.creation, .int .i64 c.access]] w fun e w' => e = .returned (.bool (gp k c)) ∧ Below w.heap.size w w' := by
 have HI := Lib.hid (G6 k c)
 have Ql := Lib.hid (fun (W : World) => yA k.name W h1)
 have Qk := Lib.hid (fun (W : World) => yA c.value W h4)
 have HF := Lib.hid (fun (W : World) => Bh k.name 61 W (by unfold maxLen; omega))
 have HC0 := Lib.hid (fun (W : World) => yP k.domain W h2)
 generalize lF (bl k.name) = b1 at HI Ql
 generalize lF (bl c.value) = b2 at HI Qk
 generalize fZ (bl k.domain) = b3 at HI HC0
 generalize kN (bl k.name) 61 = fi at HI HF
 by_cases n0 : 0 < k.name.size
 ·have t1 := mF n0
  have t1' := lU n0
  by_cases n1 : (k.name.size : Int) ≤ 256
  ·skip
   by_cases n2 : b1 = true
   ·subst n2
    have HPN := Ql
    by_cases n3 : fi < 0
    ·skip
     by_cases n4 : (c.value.size : Int) ≤ 1024
     ·skip
      by_cases n5 : b2 = true
      ·subst n5
       have HPV := Qk
       by_cases n6 : b3 = true
       ·subst n6
        have HC := HC0
        by_cases n7 : 0 < k.path.size
        ·have t2 := mF n7
         have t2' := lU n7
         by_cases n8 : (k.path[0].toNat : Int) = 47
         ·have t3 : ((k.path[0].toNat : Int) != 47) = false := by rw [bne_eq_false_iff_eq]; exact n8
          have N8 := Lib.hid n8
          clear n8
          by_cases n9 : (k.path.size : Int) ≤ 256
          ·skip
           have HE : Hid (gp k c = ny c) := by rw [Hid, HI.out, Ez n7 N8.out n9]; simp [t1, n1, n3, n4]
           clear HI
           cases p
           ·go_enter Tryz.func124, Tryz.ntmps124
            go_upto_region 4 with fail
            refine y61 ?_
            intro W hW ka0 ka1 ka2 cb0
            have cb4 : W.cell? ⟨w.heap.size + 2, 4, none⟩ = some (.bool false) := by rw [hW.out]; go_simp
            exact z23
           ·go_enter Tryz.func124, Tryz.ntmps124
            go_upto_region 4 with fail
            refine y61 ?_
            intro W hW ka0 ka1 ka2 cb0
            have cb4 : W.cell? ⟨w.heap.size + 2, 4, none⟩ = some (.bool true) := by rw [hW.out]; go_simp
            exact z23
          ·skip
           have HE : Hid (gp k c = false) := by rw [Hid, HI.out]; rw [ED (by omega : 256 < (k.path.size : Int))]; simp
           clear HI
           go_enter Tryz.func124, Tryz.ntmps124
           go_upto_region 4 with fail
           refine y4 ?_
           intro W hW ka0 ka1 ka2 cb0 cb4 cb5 cb6 cb7 hb2
           clear hW
           go_wp2_with (first
                        | (go_at_call 156; (with_reducible refine (HPN.out _).mono ?_); rintro e w2 ⟨rfl, rfl⟩)
                        | (go_at_call 156; (with_reducible refine (HPV.out _).mono ?_); rintro e w2 ⟨rfl, rfl⟩)
                        | (go_at_call 157; refine (HF.out _).mono ?_; rintro e w2 ⟨rfl, rfl⟩)
                        | (go_at_call 158; refine (HC.out _).mono ?_; rintro e w2 ⟨rfl, hb4⟩; replace ka2 := kept hb4 ka2; replace cb4 := kept hb4 cb4; replace cb5 := kept hb4 cb5; replace cb6 := kept hb4 cb6; replace cb7 := kept hb4 cb7; replace hb2 := below2 hb2 hb4; clear hb4))
           go_ret
           exact ⟨aB HE.out.symm, hb2⟩
         ·have t3 : ((k.path[0].toNat : Int) != 47) = true := by rw [bne_iff_ne]; exact n8
          have N8 := Lib.hid n8
          clear n8
          have HE : Hid (gp k c = false) := by rw [Hid, HI.out]; rw [IK n7 N8.out]; simp
          exact z11
        ·have t2 := lT n7
         have t2' := nZ n7
         have HE : Hid (gp k c = false) := by rw [Hid, HI.out]; rw [EC t2]; simp
         exact z11
       ·obtain rfl : b3 = false := by simpa using n6
        have HC := HC0
        exact z129
      ·obtain rfl : b2 = false := by simpa using n5
       have HPV := Qk
       exact z129
     ·skip
      have HE : Hid (gp k c = false) := by rw [Hid, HI.out]; simp [n4]
      exact z11
    ·skip
     have HE : Hid (gp k c = false) := by rw [Hid, HI.out]; simp [n3]
     exact z19
   ·obtain rfl : b1 = false := by simpa using n2
    have HPN := Ql
    exact z129
  ·skip
   have HE : Hid (gp k c = false) := by rw [Hid, HI.out]; simp [n1]
   exact z19
 ·have t1 := lT n0
  have t1' := nZ n0
  have HE : Hid (gp k c = false) := by rw [Hid, HI.out]; simp [t1]
  exact z3
structure Ev where
 dot : Dot
 stamp : Stamp
 kind : Int
 key : Key
 ck : Ck
 over : List Dot
 deriving DecidableEq
def dW : Key := ⟨ByteArray.empty, ByteArray.empty, ByteArray.empty⟩
def ck0 : Ck := ⟨ByteArray.empty, false, false, false, false, 0, 0, 0⟩
def FD : Dot := ⟨⟨0, 0⟩, 0⟩
def sD : Stamp := ⟨0, 0, 0⟩
def ev0 : Ev := ⟨FD, sD, 0, dW, ck0, []⟩
def kindOk (e : Ev) : Bool := if e.kind = 2 then (decide (e.key = dW) && decide (e.ck = ck0)) && decide (0 < e.over.length) else if e.kind = 1 then gp e.key e.ck else false
def cu (e : Ev) : Bool := bu e.dot && (gV e.stamp && (decide (e.stamp.dev = e.dot.a.dev) && (overOk e.dot e.over && kindOk e)))
/-- an event's texts and lists are short -/
structure EvSmall (e : Ev) : Prop where
 name : e.key.name.size ≤ 1073741824
 domain : e.key.domain.size ≤ 1073741824
 path : e.key.path.size ≤ 1073741824
 value : e.ck.value.size ≤ 1073741824
 over : e.over.length ≤ 1073741824
/-- an event's value -/
abbrev NV (k : Key) (c : Ck) : Value := .agg #[.string k.name, .string k.domain, .string k.path, .string c.value, .bool c.hostOnly, .bool c.secure, .bool c.httpOnly, .bool c.persistent, .int .i64 c.expiry, .int .i64 c.creation, .int .i64 c.access]
abbrev ja (e : Ev) (a : Option Addr) (cap : Nat) : Value :=
 .agg #[.int .i64 e.dot.a.dev, .int .i64 e.dot.a.inc, .int .i64 e.dot.seq, .int .i64 e.stamp.wall, .int .i64 e.stamp.count, .int .i64 e.stamp.dev, .int .i64 e.kind, .string e.key.name, .string e.key.domain, .string e.key.path, .string e.ck.value, .bool e.ck.hostOnly, .bool e.ck.secure, .bool e.ck.httpOnly, .bool e.ck.persistent, .int .i64 e.ck.expiry, .int .i64 e.ck.creation, .int .i64 e.ck.access, .slice a e.over.length cap]
theorem ND (e : Ev) (a : Option Addr) (cap : Nat) (w : World) :
 Calls Tryz.prog 114 #[ja e a cap] w fun x w' => x = .returned (NV e.key e.ck) ∧ Below w.heap.size w w' := by
 go_enter Tryz.func114, Tryz.ntmps114
 go_wp2
 go_returns
 exact ⟨rfl, by go_grown⟩
end Go.Proofs.YtdlmbflhbecggaaGreat
