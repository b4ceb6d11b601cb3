/- Which cookies may be: package cookie's Right and the reference's. Conditions: texts of at most 2^30 bytes. -/
import Derived.Test.YtdlmbflhbecggaaGreatCookie
import Derived.Test.YtdlmbflhbecggaaGreatDot
set_option linter.unusedSimpArgs false
set_option linter.unusedVariables false
set_option linter.unnecessarySimpa false
set_option maxHeartbeats 16000000
set_option maxRecDepth 100000
namespace Go.Proofs.YtdlmbflhbecggaaGreat
open Go.RowKit
def lG (c : Ck) : Bool := (decide (-1099511627776 ≤ c.expiry) && decide (c.expiry ≤ 1099511627776)) && ((decide (0 ≤ c.creation) && decide (c.creation ≤ 1099511627776)) && ((decide (0 ≤ c.access) && decide (c.access ≤ 1099511627776)) && (c.persistent || decide (c.expiry = 1099511627776))))
def kL (l : Bytes) : Bool := decide (0 < l.length) && ((l.head?.any fun x => decide (x.toNat = 47)) && decide (l.length ≤ 256))
def fJ (k : Key) (c : Ck) : Bool := decide (0 < k.name.size) && (eu 256 [59, 61] (bl k.name) && (eu 1024 [59] (bl c.value) && (fQ (bl k.domain) && (kL (bl k.path) && lG c))))
abbrev wV (c : Ck) : List Value := [.string c.value, .bool c.hostOnly, .bool c.secure, .bool c.httpOnly, .bool c.persistent, .int .i64 c.expiry, .int .i64 c.creation, .int .i64 c.access]
theorem xk (s : ByteArray) : decide (0 < s.size) = decide (¬ s.toList = []) := by
 by_cases h : 0 < s.size
 ·simp [h, lX h]
 ·simp only [h, kQ h, not_true_eq_false]
theorem Dk {s : ByteArray} (h : s.toList = []) : kL (bl s) = false := by
 unfold kL; rw [aH, xk]; simp [h]
theorem GM {s : ByteArray} (h : 0 < s.size) (h2 : ¬ (s[0].toNat : Int) = 47) : kL (bl s) = false := by
 unfold kL; rw [qC s h]; simp only [Option.any_some]
 rw [decide_eq_false (show ¬ s[0].toNat = 47 by omega)]; simp
theorem Dl {s : ByteArray} (h : 256 < (s.size : Int)) : kL (bl s) = false := by
 unfold kL; rw [aH, decide_eq_false (show ¬ s.size ≤ 256 by omega)]; simp
theorem Dj {s : ByteArray} (h : 0 < s.size) (h2 : (s[0].toNat : Int) = 47) (h3 : (s.size : Int) ≤ 256) : kL (bl s) = true := by
 unfold kL; rw [qC s h, aH]; simp only [Option.any_some]
 rw [decide_eq_true h, decide_eq_true (show s[0].toNat = 47 by omega), decide_eq_true (show s.size ≤ 256 by omega)]; rfl
/-- in block b lie a key's cells, a cookie's -/
structure KeyAt (w : World) (b : Nat) (k : Key) : Prop where
 c0 : w.cell? ⟨b, 0, none⟩ = some (.string k.name)
 c1 : w.cell? ⟨b, 1, none⟩ = some (.string k.domain)
 c2 : w.cell? ⟨b, 2, none⟩ = some (.string k.path)
structure CkAt (w : World) (b : Nat) (c : Ck) : Prop where
 c0 : w.cell? ⟨b, 0, none⟩ = some (.string c.value)
 c1 : w.cell? ⟨b, 1, none⟩ = some (.bool c.hostOnly)
 c2 : w.cell? ⟨b, 2, none⟩ = some (.bool c.secure)
 c3 : w.cell? ⟨b, 3, none⟩ = some (.bool c.httpOnly)
 c4 : w.cell? ⟨b, 4, none⟩ = some (.bool c.persistent)
 c5 : w.cell? ⟨b, 5, none⟩ = some (.int .i64 c.expiry)
 c6 : w.cell? ⟨b, 6, none⟩ = some (.int .i64 c.creation)
 c7 : w.cell? ⟨b, 7, none⟩ = some (.int .i64 c.access)
theorem KeyAt.kept {w w' : World} {b : Nat} {k : Key} (h : KeyAt w b k) (hb : Below w.heap.size w w') : KeyAt w' b k := ⟨YtdlmbflhbecggaaGreat.kept hb h.c0, YtdlmbflhbecggaaGreat.kept hb h.c1, YtdlmbflhbecggaaGreat.kept hb h.c2⟩
theorem CkAt.kept {w w' : World} {b : Nat} {k : Ck} (h : CkAt w b k) (hb : Below w.heap.size w w') : CkAt w' b k :=
 ⟨YtdlmbflhbecggaaGreat.kept hb h.c0, YtdlmbflhbecggaaGreat.kept hb h.c1, YtdlmbflhbecggaaGreat.kept hb h.c2, YtdlmbflhbecggaaGreat.kept hb h.c3, YtdlmbflhbecggaaGreat.kept hb h.c4, YtdlmbflhbecggaaGreat.kept hb h.c5, YtdlmbflhbecggaaGreat.kept hb h.c6, YtdlmbflhbecggaaGreat.kept hb h.c7⟩
theorem Oc (w : World) (t : TypeId) : BytesAt (w.alloc (Obj.cells #[.int .u8 59, .int .u8 61] t)) w.heap.size 0 [59, 61] := by
 intro j hj
 match j, hj with
 | 0, _ => simp [World.cell?_alloc_new]
 | 1, _ => simp [World.cell?_alloc_new]
theorem Oe (w : World) (t : TypeId) : BytesAt (w.alloc (Obj.cells #[.int .u8 59] t)) w.heap.size 0 [59] := by
 intro j hj
 match j, hj with
 | 0, _ => simp [World.cell?_alloc_new]
theorem zI (k : Key) (c : Ck) (p : Bool) (hp : Hid (c.persistent = p)) (w : World) (h1 : k.name.size ≤ 1073741824) (h2 : k.domain.size ≤ 1073741824) (h3 : k.path.size ≤ 1073741824) (h4 : c.value.size ≤ 1073741824) :
 Calls Tryz.prog 115 #[.agg #[.string k.name, .string k.domain, .string k.path, .string c.value, .bool c.hostOnly, .bool c.secure, .bool c.httpOnly, .bool p, .int .i64 c.expiry, .int .i64 c.creation, .int .i64 c.access]] w fun e w' => e = .returned (.bool (fJ k c)) ∧ Below w.heap.size w w' := by
 cases p
 all_goals
  go_enter Tryz.func115, Tryz.ntmps115
  go_upto_region 1 with fail
  go_cut [3, 4] (fun v3 v4 wx => ∃ a b, v3 = .pointer (some ⟨a, 0, none⟩) ∧ v4 = .pointer (some ⟨b, 0, none⟩) ∧ KeyAt wx a k ∧ CkAt wx b c ∧ Below w.heap.size w wx)
  case first =>
   go_region
   all_goals
        go_wp2
        go_meet
        refine ⟨_, _, rfl, rfl, ⟨?_, ?_, ?_⟩, ⟨?_, ?_, ?_, ?_, ?_, ?_, ?_, ?_⟩, ?_⟩
        all_goals first | (go_simp; done) | (go_grown; done) | (rw [hp.out]; go_simp; done)
  case rest =>
   obtain ⟨a, b, rfl, rfl, hka, hcb, hbel⟩ := hcut
   have hcan := fun (W : World) => Jw k.domain W h2
   have hI : fJ k c = (decide (¬ k.name.toList = []) && (eu 256 [59, 61] (bl k.name) && (eu 1024 [59] (bl c.value) && ((decide (oW (bl k.domain) = 0) && decide (mO (bl k.domain) = bl k.domain)) && (kL (bl k.path) && lG c))))) := by unfold fJ; rw [Jk, xk]
   have hTq : ((mkS (mO (bl k.domain))).toList == k.domain.toList) = decide (mO (bl k.domain) = bl k.domain) := by rw [lI, kP]
   generalize oW (bl k.domain) = ce at *
   generalize mO (bl k.domain) = ct at *
   have HC := Lib.hid hcan
   have HI := Lib.hid hI
   clear hcan hI
   obtain ⟨ka0, ka1, ka2⟩ := hka
   obtain ⟨cb0, cb1, cb2, cb3, cb4, cb5, cb6, cb7⟩ := hcb
   rw [hp.out] at cb4
   have hP1 : ∀ (A : Nat) (W : World), BytesAt W A 0 [59, 61] → Calls Tryz.prog 155 #[.string k.name, .int .i64 256, .slice (some ⟨A, 0, none⟩) 2 2] W fun e w' => e = .returned (.bool (eu 256 [59, 61] (bl k.name))) ∧ Below W.heap.size W w' := fun A W hb => Ac k.name 256 A [59, 61] W h1 (by omega) (by simp) hb
   have hP2 : ∀ (A : Nat) (W : World), BytesAt W A 0 [59] → Calls Tryz.prog 155 #[.string c.value, .int .i64 1024, .slice (some ⟨A, 0, none⟩) 1 1] W fun e w' => e = .returned (.bool (eu 1024 [59] (bl c.value))) ∧ Below W.heap.size W w' := fun A W hb => Ac c.value 1024 A [59] W h4 (by omega) (by simp) hb
   have HP1 := Lib.hid hP1
   have HP2 := Lib.hid hP2
   clear hP1 hP2
   go_upto_region 3 with (go_at_call 153; refine (HC.out _).mono ?_; rintro e w1 ⟨rfl, hb1⟩; replace ka0 := kept hb1 ka0; replace ka1 := kept hb1 ka1; replace ka2 := kept hb1 ka2; replace cb0 := kept hb1 cb0; replace cb4 := kept hb1 cb4; replace cb5 := kept hb1 cb5; replace cb6 := kept hb1 cb6; replace cb7 := kept hb1 cb7)
   go_cut [7] (fun v7 wx => v7 = .bool (lG c) ∧ wx = w1)
   case first =>
        go_wp2_with (go_at_call 154; refine (EO _ _ _ _).mono ?_; rintro e w2 ⟨rfl, rfl⟩)
        all_goals
         go_meet
         exact ⟨congrArg Value.bool (by unfold lG; rw [hp.out, Bool.eq_iff_iff]; simp [*] <;> omega), rfl⟩
   case rest =>
        obtain ⟨rfl, rfl⟩ := hcut
        have hb2 := below2 hbel hb1
        go_wp2_with (first
         | (go_at_call 155; (with_reducible refine (HP1.out _ _ (Oc _ _)).mono ?_); rintro e w2 ⟨rfl, hb3⟩; have hb4 := below2 ((Below.refl _ _).alloc (Nat.le_refl _) _) hb3; replace ka0 := kept hb4 ka0; replace ka1 := kept hb4 ka1; replace ka2 := kept hb4 ka2; replace cb0 := kept hb4 cb0; replace hb2 := below2 hb2 hb4; clear hb3 hb4)
         | (go_at_call 155; (with_reducible refine (HP2.out _ _ (Oe _ _)).mono ?_); rintro e w2 ⟨rfl, hb3⟩; have hb4 := below2 ((Below.refl _ _).alloc (Nat.le_refl _) _) hb3; replace ka0 := kept hb4 ka0; replace ka1 := kept hb4 ka1; replace ka2 := kept hb4 ka2; replace cb0 := kept hb4 cb0; replace hb2 := below2 hb2 hb4; clear hb3 hb4))
        all_goals first
         | (go_ret; exact ⟨ah (by rw [HI.out]; first | (simp [*]; done) | (rw [Dk ‹_›]; simp; done) | (rw [GM ‹_› ‹_›]; simp; done) | (rw [Dl ‹_›]; simp; done) | (rw [Dj ‹_› ‹_› ‹_›]; simp [*]; done)), hb2⟩)
         | exact absurd (kQ ‹¬ 0 < k.path.size›) ‹_›
theorem BA (l : Bytes) : eu 256 [59, 61] l = (decide (l.length ≤ 256) && (kJ l && decide (dR 61 l = none))) := by
 unfold eu kJ
 simp only [List.all_cons, List.all_nil, Bool.and_true]
 cases control l <;> cases decide (trim l = l) <;> simp [Bool.and_comm]
theorem zt (l : Bytes) : eu 1024 [59] l = (decide (l.length ≤ 1024) && kJ l) := by
 unfold eu kJ
 simp only [List.all_cons, List.all_nil, Bool.and_true]
 cases control l <;> cases decide (trim l = l) <;> simp [Bool.and_comm]
theorem FP (k : Key) (c : Ck) : fJ k c = (decide (¬ k.name.toList = []) && (decide ((k.name.size : Int) ≤ 256) && (kJ (bl k.name) && (decide (kE (bl k.name) 61 < 0) && (decide ((c.value.size : Int) ≤ 1024) && (kJ (bl c.value) && (fQ (bl k.domain) && (kL (bl k.path) && lG c)))))))) := by
 unfold fJ
 rw [xk, BA, zt, aH, aH, Eb]
 rw [show decide ((k.name.size : Int) ≤ 256) = decide (k.name.size ≤ 256) by rw [Bool.eq_iff_iff]; simp; omega]
 rw [show decide ((c.value.size : Int) ≤ 1024) = decide (c.value.size ≤ 1024) by rw [Bool.eq_iff_iff]; simp; omega]
 simp only [Bool.and_assoc]
theorem Bj (k : Key) (c : Ck) (p : Bool) (hp : Hid (c.persistent = p)) (w : World) (h1 : k.name.size ≤ 1073741824) (h2 : k.domain.size ≤ 1073741824) (h4 : c.value.size ≤ 1073741824) :
 Calls Tryz.prog 124 #[.agg #[.string k.name, .string k.domain, .string k.path, .string c.value, .bool c.hostOnly, .bool c.secure, .bool c.httpOnly, .bool p, .int .i64 c.expiry, .int .i64 c.creation, .int .i64 c.access]] w fun e w' => e = .returned (.bool (fJ k c)) ∧ Below w.heap.size w w' := by
 have HI := Lib.hid (FP k c)
 have Oo := Lib.hid (fun (W : World) => xy k.name W h1)
 have Om := Lib.hid (fun (W : World) => xy c.value W h4)
 have HF := Lib.hid (fun (W : World) => zW k.name 61 W (by unfold maxLen; omega))
 have HC0 := Lib.hid (fun (W : World) => xW k.domain W h2)
 generalize kJ (bl k.name) = b1 at HI Oo
 generalize kJ (bl c.value) = b2 at HI Om
 generalize fQ (bl k.domain) = b3 at HI HC0
 generalize kE (bl k.name) 61 = fi at HI HF
 by_cases n0 : 0 < k.name.size
 ·have t1 := lX n0
  have t1' := lH n0
  by_cases n1 : (k.name.size : Int) ≤ 256
  ·skip
   by_cases n2 : b1 = true
   ·subst n2
    have HPN := Oo
    by_cases n3 : fi < 0
    ·skip
     by_cases n4 : (c.value.size : Int) ≤ 1024
     ·skip
      by_cases n5 : b2 = true
      ·subst n5
       have HPV := Om
       by_cases n6 : b3 = true
       ·subst n6
        have HC := HC0
        by_cases n7 : 0 < k.path.size
        ·have t2 := lX n7
         have t2' := lH n7
         by_cases n8 : (k.path[0].toNat : Int) = 47
         ·have t3 : ((k.path[0].toNat : Int) != 47) = false := by rw [bne_eq_false_iff_eq]; exact n8
          have N8 := Lib.hid n8
          clear n8
          by_cases n9 : (k.path.size : Int) ≤ 256
          ·skip
           have HE : Hid (fJ k c = lG c) := by rw [Hid, HI.out, Dj n7 N8.out n9]; simp [t1, n1, n3, n4]
           clear HI
           cases p
           ·go_enter Tryz.func124, Tryz.ntmps124
            go_upto_region 4 with fail
            refine au (fun W hW => ?_)
            have ka0 : W.cell? ⟨w.heap.size + 1, 0, none⟩ = some (.string k.name) := by rw [hW.out]; go_simp
            have ka1 : W.cell? ⟨w.heap.size + 1, 1, none⟩ = some (.string k.domain) := by rw [hW.out]; go_simp
            have ka2 : W.cell? ⟨w.heap.size + 1, 2, none⟩ = some (.string k.path) := by rw [hW.out]; go_simp
            have cb0 : W.cell? ⟨w.heap.size + 2, 0, none⟩ = some (.string c.value) := by rw [hW.out]; go_simp
            have cb4 : W.cell? ⟨w.heap.size + 2, 4, none⟩ = some (.bool false) := by rw [hW.out]; go_simp
            have cb5 : W.cell? ⟨w.heap.size + 2, 5, none⟩ = some (.int .i64 c.expiry) := by rw [hW.out]; go_simp
            have cb6 : W.cell? ⟨w.heap.size + 2, 6, none⟩ = some (.int .i64 c.creation) := by rw [hW.out]; go_simp
            have cb7 : W.cell? ⟨w.heap.size + 2, 7, none⟩ = some (.int .i64 c.access) := by rw [hW.out]; go_simp
            have hb2 : Below w.heap.size w W := by rw [hW.out]; go_grown
            clear hW
            go_wp2_with (first
                 | (go_at_call 156; (with_reducible refine (HPN.out _).mono ?_); rintro e w2 ⟨rfl, rfl⟩)
                 | (go_at_call 156; (with_reducible refine (HPV.out _).mono ?_); rintro e w2 ⟨rfl, rfl⟩)
                 | (go_at_call 157; refine (HF.out _).mono ?_; rintro e w2 ⟨rfl, rfl⟩)
                 | (go_at_call 158; refine (HC.out _).mono ?_; rintro e w2 ⟨rfl, hb4⟩; replace ka2 := kept hb4 ka2; replace cb4 := kept hb4 cb4; replace cb5 := kept hb4 cb5; replace cb6 := kept hb4 cb6; replace cb7 := kept hb4 cb7; replace hb2 := below2 hb2 hb4; clear hb4))
            all_goals
                 go_ret
                 exact ⟨ah (by rw [HE.out]; unfold lG; rw [hp.out, Bool.eq_iff_iff]; simp [*] <;> omega), hb2⟩
           ·go_enter Tryz.func124, Tryz.ntmps124
            go_upto_region 4 with fail
            refine au (fun W hW => ?_)
            have ka0 : W.cell? ⟨w.heap.size + 1, 0, none⟩ = some (.string k.name) := by rw [hW.out]; go_simp
            have ka1 : W.cell? ⟨w.heap.size + 1, 1, none⟩ = some (.string k.domain) := by rw [hW.out]; go_simp
            have ka2 : W.cell? ⟨w.heap.size + 1, 2, none⟩ = some (.string k.path) := by rw [hW.out]; go_simp
            have cb0 : W.cell? ⟨w.heap.size + 2, 0, none⟩ = some (.string c.value) := by rw [hW.out]; go_simp
            have cb4 : W.cell? ⟨w.heap.size + 2, 4, none⟩ = some (.bool true) := by rw [hW.out]; go_simp
            have cb5 : W.cell? ⟨w.heap.size + 2, 5, none⟩ = some (.int .i64 c.expiry) := by rw [hW.out]; go_simp
            have cb6 : W.cell? ⟨w.heap.size + 2, 6, none⟩ = some (.int .i64 c.creation) := by rw [hW.out]; go_simp
            have cb7 : W.cell? ⟨w.heap.size + 2, 7, none⟩ = some (.int .i64 c.access) := by rw [hW.out]; go_simp
            have hb2 : Below w.heap.size w W := by rw [hW.out]; go_grown
            clear hW
            go_wp2_with (first
                 | (go_at_call 156; (with_reducible refine (HPN.out _).mono ?_); rintro e w2 ⟨rfl, rfl⟩)
                 | (go_at_call 156; (with_reducible refine (HPV.out _).mono ?_); rintro e w2 ⟨rfl, rfl⟩)
                 | (go_at_call 157; refine (HF.out _).mono ?_; rintro e w2 ⟨rfl, rfl⟩)
                 | (go_at_call 158; refine (HC.out _).mono ?_; rintro e w2 ⟨rfl, hb4⟩; replace ka2 := kept hb4 ka2; replace cb4 := kept hb4 cb4; replace cb5 := kept hb4 cb5; replace cb6 := kept hb4 cb6; replace cb7 := kept hb4 cb7; replace hb2 := below2 hb2 hb4; clear hb4))
            all_goals
                 go_ret
                 exact ⟨ah (by rw [HE.out]; unfold lG; rw [hp.out, Bool.eq_iff_iff]; simp [*] <;> omega), hb2⟩
          ·skip
           have HE : Hid (fJ k c = false) := by rw [Hid, HI.out]; rw [Dl (by omega : 256 < (k.path.size : Int))]; simp
           clear HI
           go_enter Tryz.func124, Tryz.ntmps124
           go_upto_region 4 with fail
           refine au (fun W hW => ?_)
           have ka0 : W.cell? ⟨w.heap.size + 1, 0, none⟩ = some (.string k.name) := by rw [hW.out]; go_simp
           have ka1 : W.cell? ⟨w.heap.size + 1, 1, none⟩ = some (.string k.domain) := by rw [hW.out]; go_simp
           have ka2 : W.cell? ⟨w.heap.size + 1, 2, none⟩ = some (.string k.path) := by rw [hW.out]; go_simp
           have cb0 : W.cell? ⟨w.heap.size + 2, 0, none⟩ = some (.string c.value) := by rw [hW.out]; go_simp
           have cb4 : W.cell? ⟨w.heap.size + 2, 4, none⟩ = some (.bool p) := by rw [hW.out]; go_simp
           have cb5 : W.cell? ⟨w.heap.size + 2, 5, none⟩ = some (.int .i64 c.expiry) := by rw [hW.out]; go_simp
           have cb6 : W.cell? ⟨w.heap.size + 2, 6, none⟩ = some (.int .i64 c.creation) := by rw [hW.out]; go_simp
           have cb7 : W.cell? ⟨w.heap.size + 2, 7, none⟩ = some (.int .i64 c.access) := by rw [hW.out]; go_simp
           have hb2 : Below w.heap.size w W := by rw [hW.out]; go_grown
           clear hW
           go_wp2_with (first
                        | (go_at_call 156; (with_reducible refine (HPN.out _).mono ?_); rintro e w2 ⟨rfl, rfl⟩)
                        | (go_at_call 156; (with_reducible refine (HPV.out _).mono ?_); rintro e w2 ⟨rfl, rfl⟩)
                        | (go_at_call 157; refine (HF.out _).mono ?_; rintro e w2 ⟨rfl, rfl⟩)
                        | (go_at_call 158; refine (HC.out _).mono ?_; rintro e w2 ⟨rfl, hb4⟩; replace ka2 := kept hb4 ka2; replace cb4 := kept hb4 cb4; replace cb5 := kept hb4 cb5; replace cb6 := kept hb4 cb6; replace cb7 := kept hb4 cb7; replace hb2 := below2 hb2 hb4; clear hb4))
           go_ret
           exact ⟨ah HE.out.symm, hb2⟩
         ·have t3 : ((k.path[0].toNat : Int) != 47) = true := by rw [bne_iff_ne]; exact n8
          have N8 := Lib.hid n8
          clear n8
          have HE : Hid (fJ k c = false) := by rw [Hid, HI.out]; rw [GM n7 N8.out]; simp
          clear HI
          go_enter Tryz.func124, Tryz.ntmps124
          go_upto_region 4 with fail
          refine au (fun W hW => ?_)
          have ka0 : W.cell? ⟨w.heap.size + 1, 0, none⟩ = some (.string k.name) := by rw [hW.out]; go_simp
          have ka1 : W.cell? ⟨w.heap.size + 1, 1, none⟩ = some (.string k.domain) := by rw [hW.out]; go_simp
          have ka2 : W.cell? ⟨w.heap.size + 1, 2, none⟩ = some (.string k.path) := by rw [hW.out]; go_simp
          have cb0 : W.cell? ⟨w.heap.size + 2, 0, none⟩ = some (.string c.value) := by rw [hW.out]; go_simp
          have cb4 : W.cell? ⟨w.heap.size + 2, 4, none⟩ = some (.bool p) := by rw [hW.out]; go_simp
          have cb5 : W.cell? ⟨w.heap.size + 2, 5, none⟩ = some (.int .i64 c.expiry) := by rw [hW.out]; go_simp
          have cb6 : W.cell? ⟨w.heap.size + 2, 6, none⟩ = some (.int .i64 c.creation) := by rw [hW.out]; go_simp
          have cb7 : W.cell? ⟨w.heap.size + 2, 7, none⟩ = some (.int .i64 c.access) := by rw [hW.out]; go_simp
          have hb2 : Below w.heap.size w W := by rw [hW.out]; go_grown
          clear hW
          go_wp2_with (first
              | (go_at_call 156; (with_reducible refine (HPN.out _).mono ?_); rintro e w2 ⟨rfl, rfl⟩)
              | (go_at_call 156; (with_reducible refine (HPV.out _).mono ?_); rintro e w2 ⟨rfl, rfl⟩)
              | (go_at_call 157; refine (HF.out _).mono ?_; rintro e w2 ⟨rfl, rfl⟩)
              | (go_at_call 158; refine (HC.out _).mono ?_; rintro e w2 ⟨rfl, hb4⟩; replace ka2 := kept hb4 ka2; replace cb4 := kept hb4 cb4; replace cb5 := kept hb4 cb5; replace cb6 := kept hb4 cb6; replace cb7 := kept hb4 cb7; replace hb2 := below2 hb2 hb4; clear hb4))
          go_ret
          exact ⟨ah HE.out.symm, hb2⟩
        ·have t2 := kQ n7
         have t2' := lW n7
         have HE : Hid (fJ k c = false) := by rw [Hid, HI.out]; rw [Dk t2]; simp
         clear HI
         go_enter Tryz.func124, Tryz.ntmps124
         go_upto_region 4 with fail
         refine au (fun W hW => ?_)
         have ka0 : W.cell? ⟨w.heap.size + 1, 0, none⟩ = some (.string k.name) := by rw [hW.out]; go_simp
         have ka1 : W.cell? ⟨w.heap.size + 1, 1, none⟩ = some (.string k.domain) := by rw [hW.out]; go_simp
         have ka2 : W.cell? ⟨w.heap.size + 1, 2, none⟩ = some (.string k.path) := by rw [hW.out]; go_simp
         have cb0 : W.cell? ⟨w.heap.size + 2, 0, none⟩ = some (.string c.value) := by rw [hW.out]; go_simp
         have cb4 : W.cell? ⟨w.heap.size + 2, 4, none⟩ = some (.bool p) := by rw [hW.out]; go_simp
         have cb5 : W.cell? ⟨w.heap.size + 2, 5, none⟩ = some (.int .i64 c.expiry) := by rw [hW.out]; go_simp
         have cb6 : W.cell? ⟨w.heap.size + 2, 6, none⟩ = some (.int .i64 c.creation) := by rw [hW.out]; go_simp
         have cb7 : W.cell? ⟨w.heap.size + 2, 7, none⟩ = some (.int .i64 c.access) := by rw [hW.out]; go_simp
         have hb2 : Below w.heap.size w W := by rw [hW.out]; go_grown
         clear hW
         go_wp2_with (first
             | (go_at_call 156; (with_reducible refine (HPN.out _).mono ?_); rintro e w2 ⟨rfl, rfl⟩)
             | (go_at_call 156; (with_reducible refine (HPV.out _).mono ?_); rintro e w2 ⟨rfl, rfl⟩)
             | (go_at_call 157; refine (HF.out _).mono ?_; rintro e w2 ⟨rfl, rfl⟩)
             | (go_at_call 158; refine (HC.out _).mono ?_; rintro e w2 ⟨rfl, hb4⟩; replace ka2 := kept hb4 ka2; replace cb4 := kept hb4 cb4; replace cb5 := kept hb4 cb5; replace cb6 := kept hb4 cb6; replace cb7 := kept hb4 cb7; replace hb2 := below2 hb2 hb4; clear hb4))
         go_ret
         exact ⟨ah HE.out.symm, hb2⟩
       ·obtain rfl : b3 = false := by simpa using n6
        have HC := HC0
        have HE : Hid (fJ k c = false) := by rw [Hid, HI.out]; simp
        clear HI
        go_enter Tryz.func124, Tryz.ntmps124
        go_upto_region 4 with fail
        refine au (fun W hW => ?_)
        have ka0 : W.cell? ⟨w.heap.size + 1, 0, none⟩ = some (.string k.name) := by rw [hW.out]; go_simp
        have ka1 : W.cell? ⟨w.heap.size + 1, 1, none⟩ = some (.string k.domain) := by rw [hW.out]; go_simp
        have ka2 : W.cell? ⟨w.heap.size + 1, 2, none⟩ = some (.string k.path) := by rw [hW.out]; go_simp
        have cb0 : W.cell? ⟨w.heap.size + 2, 0, none⟩ = some (.string c.value) := by rw [hW.out]; go_simp
        have cb4 : W.cell? ⟨w.heap.size + 2, 4, none⟩ = some (.bool p) := by rw [hW.out]; go_simp
        have cb5 : W.cell? ⟨w.heap.size + 2, 5, none⟩ = some (.int .i64 c.expiry) := by rw [hW.out]; go_simp
        have cb6 : W.cell? ⟨w.heap.size + 2, 6, none⟩ = some (.int .i64 c.creation) := by rw [hW.out]; go_simp
        have cb7 : W.cell? ⟨w.heap.size + 2, 7, none⟩ = some (.int .i64 c.access) := by rw [hW.out]; go_simp
        have hb2 : Below w.heap.size w W := by rw [hW.out]; go_grown
        clear hW
        go_wp2_with (first
         | (go_at_call 156; (with_reducible refine (HPN.out _).mono ?_); rintro e w2 ⟨rfl, rfl⟩)
         | (go_at_call 156; (with_reducible refine (HPV.out _).mono ?_); rintro e w2 ⟨rfl, rfl⟩)
         | (go_at_call 157; refine (HF.out _).mono ?_; rintro e w2 ⟨rfl, rfl⟩)
         | (go_at_call 158; refine (HC.out _).mono ?_; rintro e w2 ⟨rfl, hb4⟩; replace ka2 := kept hb4 ka2; replace cb4 := kept hb4 cb4; replace cb5 := kept hb4 cb5; replace cb6 := kept hb4 cb6; replace cb7 := kept hb4 cb7; replace hb2 := below2 hb2 hb4; clear hb4))
        go_ret
        exact ⟨ah HE.out.symm, hb2⟩
      ·obtain rfl : b2 = false := by simpa using n5
       have HPV := Om
       have HE : Hid (fJ k c = false) := by rw [Hid, HI.out]; simp
       clear HI
       go_enter Tryz.func124, Tryz.ntmps124
       go_upto_region 4 with fail
       refine au (fun W hW => ?_)
       have ka0 : W.cell? ⟨w.heap.size + 1, 0, none⟩ = some (.string k.name) := by rw [hW.out]; go_simp
       have ka1 : W.cell? ⟨w.heap.size + 1, 1, none⟩ = some (.string k.domain) := by rw [hW.out]; go_simp
       have ka2 : W.cell? ⟨w.heap.size + 1, 2, none⟩ = some (.string k.path) := by rw [hW.out]; go_simp
       have cb0 : W.cell? ⟨w.heap.size + 2, 0, none⟩ = some (.string c.value) := by rw [hW.out]; go_simp
       have cb4 : W.cell? ⟨w.heap.size + 2, 4, none⟩ = some (.bool p) := by rw [hW.out]; go_simp
       have cb5 : W.cell? ⟨w.heap.size + 2, 5, none⟩ = some (.int .i64 c.expiry) := by rw [hW.out]; go_simp
       have cb6 : W.cell? ⟨w.heap.size + 2, 6, none⟩ = some (.int .i64 c.creation) := by rw [hW.out]; go_simp
       have cb7 : W.cell? ⟨w.heap.size + 2, 7, none⟩ = some (.int .i64 c.access) := by rw [hW.out]; go_simp
       have hb2 : Below w.heap.size w W := by rw [hW.out]; go_grown
       clear hW
       go_wp2_with (first
        | (go_at_call 156; (with_reducible refine (HPN.out _).mono ?_); rintro e w2 ⟨rfl, rfl⟩)
        | (go_at_call 156; (with_reducible refine (HPV.out _).mono ?_); rintro e w2 ⟨rfl, rfl⟩)
        | (go_at_call 157; refine (HF.out _).mono ?_; rintro e w2 ⟨rfl, rfl⟩)
        | (go_at_call 158; refine (HC.out _).mono ?_; rintro e w2 ⟨rfl, hb4⟩; replace ka2 := kept hb4 ka2; replace cb4 := kept hb4 cb4; replace cb5 := kept hb4 cb5; replace cb6 := kept hb4 cb6; replace cb7 := kept hb4 cb7; replace hb2 := below2 hb2 hb4; clear hb4))
       go_ret
       exact ⟨ah HE.out.symm, hb2⟩
     ·skip
      have HE : Hid (fJ k c = false) := by rw [Hid, HI.out]; simp [n4]
      clear HI
      go_enter Tryz.func124, Tryz.ntmps124
      go_upto_region 4 with fail
      refine au (fun W hW => ?_)
      have ka0 : W.cell? ⟨w.heap.size + 1, 0, none⟩ = some (.string k.name) := by rw [hW.out]; go_simp
      have ka1 : W.cell? ⟨w.heap.size + 1, 1, none⟩ = some (.string k.domain) := by rw [hW.out]; go_simp
      have ka2 : W.cell? ⟨w.heap.size + 1, 2, none⟩ = some (.string k.path) := by rw [hW.out]; go_simp
      have cb0 : W.cell? ⟨w.heap.size + 2, 0, none⟩ = some (.string c.value) := by rw [hW.out]; go_simp
      have cb4 : W.cell? ⟨w.heap.size + 2, 4, none⟩ = some (.bool p) := by rw [hW.out]; go_simp
      have cb5 : W.cell? ⟨w.heap.size + 2, 5, none⟩ = some (.int .i64 c.expiry) := by rw [hW.out]; go_simp
      have cb6 : W.cell? ⟨w.heap.size + 2, 6, none⟩ = some (.int .i64 c.creation) := by rw [hW.out]; go_simp
      have cb7 : W.cell? ⟨w.heap.size + 2, 7, none⟩ = some (.int .i64 c.access) := by rw [hW.out]; go_simp
      have hb2 : Below w.heap.size w W := by rw [hW.out]; go_grown
      clear hW
      go_wp2_with (first
          | (go_at_call 156; (with_reducible refine (HPN.out _).mono ?_); rintro e w2 ⟨rfl, rfl⟩)
          | (go_at_call 156; (with_reducible refine (HPV.out _).mono ?_); rintro e w2 ⟨rfl, rfl⟩)
          | (go_at_call 157; refine (HF.out _).mono ?_; rintro e w2 ⟨rfl, rfl⟩)
          | (go_at_call 158; refine (HC.out _).mono ?_; rintro e w2 ⟨rfl, hb4⟩; replace ka2 := kept hb4 ka2; replace cb4 := kept hb4 cb4; replace cb5 := kept hb4 cb5; replace cb6 := kept hb4 cb6; replace cb7 := kept hb4 cb7; replace hb2 := below2 hb2 hb4; clear hb4))
      go_ret
      exact ⟨ah HE.out.symm, hb2⟩
    ·skip
     have HE : Hid (fJ k c = false) := by rw [Hid, HI.out]; simp [n3]
     clear HI
     go_enter Tryz.func124, Tryz.ntmps124
     go_upto_region 4 with fail
     refine au (fun W hW => ?_)
     have ka0 : W.cell? ⟨w.heap.size + 1, 0, none⟩ = some (.string k.name) := by rw [hW.out]; go_simp
     have ka1 : W.cell? ⟨w.heap.size + 1, 1, none⟩ = some (.string k.domain) := by rw [hW.out]; go_simp
     have ka2 : W.cell? ⟨w.heap.size + 1, 2, none⟩ = some (.string k.path) := by rw [hW.out]; go_simp
     have cb0 : W.cell? ⟨w.heap.size + 2, 0, none⟩ = some (.string c.value) := by rw [hW.out]; go_simp
     have cb4 : W.cell? ⟨w.heap.size + 2, 4, none⟩ = some (.bool p) := by rw [hW.out]; go_simp
     have cb5 : W.cell? ⟨w.heap.size + 2, 5, none⟩ = some (.int .i64 c.expiry) := by rw [hW.out]; go_simp
     have cb6 : W.cell? ⟨w.heap.size + 2, 6, none⟩ = some (.int .i64 c.creation) := by rw [hW.out]; go_simp
     have cb7 : W.cell? ⟨w.heap.size + 2, 7, none⟩ = some (.int .i64 c.access) := by rw [hW.out]; go_simp
     have hb2 : Below w.heap.size w W := by rw [hW.out]; go_grown
     clear hW
     go_wp2_with (first
          | (go_at_call 156; (with_reducible refine (HPN.out _).mono ?_); rintro e w2 ⟨rfl, rfl⟩)
          | (go_at_call 156; (with_reducible refine (HPV.out _).mono ?_); rintro e w2 ⟨rfl, rfl⟩)
          | (go_at_call 157; refine (HF.out _).mono ?_; rintro e w2 ⟨rfl, rfl⟩)
          | (go_at_call 158; refine (HC.out _).mono ?_; rintro e w2 ⟨rfl, hb4⟩; replace ka2 := kept hb4 ka2; replace cb4 := kept hb4 cb4; replace cb5 := kept hb4 cb5; replace cb6 := kept hb4 cb6; replace cb7 := kept hb4 cb7; replace hb2 := below2 hb2 hb4; clear hb4))
     go_ret
     exact ⟨ah HE.out.symm, hb2⟩
   ·obtain rfl : b1 = false := by simpa using n2
    have HPN := Oo
    have HE : Hid (fJ k c = false) := by rw [Hid, HI.out]; simp
    clear HI
    go_enter Tryz.func124, Tryz.ntmps124
    go_upto_region 4 with fail
    refine au (fun W hW => ?_)
    have ka0 : W.cell? ⟨w.heap.size + 1, 0, none⟩ = some (.string k.name) := by rw [hW.out]; go_simp
    have ka1 : W.cell? ⟨w.heap.size + 1, 1, none⟩ = some (.string k.domain) := by rw [hW.out]; go_simp
    have ka2 : W.cell? ⟨w.heap.size + 1, 2, none⟩ = some (.string k.path) := by rw [hW.out]; go_simp
    have cb0 : W.cell? ⟨w.heap.size + 2, 0, none⟩ = some (.string c.value) := by rw [hW.out]; go_simp
    have cb4 : W.cell? ⟨w.heap.size + 2, 4, none⟩ = some (.bool p) := by rw [hW.out]; go_simp
    have cb5 : W.cell? ⟨w.heap.size + 2, 5, none⟩ = some (.int .i64 c.expiry) := by rw [hW.out]; go_simp
    have cb6 : W.cell? ⟨w.heap.size + 2, 6, none⟩ = some (.int .i64 c.creation) := by rw [hW.out]; go_simp
    have cb7 : W.cell? ⟨w.heap.size + 2, 7, none⟩ = some (.int .i64 c.access) := by rw [hW.out]; go_simp
    have hb2 : Below w.heap.size w W := by rw [hW.out]; go_grown
    clear hW
    go_wp2_with (first
     | (go_at_call 156; (with_reducible refine (HPN.out _).mono ?_); rintro e w2 ⟨rfl, rfl⟩)
     | (go_at_call 156; (with_reducible refine (HPV.out _).mono ?_); rintro e w2 ⟨rfl, rfl⟩)
     | (go_at_call 157; refine (HF.out _).mono ?_; rintro e w2 ⟨rfl, rfl⟩)
     | (go_at_call 158; refine (HC.out _).mono ?_; rintro e w2 ⟨rfl, hb4⟩; replace ka2 := kept hb4 ka2; replace cb4 := kept hb4 cb4; replace cb5 := kept hb4 cb5; replace cb6 := kept hb4 cb6; replace cb7 := kept hb4 cb7; replace hb2 := below2 hb2 hb4; clear hb4))
    go_ret
    exact ⟨ah HE.out.symm, hb2⟩
  ·skip
   have HE : Hid (fJ k c = false) := by rw [Hid, HI.out]; simp [n1]
   clear HI
   go_enter Tryz.func124, Tryz.ntmps124
   go_upto_region 4 with fail
   refine au (fun W hW => ?_)
   have ka0 : W.cell? ⟨w.heap.size + 1, 0, none⟩ = some (.string k.name) := by rw [hW.out]; go_simp
   have ka1 : W.cell? ⟨w.heap.size + 1, 1, none⟩ = some (.string k.domain) := by rw [hW.out]; go_simp
   have ka2 : W.cell? ⟨w.heap.size + 1, 2, none⟩ = some (.string k.path) := by rw [hW.out]; go_simp
   have cb0 : W.cell? ⟨w.heap.size + 2, 0, none⟩ = some (.string c.value) := by rw [hW.out]; go_simp
   have cb4 : W.cell? ⟨w.heap.size + 2, 4, none⟩ = some (.bool p) := by rw [hW.out]; go_simp
   have cb5 : W.cell? ⟨w.heap.size + 2, 5, none⟩ = some (.int .i64 c.expiry) := by rw [hW.out]; go_simp
   have cb6 : W.cell? ⟨w.heap.size + 2, 6, none⟩ = some (.int .i64 c.creation) := by rw [hW.out]; go_simp
   have cb7 : W.cell? ⟨w.heap.size + 2, 7, none⟩ = some (.int .i64 c.access) := by rw [hW.out]; go_simp
   have hb2 : Below w.heap.size w W := by rw [hW.out]; go_grown
   clear hW
   go_wp2_with (first
        | (go_at_call 156; (with_reducible refine (HPN.out _).mono ?_); rintro e w2 ⟨rfl, rfl⟩)
        | (go_at_call 156; (with_reducible refine (HPV.out _).mono ?_); rintro e w2 ⟨rfl, rfl⟩)
        | (go_at_call 157; refine (HF.out _).mono ?_; rintro e w2 ⟨rfl, rfl⟩)
        | (go_at_call 158; refine (HC.out _).mono ?_; rintro e w2 ⟨rfl, hb4⟩; replace ka2 := kept hb4 ka2; replace cb4 := kept hb4 cb4; replace cb5 := kept hb4 cb5; replace cb6 := kept hb4 cb6; replace cb7 := kept hb4 cb7; replace hb2 := below2 hb2 hb4; clear hb4))
   go_ret
   exact ⟨ah HE.out.symm, hb2⟩
 ·have t1 := kQ n0
  have t1' := lW n0
  have HE : Hid (fJ k c = false) := by rw [Hid, HI.out]; simp [t1]
  clear HI
  go_enter Tryz.func124, Tryz.ntmps124
  go_upto_region 4 with fail
  refine au (fun W hW => ?_)
  have ka0 : W.cell? ⟨w.heap.size + 1, 0, none⟩ = some (.string k.name) := by rw [hW.out]; go_simp
  have ka1 : W.cell? ⟨w.heap.size + 1, 1, none⟩ = some (.string k.domain) := by rw [hW.out]; go_simp
  have ka2 : W.cell? ⟨w.heap.size + 1, 2, none⟩ = some (.string k.path) := by rw [hW.out]; go_simp
  have cb0 : W.cell? ⟨w.heap.size + 2, 0, none⟩ = some (.string c.value) := by rw [hW.out]; go_simp
  have cb4 : W.cell? ⟨w.heap.size + 2, 4, none⟩ = some (.bool p) := by rw [hW.out]; go_simp
  have cb5 : W.cell? ⟨w.heap.size + 2, 5, none⟩ = some (.int .i64 c.expiry) := by rw [hW.out]; go_simp
  have cb6 : W.cell? ⟨w.heap.size + 2, 6, none⟩ = some (.int .i64 c.creation) := by rw [hW.out]; go_simp
  have cb7 : W.cell? ⟨w.heap.size + 2, 7, none⟩ = some (.int .i64 c.access) := by rw [hW.out]; go_simp
  have hb2 : Below w.heap.size w W := by rw [hW.out]; go_grown
  clear hW
  go_wp2_with (first
   | (go_at_call 156; (with_reducible refine (HPN.out _).mono ?_); rintro e w2 ⟨rfl, rfl⟩)
   | (go_at_call 156; (with_reducible refine (HPV.out _).mono ?_); rintro e w2 ⟨rfl, rfl⟩)
   | (go_at_call 157; refine (HF.out _).mono ?_; rintro e w2 ⟨rfl, rfl⟩)
   | (go_at_call 158; refine (HC.out _).mono ?_; rintro e w2 ⟨rfl, hb4⟩; replace ka2 := kept hb4 ka2; replace cb4 := kept hb4 cb4; replace cb5 := kept hb4 cb5; replace cb6 := kept hb4 cb6; replace cb7 := kept hb4 cb7; replace hb2 := below2 hb2 hb4; clear hb4))
  go_ret
  exact ⟨ah HE.out.symm, hb2⟩
structure Ev where
 dot : Dot
 stamp : Stamp
 kind : Int
 key : Key
 ck : Ck
 over : List Dot
 deriving DecidableEq
def di : Key := ⟨ByteArray.empty, ByteArray.empty, ByteArray.empty⟩
def ck0 : Ck := ⟨ByteArray.empty, false, false, false, false, 0, 0, 0⟩
def zH : Dot := ⟨⟨0, 0⟩, 0⟩
def qZ : Stamp := ⟨0, 0, 0⟩
def ev0 : Ev := ⟨zH, qZ, 0, di, ck0, []⟩
def kindOk (e : Ev) : Bool := if e.kind = 2 then (decide (e.key = di) && decide (e.ck = ck0)) && decide (0 < e.over.length) else if e.kind = 1 then fJ e.key e.ck else false
def dN (e : Ev) : Bool := bK e.dot && (iH e.stamp && (decide (e.stamp.dev = e.dot.a.dev) && (overOk e.dot e.over && kindOk e)))
/-- an event's texts and lists are short -/
structure EvSmall (e : Ev) : Prop where
 name : e.key.name.size ≤ 1073741824
 domain : e.key.domain.size ≤ 1073741824
 path : e.key.path.size ≤ 1073741824
 value : e.ck.value.size ≤ 1073741824
 over : e.over.length ≤ 1073741824
/-- an event's value -/
abbrev LP (k : Key) (c : Ck) : Value := .agg #[.string k.name, .string k.domain, .string k.path, .string c.value, .bool c.hostOnly, .bool c.secure, .bool c.httpOnly, .bool c.persistent, .int .i64 c.expiry, .int .i64 c.creation, .int .i64 c.access]
abbrev jF (e : Ev) (a : Option Addr) (cap : Nat) : Value :=
 .agg #[.int .i64 e.dot.a.dev, .int .i64 e.dot.a.inc, .int .i64 e.dot.seq, .int .i64 e.stamp.wall, .int .i64 e.stamp.count, .int .i64 e.stamp.dev, .int .i64 e.kind, .string e.key.name, .string e.key.domain, .string e.key.path, .string e.ck.value, .bool e.ck.hostOnly, .bool e.ck.secure, .bool e.ck.httpOnly, .bool e.ck.persistent, .int .i64 e.ck.expiry, .int .i64 e.ck.creation, .int .i64 e.ck.access, .slice a e.over.length cap]
theorem Lj (e : Ev) (a : Option Addr) (cap : Nat) (w : World) :
 Calls Tryz.prog 114 #[jF e a cap] w fun x w' => x = .returned (LP e.key e.ck) ∧ Below w.heap.size w w' := by
 go_enter Tryz.func114, Tryz.ntmps114
 go_wp2
 go_returns
 exact ⟨rfl, by go_grown⟩
end Go.Proofs.YtdlmbflhbecggaaGreat
