/- Which cookies may be: package cookie's Right and the reference's. Conditions: texts of at most 2^30 bytes. -/
import Derived.Test.YtlefejokpdjpgaaGreatCookie
set_option linter.unusedSimpArgs false
set_option linter.unusedVariables false
set_option linter.unnecessarySimpa false
set_option maxHeartbeats 16000000
set_option maxRecDepth 100000
namespace Go.Proofs.YtlefejokpdjpgaaGreat
open Go.RowKit
def timesOk (c : Ck) : Bool := (decide (-1099511627776 ≤ c.expiry) && decide (c.expiry ≤ 1099511627776)) && ((decide (0 ≤ c.creation) && decide (c.creation ≤ 1099511627776)) && ((decide (0 ≤ c.access) && decide (c.access ≤ 1099511627776)) && (c.persistent || decide (c.expiry = 1099511627776))))
def pathOk (l : Bytes) : Bool := decide (0 < l.length) && ((l.head?.any fun x => decide (x.toNat = 47)) && decide (l.length ≤ 256))
def itemOk (k : Key) (c : Ck) : Bool := decide (0 < k.name.size) && (plainOk 256 [59, 61] (bl k.name) && (plainOk 1024 [59] (bl c.value) && (canonical (bl k.domain) && (pathOk (bl k.path) && timesOk c))))
abbrev ckCells (c : Ck) : List Value := [.string c.value, .bool c.hostOnly, .bool c.secure, .bool c.httpOnly, .bool c.persistent, .int .i64 c.expiry, .int .i64 c.creation, .int .i64 c.access]
theorem size_pos (s : ByteArray) : decide (0 < s.size) = decide (¬ s.toList = []) := by
 by_cases h : 0 < s.size
 ·simp [h, str_ne h]
 ·simp only [h, str_nil h, not_true_eq_false]
theorem path_no0 {s : ByteArray} (h : s.toList = []) : pathOk (bl s) = false := by
 unfold pathOk; rw [bl_length, size_pos]; simp [h]
theorem path_47 {s : ByteArray} (h : 0 < s.size) (h2 : ¬ (s[0].toNat : Int) = 47) : pathOk (bl s) = false := by
 unfold pathOk; rw [head_bl s h]; simp only [Option.any_some]
 rw [decide_eq_false (show ¬ s[0].toNat = 47 by omega)]; simp
theorem path_256 {s : ByteArray} (h : 256 < (s.size : Int)) : pathOk (bl s) = false := by
 unfold pathOk; rw [bl_length, decide_eq_false (show ¬ s.size ≤ 256 by omega)]; simp
theorem path_yes {s : ByteArray} (h : 0 < s.size) (h2 : (s[0].toNat : Int) = 47) (h3 : (s.size : Int) ≤ 256) : pathOk (bl s) = true := by
 unfold pathOk; rw [head_bl s h, bl_length]; simp only [Option.any_some]
 rw [decide_eq_true h, decide_eq_true (show s[0].toNat = 47 by omega), decide_eq_true (show s.size ≤ 256 by omega)]; rfl
/-- in block b lie a key's cells, a cookie's -/
structure KeyAt (w : World) (b : Nat) (k : Key) : Prop where
 c0 : w.cell? ⟨b, 0, none⟩ = some (.string k.name)
 c1 : w.cell? ⟨b, 1, none⟩ = some (.string k.domain)
 c2 : w.cell? ⟨b, 2, none⟩ = some (.string k.path)
structure CkAt (w : World) (b : Nat) (c : Ck) : Prop where
 c0 : w.cell? ⟨b, 0, none⟩ = some (.string c.value)
 c1 : w.cell? ⟨b, 1, none⟩ = some (.bool c.hostOnly)
 c2 : w.cell? ⟨b, 2, none⟩ = some (.bool c.secure)
 c3 : w.cell? ⟨b, 3, none⟩ = some (.bool c.httpOnly)
 c4 : w.cell? ⟨b, 4, none⟩ = some (.bool c.persistent)
 c5 : w.cell? ⟨b, 5, none⟩ = some (.int .i64 c.expiry)
 c6 : w.cell? ⟨b, 6, none⟩ = some (.int .i64 c.creation)
 c7 : w.cell? ⟨b, 7, none⟩ = some (.int .i64 c.access)
theorem KeyAt.kept {w w' : World} {b : Nat} {k : Key} (h : KeyAt w b k) (hb : Below w.heap.size w w') : KeyAt w' b k := ⟨YtlefejokpdjpgaaGreat.kept hb h.c0, YtlefejokpdjpgaaGreat.kept hb h.c1, YtlefejokpdjpgaaGreat.kept hb h.c2⟩
theorem CkAt.kept {w w' : World} {b : Nat} {k : Ck} (h : CkAt w b k) (hb : Below w.heap.size w w') : CkAt w' b k :=
 ⟨YtlefejokpdjpgaaGreat.kept hb h.c0, YtlefejokpdjpgaaGreat.kept hb h.c1, YtlefejokpdjpgaaGreat.kept hb h.c2, YtlefejokpdjpgaaGreat.kept hb h.c3, YtlefejokpdjpgaaGreat.kept hb h.c4, YtlefejokpdjpgaaGreat.kept hb h.c5, YtlefejokpdjpgaaGreat.kept hb h.c6, YtlefejokpdjpgaaGreat.kept hb h.c7⟩
theorem bytes2 (w : World) (t : TypeId) : BytesAt (w.alloc (Obj.cells #[.int .u8 59, .int .u8 61] t)) w.heap.size 0 [59, 61] := by
 intro j hj
 match j, hj with
 | 0, _ => simp [World.cell?_alloc_new]
 | 1, _ => simp [World.cell?_alloc_new]
theorem bytes1 (w : World) (t : TypeId) : BytesAt (w.alloc (Obj.cells #[.int .u8 59] t)) w.heap.size 0 [59] := by
 intro j hj
 match j, hj with
 | 0, _ => simp [World.cell?_alloc_new]
theorem cookieRight_p (k : Key) (c : Ck) (p : Bool) (hp : Hid (c.persistent = p)) (w : World) (h1 : k.name.size ≤ 1073741824) (h2 : k.domain.size ≤ 1073741824) (h3 : k.path.size ≤ 1073741824) (h4 : c.value.size ≤ 1073741824) :
 Calls Tryz.prog 112 #[.agg #[.string k.name, .string k.domain, .string k.path, .string c.value, .bool c.hostOnly, .bool c.secure, .bool c.httpOnly, .bool p, .int .i64 c.expiry, .int .i64 c.creation, .int .i64 c.access]] w fun e w' => e = .returned (.bool (itemOk k c)) ∧ Below w.heap.size w w' := by
 cases p
 all_goals
  go_enter Tryz.func112, Tryz.ntmps112
  go_upto_region 1 with fail
  go_cut [3, 4] (fun v3 v4 wx => ∃ a b, v3 = .pointer (some ⟨a, 0, none⟩) ∧ v4 = .pointer (some ⟨b, 0, none⟩) ∧ KeyAt wx a k ∧ CkAt wx b c ∧ Below w.heap.size w wx)
  case first =>
   go_region
   all_goals
        go_wp2
        go_meet
        refine ⟨_, _, rfl, rfl, ⟨?_, ?_, ?_⟩, ⟨?_, ?_, ?_, ?_, ?_, ?_, ?_, ?_⟩, ?_⟩
        all_goals first | (go_simp; done) | (go_grown; done) | (rw [hp.out]; go_simp; done)
  case rest =>
   obtain ⟨a, b, rfl, rfl, hka, hcb, hbel⟩ := hcut
   have hcan := fun (W : World) => Canon_any k.domain W h2
   have hI : itemOk k c = (decide (¬ k.name.toList = []) && (plainOk 256 [59, 61] (bl k.name) && (plainOk 1024 [59] (bl c.value) && ((decide (canonE (bl k.domain) = 0) && decide (canonT (bl k.domain) = bl k.domain)) && (pathOk (bl k.path) && timesOk c))))) := by unfold itemOk; rw [canon_ref, size_pos]
   have hTq : ((mkS (canonT (bl k.domain))).toList == k.domain.toList) = decide (canonT (bl k.domain) = bl k.domain) := by rw [str_beq, bl_mkS]
   generalize canonE (bl k.domain) = ce at *
   generalize canonT (bl k.domain) = ct at *
   have HC := Lib.hid hcan
   have HI := Lib.hid hI
   clear hcan hI
   obtain ⟨ka0, ka1, ka2⟩ := hka
   obtain ⟨cb0, cb1, cb2, cb3, cb4, cb5, cb6, cb7⟩ := hcb
   rw [hp.out] at cb4
   have hP1 : ∀ (A : Nat) (W : World), BytesAt W A 0 [59, 61] → Calls Tryz.prog 149 #[.string k.name, .int .i64 256, .slice (some ⟨A, 0, none⟩) 2 2] W fun e w' => e = .returned (.bool (plainOk 256 [59, 61] (bl k.name))) ∧ Below W.heap.size W w' := fun A W hb => plain_any k.name 256 A [59, 61] W h1 (by omega) (by simp) hb
   have hP2 : ∀ (A : Nat) (W : World), BytesAt W A 0 [59] → Calls Tryz.prog 149 #[.string c.value, .int .i64 1024, .slice (some ⟨A, 0, none⟩) 1 1] W fun e w' => e = .returned (.bool (plainOk 1024 [59] (bl c.value))) ∧ Below W.heap.size W w' := fun A W hb => plain_any c.value 1024 A [59] W h4 (by omega) (by simp) hb
   have HP1 := Lib.hid hP1
   have HP2 := Lib.hid hP2
   clear hP1 hP2
   go_upto_region 3 with (go_at_call 147; refine (HC.out _).mono ?_; rintro e w1 ⟨rfl, hb1⟩; replace ka0 := kept hb1 ka0; replace ka1 := kept hb1 ka1; replace ka2 := kept hb1 ka2; replace cb0 := kept hb1 cb0; replace cb4 := kept hb1 cb4; replace cb5 := kept hb1 cb5; replace cb6 := kept hb1 cb6; replace cb7 := kept hb1 cb7)
   go_cut [7] (fun v7 wx => v7 = .bool (timesOk c) ∧ wx = w1)
   case first =>
        go_wp2_with (go_at_call 148; refine (within_any _ _ _ _).mono ?_; rintro e w2 ⟨rfl, rfl⟩)
        all_goals
         go_meet
         exact ⟨congrArg Value.bool (by unfold timesOk; rw [hp.out, Bool.eq_iff_iff]; simp [*] <;> omega), rfl⟩
   case rest =>
        obtain ⟨rfl, rfl⟩ := hcut
        have hb2 := below2 hbel hb1
        go_wp2_with (first
         | (go_at_call 149; (with_reducible refine (HP1.out _ _ (bytes2 _ _)).mono ?_); rintro e w2 ⟨rfl, hb3⟩; have hb4 := below2 ((Below.refl _ _).alloc (Nat.le_refl _) _) hb3; replace ka0 := kept hb4 ka0; replace ka1 := kept hb4 ka1; replace ka2 := kept hb4 ka2; replace cb0 := kept hb4 cb0; replace hb2 := below2 hb2 hb4; clear hb3 hb4)
         | (go_at_call 149; (with_reducible refine (HP2.out _ _ (bytes1 _ _)).mono ?_); rintro e w2 ⟨rfl, hb3⟩; have hb4 := below2 ((Below.refl _ _).alloc (Nat.le_refl _) _) hb3; replace ka0 := kept hb4 ka0; replace ka1 := kept hb4 ka1; replace ka2 := kept hb4 ka2; replace cb0 := kept hb4 cb0; replace hb2 := below2 hb2 hb4; clear hb3 hb4))
        all_goals first
         | (go_ret; exact ⟨ret_bool (by rw [HI.out]; first | (simp [*]; done) | (rw [path_no0 ‹_›]; simp; done) | (rw [path_47 ‹_› ‹_›]; simp; done) | (rw [path_256 ‹_›]; simp; done) | (rw [path_yes ‹_› ‹_› ‹_›]; simp [*]; done)), hb2⟩)
         | exact absurd (str_nil ‹¬ 0 < k.path.size›) ‹_›
theorem plainOk_name (l : Bytes) : plainOk 256 [59, 61] l = (decide (l.length ≤ 256) && (plainR l && decide (findB 61 l = none))) := by
 unfold plainOk plainR
 simp only [List.all_cons, List.all_nil, Bool.and_true]
 cases control l <;> cases decide (trim l = l) <;> simp [Bool.and_comm]
theorem plainOk_value (l : Bytes) : plainOk 1024 [59] l = (decide (l.length ≤ 1024) && plainR l) := by
 unfold plainOk plainR
 simp only [List.all_cons, List.all_nil, Bool.and_true]
 cases control l <;> cases decide (trim l = l) <;> simp [Bool.and_comm]
theorem itemOk_ref (k : Key) (c : Ck) : itemOk k c = (decide (¬ k.name.toList = []) && (decide ((k.name.size : Int) ≤ 256) && (plainR (bl k.name) && (decide (findI (bl k.name) 61 < 0) && (decide ((c.value.size : Int) ≤ 1024) && (plainR (bl c.value) && (canonical (bl k.domain) && (pathOk (bl k.path) && timesOk c)))))))) := by
 unfold itemOk
 rw [size_pos, plainOk_name, plainOk_value, bl_length, bl_length, findI_lt]
 rw [show decide ((k.name.size : Int) ≤ 256) = decide (k.name.size ≤ 256) by rw [Bool.eq_iff_iff]; simp; omega]
 rw [show decide ((c.value.size : Int) ≤ 1024) = decide (c.value.size ≤ 1024) by rw [Bool.eq_iff_iff]; simp; omega]
 simp only [Bool.and_assoc]
theorem rItemRight_p (k : Key) (c : Ck) (p : Bool) (hp : Hid (c.persistent = p)) (w : World) (h1 : k.name.size ≤ 1073741824) (h2 : k.domain.size ≤ 1073741824) (h4 : c.value.size ≤ 1073741824) :
 Calls Tryz.prog 58 #[.agg #[.string k.name, .string k.domain, .string k.path, .string c.value, .bool c.hostOnly, .bool c.secure, .bool c.httpOnly, .bool p, .int .i64 c.expiry, .int .i64 c.creation, .int .i64 c.access]] w fun e w' => e = .returned (.bool (itemOk k c)) ∧ Below w.heap.size w w' := by
 have HI := Lib.hid (itemOk_ref k c)
 have HPN0 := Lib.hid (fun (W : World) => rplain_any k.name W h1)
 have HPV0 := Lib.hid (fun (W : World) => rplain_any c.value W h4)
 have HF := Lib.hid (fun (W : World) => rFind_any k.name 61 W (by unfold maxLen; omega))
 have HC0 := Lib.hid (fun (W : World) => rCanonical_any k.domain W h2)
 generalize plainR (bl k.name) = b1 at HI HPN0
 generalize plainR (bl c.value) = b2 at HI HPV0
 generalize canonical (bl k.domain) = b3 at HI HC0
 generalize findI (bl k.name) 61 = fi at HI HF
 by_cases n0 : 0 < k.name.size
 ·have t1 := str_ne n0
  have t1' := str_ne' n0
  by_cases n1 : (k.name.size : Int) ≤ 256
  ·skip
   by_cases n2 : b1 = true
   ·subst n2
    have HPN := HPN0
    by_cases n3 : fi < 0
    ·skip
     by_cases n4 : (c.value.size : Int) ≤ 1024
     ·skip
      by_cases n5 : b2 = true
      ·subst n5
       have HPV := HPV0
       by_cases n6 : b3 = true
       ·subst n6
        have HC := HC0
        by_cases n7 : 0 < k.path.size
        ·have t2 := str_ne n7
         have t2' := str_ne' n7
         by_cases n8 : (k.path[0].toNat : Int) = 47
         ·have t3 : ((k.path[0].toNat : Int) != 47) = false := by rw [bne_eq_false_iff_eq]; exact n8
          have N8 := Lib.hid n8
          clear n8
          by_cases n9 : (k.path.size : Int) ≤ 256
          ·skip
           have HE : Hid (itemOk k c = timesOk c) := by rw [Hid, HI.out, path_yes n7 N8.out n9]; simp [t1, n1, n3, n4]
           clear HI
           cases p
           ·go_enter Tryz.func58, Tryz.ntmps58
            go_upto_region 4 with fail
            refine wp_name (fun W hW => ?_)
            have ka0 : W.cell? ⟨w.heap.size + 1, 0, none⟩ = some (.string k.name) := by rw [hW.out]; go_simp
            have ka1 : W.cell? ⟨w.heap.size + 1, 1, none⟩ = some (.string k.domain) := by rw [hW.out]; go_simp
            have ka2 : W.cell? ⟨w.heap.size + 1, 2, none⟩ = some (.string k.path) := by rw [hW.out]; go_simp
            have cb0 : W.cell? ⟨w.heap.size + 2, 0, none⟩ = some (.string c.value) := by rw [hW.out]; go_simp
            have cb4 : W.cell? ⟨w.heap.size + 2, 4, none⟩ = some (.bool false) := by rw [hW.out]; go_simp
            have cb5 : W.cell? ⟨w.heap.size + 2, 5, none⟩ = some (.int .i64 c.expiry) := by rw [hW.out]; go_simp
            have cb6 : W.cell? ⟨w.heap.size + 2, 6, none⟩ = some (.int .i64 c.creation) := by rw [hW.out]; go_simp
            have cb7 : W.cell? ⟨w.heap.size + 2, 7, none⟩ = some (.int .i64 c.access) := by rw [hW.out]; go_simp
            have hb2 : Below w.heap.size w W := by rw [hW.out]; go_grown
            clear hW
            go_wp2_with (first
                 | (go_at_call 88; (with_reducible refine (HPN.out _).mono ?_); rintro e w2 ⟨rfl, rfl⟩)
                 | (go_at_call 88; (with_reducible refine (HPV.out _).mono ?_); rintro e w2 ⟨rfl, rfl⟩)
                 | (go_at_call 89; refine (HF.out _).mono ?_; rintro e w2 ⟨rfl, rfl⟩)
                 | (go_at_call 90; refine (HC.out _).mono ?_; rintro e w2 ⟨rfl, hb4⟩; replace ka2 := kept hb4 ka2; replace cb4 := kept hb4 cb4; replace cb5 := kept hb4 cb5; replace cb6 := kept hb4 cb6; replace cb7 := kept hb4 cb7; replace hb2 := below2 hb2 hb4; clear hb4))
            all_goals
                 go_ret
                 exact ⟨ret_bool (by rw [HE.out]; unfold timesOk; rw [hp.out, Bool.eq_iff_iff]; simp [*] <;> omega), hb2⟩
           ·go_enter Tryz.func58, Tryz.ntmps58
            go_upto_region 4 with fail
            refine wp_name (fun W hW => ?_)
            have ka0 : W.cell? ⟨w.heap.size + 1, 0, none⟩ = some (.string k.name) := by rw [hW.out]; go_simp
            have ka1 : W.cell? ⟨w.heap.size + 1, 1, none⟩ = some (.string k.domain) := by rw [hW.out]; go_simp
            have ka2 : W.cell? ⟨w.heap.size + 1, 2, none⟩ = some (.string k.path) := by rw [hW.out]; go_simp
            have cb0 : W.cell? ⟨w.heap.size + 2, 0, none⟩ = some (.string c.value) := by rw [hW.out]; go_simp
            have cb4 : W.cell? ⟨w.heap.size + 2, 4, none⟩ = some (.bool true) := by rw [hW.out]; go_simp
            have cb5 : W.cell? ⟨w.heap.size + 2, 5, none⟩ = some (.int .i64 c.expiry) := by rw [hW.out]; go_simp
            have cb6 : W.cell? ⟨w.heap.size + 2, 6, none⟩ = some (.int .i64 c.creation) := by rw [hW.out]; go_simp
            have cb7 : W.cell? ⟨w.heap.size + 2, 7, none⟩ = some (.int .i64 c.access) := by rw [hW.out]; go_simp
            have hb2 : Below w.heap.size w W := by rw [hW.out]; go_grown
            clear hW
            go_wp2_with (first
                 | (go_at_call 88; (with_reducible refine (HPN.out _).mono ?_); rintro e w2 ⟨rfl, rfl⟩)
                 | (go_at_call 88; (with_reducible refine (HPV.out _).mono ?_); rintro e w2 ⟨rfl, rfl⟩)
                 | (go_at_call 89; refine (HF.out _).mono ?_; rintro e w2 ⟨rfl, rfl⟩)
                 | (go_at_call 90; refine (HC.out _).mono ?_; rintro e w2 ⟨rfl, hb4⟩; replace ka2 := kept hb4 ka2; replace cb4 := kept hb4 cb4; replace cb5 := kept hb4 cb5; replace cb6 := kept hb4 cb6; replace cb7 := kept hb4 cb7; replace hb2 := below2 hb2 hb4; clear hb4))
            all_goals
                 go_ret
                 exact ⟨ret_bool (by rw [HE.out]; unfold timesOk; rw [hp.out, Bool.eq_iff_iff]; simp [*] <;> omega), hb2⟩
          ·skip
           have HE : Hid (itemOk k c = false) := by rw [Hid, HI.out]; rw [path_256 (by omega : 256 < (k.path.size : Int))]; simp
           clear HI
           go_enter Tryz.func58, Tryz.ntmps58
           go_upto_region 4 with fail
           refine wp_name (fun W hW => ?_)
           have ka0 : W.cell? ⟨w.heap.size + 1, 0, none⟩ = some (.string k.name) := by rw [hW.out]; go_simp
           have ka1 : W.cell? ⟨w.heap.size + 1, 1, none⟩ = some (.string k.domain) := by rw [hW.out]; go_simp
           have ka2 : W.cell? ⟨w.heap.size + 1, 2, none⟩ = some (.string k.path) := by rw [hW.out]; go_simp
           have cb0 : W.cell? ⟨w.heap.size + 2, 0, none⟩ = some (.string c.value) := by rw [hW.out]; go_simp
           have cb4 : W.cell? ⟨w.heap.size + 2, 4, none⟩ = some (.bool p) := by rw [hW.out]; go_simp
           have cb5 : W.cell? ⟨w.heap.size + 2, 5, none⟩ = some (.int .i64 c.expiry) := by rw [hW.out]; go_simp
           have cb6 : W.cell? ⟨w.heap.size + 2, 6, none⟩ = some (.int .i64 c.creation) := by rw [hW.out]; go_simp
           have cb7 : W.cell? ⟨w.heap.size + 2, 7, none⟩ = some (.int .i64 c.access) := by rw [hW.out]; go_simp
           have hb2 : Below w.heap.size w W := by rw [hW.out]; go_grown
           clear hW
           go_wp2_with (first
                        | (go_at_call 88; (with_reducible refine (HPN.out _).mono ?_); rintro e w2 ⟨rfl, rfl⟩)
                        | (go_at_call 88; (with_reducible refine (HPV.out _).mono ?_); rintro e w2 ⟨rfl, rfl⟩)
                        | (go_at_call 89; refine (HF.out _).mono ?_; rintro e w2 ⟨rfl, rfl⟩)
                        | (go_at_call 90; refine (HC.out _).mono ?_; rintro e w2 ⟨rfl, hb4⟩; replace ka2 := kept hb4 ka2; replace cb4 := kept hb4 cb4; replace cb5 := kept hb4 cb5; replace cb6 := kept hb4 cb6; replace cb7 := kept hb4 cb7; replace hb2 := below2 hb2 hb4; clear hb4))
           go_ret
           exact ⟨ret_bool HE.out.symm, hb2⟩
         ·have t3 : ((k.path[0].toNat : Int) != 47) = true := by rw [bne_iff_ne]; exact n8
          have N8 := Lib.hid n8
          clear n8
          have HE : Hid (itemOk k c = false) := by rw [Hid, HI.out]; rw [path_47 n7 N8.out]; simp
          clear HI
          go_enter Tryz.func58, Tryz.ntmps58
          go_upto_region 4 with fail
          refine wp_name (fun W hW => ?_)
          have ka0 : W.cell? ⟨w.heap.size + 1, 0, none⟩ = some (.string k.name) := by rw [hW.out]; go_simp
          have ka1 : W.cell? ⟨w.heap.size + 1, 1, none⟩ = some (.string k.domain) := by rw [hW.out]; go_simp
          have ka2 : W.cell? ⟨w.heap.size + 1, 2, none⟩ = some (.string k.path) := by rw [hW.out]; go_simp
          have cb0 : W.cell? ⟨w.heap.size + 2, 0, none⟩ = some (.string c.value) := by rw [hW.out]; go_simp
          have cb4 : W.cell? ⟨w.heap.size + 2, 4, none⟩ = some (.bool p) := by rw [hW.out]; go_simp
          have cb5 : W.cell? ⟨w.heap.size + 2, 5, none⟩ = some (.int .i64 c.expiry) := by rw [hW.out]; go_simp
          have cb6 : W.cell? ⟨w.heap.size + 2, 6, none⟩ = some (.int .i64 c.creation) := by rw [hW.out]; go_simp
          have cb7 : W.cell? ⟨w.heap.size + 2, 7, none⟩ = some (.int .i64 c.access) := by rw [hW.out]; go_simp
          have hb2 : Below w.heap.size w W := by rw [hW.out]; go_grown
          clear hW
          go_wp2_with (first
              | (go_at_call 88; (with_reducible refine (HPN.out _).mono ?_); rintro e w2 ⟨rfl, rfl⟩)
              | (go_at_call 88; (with_reducible refine (HPV.out _).mono ?_); rintro e w2 ⟨rfl, rfl⟩)
              | (go_at_call 89; refine (HF.out _).mono ?_; rintro e w2 ⟨rfl, rfl⟩)
              | (go_at_call 90; refine (HC.out _).mono ?_; rintro e w2 ⟨rfl, hb4⟩; replace ka2 := kept hb4 ka2; replace cb4 := kept hb4 cb4; replace cb5 := kept hb4 cb5; replace cb6 := kept hb4 cb6; replace cb7 := kept hb4 cb7; replace hb2 := below2 hb2 hb4; clear hb4))
          go_ret
          exact ⟨ret_bool HE.out.symm, hb2⟩
        ·have t2 := str_nil n7
         have t2' := str_nil' n7
         have HE : Hid (itemOk k c = false) := by rw [Hid, HI.out]; rw [path_no0 t2]; simp
         clear HI
         go_enter Tryz.func58, Tryz.ntmps58
         go_upto_region 4 with fail
         refine wp_name (fun W hW => ?_)
         have ka0 : W.cell? ⟨w.heap.size + 1, 0, none⟩ = some (.string k.name) := by rw [hW.out]; go_simp
         have ka1 : W.cell? ⟨w.heap.size + 1, 1, none⟩ = some (.string k.domain) := by rw [hW.out]; go_simp
         have ka2 : W.cell? ⟨w.heap.size + 1, 2, none⟩ = some (.string k.path) := by rw [hW.out]; go_simp
         have cb0 : W.cell? ⟨w.heap.size + 2, 0, none⟩ = some (.string c.value) := by rw [hW.out]; go_simp
         have cb4 : W.cell? ⟨w.heap.size + 2, 4, none⟩ = some (.bool p) := by rw [hW.out]; go_simp
         have cb5 : W.cell? ⟨w.heap.size + 2, 5, none⟩ = some (.int .i64 c.expiry) := by rw [hW.out]; go_simp
         have cb6 : W.cell? ⟨w.heap.size + 2, 6, none⟩ = some (.int .i64 c.creation) := by rw [hW.out]; go_simp
         have cb7 : W.cell? ⟨w.heap.size + 2, 7, none⟩ = some (.int .i64 c.access) := by rw [hW.out]; go_simp
         have hb2 : Below w.heap.size w W := by rw [hW.out]; go_grown
         clear hW
         go_wp2_with (first
             | (go_at_call 88; (with_reducible refine (HPN.out _).mono ?_); rintro e w2 ⟨rfl, rfl⟩)
             | (go_at_call 88; (with_reducible refine (HPV.out _).mono ?_); rintro e w2 ⟨rfl, rfl⟩)
             | (go_at_call 89; refine (HF.out _).mono ?_; rintro e w2 ⟨rfl, rfl⟩)
             | (go_at_call 90; refine (HC.out _).mono ?_; rintro e w2 ⟨rfl, hb4⟩; replace ka2 := kept hb4 ka2; replace cb4 := kept hb4 cb4; replace cb5 := kept hb4 cb5; replace cb6 := kept hb4 cb6; replace cb7 := kept hb4 cb7; replace hb2 := below2 hb2 hb4; clear hb4))
         go_ret
         exact ⟨ret_bool HE.out.symm, hb2⟩
       ·obtain rfl : b3 = false := by simpa using n6
        have HC := HC0
        have HE : Hid (itemOk k c = false) := by rw [Hid, HI.out]; simp
        clear HI
        go_enter Tryz.func58, Tryz.ntmps58
        go_upto_region 4 with fail
        refine wp_name (fun W hW => ?_)
        have ka0 : W.cell? ⟨w.heap.size + 1, 0, none⟩ = some (.string k.name) := by rw [hW.out]; go_simp
        have ka1 : W.cell? ⟨w.heap.size + 1, 1, none⟩ = some (.string k.domain) := by rw [hW.out]; go_simp
        have ka2 : W.cell? ⟨w.heap.size + 1, 2, none⟩ = some (.string k.path) := by rw [hW.out]; go_simp
        have cb0 : W.cell? ⟨w.heap.size + 2, 0, none⟩ = some (.string c.value) := by rw [hW.out]; go_simp
        have cb4 : W.cell? ⟨w.heap.size + 2, 4, none⟩ = some (.bool p) := by rw [hW.out]; go_simp
        have cb5 : W.cell? ⟨w.heap.size + 2, 5, none⟩ = some (.int .i64 c.expiry) := by rw [hW.out]; go_simp
        have cb6 : W.cell? ⟨w.heap.size + 2, 6, none⟩ = some (.int .i64 c.creation) := by rw [hW.out]; go_simp
        have cb7 : W.cell? ⟨w.heap.size + 2, 7, none⟩ = some (.int .i64 c.access) := by rw [hW.out]; go_simp
        have hb2 : Below w.heap.size w W := by rw [hW.out]; go_grown
        clear hW
        go_wp2_with (first
         | (go_at_call 88; (with_reducible refine (HPN.out _).mono ?_); rintro e w2 ⟨rfl, rfl⟩)
         | (go_at_call 88; (with_reducible refine (HPV.out _).mono ?_); rintro e w2 ⟨rfl, rfl⟩)
         | (go_at_call 89; refine (HF.out _).mono ?_; rintro e w2 ⟨rfl, rfl⟩)
         | (go_at_call 90; refine (HC.out _).mono ?_; rintro e w2 ⟨rfl, hb4⟩; replace ka2 := kept hb4 ka2; replace cb4 := kept hb4 cb4; replace cb5 := kept hb4 cb5; replace cb6 := kept hb4 cb6; replace cb7 := kept hb4 cb7; replace hb2 := below2 hb2 hb4; clear hb4))
        go_ret
        exact ⟨ret_bool HE.out.symm, hb2⟩
      ·obtain rfl : b2 = false := by simpa using n5
       have HPV := HPV0
       have HE : Hid (itemOk k c = false) := by rw [Hid, HI.out]; simp
       clear HI
       go_enter Tryz.func58, Tryz.ntmps58
       go_upto_region 4 with fail
       refine wp_name (fun W hW => ?_)
       have ka0 : W.cell? ⟨w.heap.size + 1, 0, none⟩ = some (.string k.name) := by rw [hW.out]; go_simp
       have ka1 : W.cell? ⟨w.heap.size + 1, 1, none⟩ = some (.string k.domain) := by rw [hW.out]; go_simp
       have ka2 : W.cell? ⟨w.heap.size + 1, 2, none⟩ = some (.string k.path) := by rw [hW.out]; go_simp
       have cb0 : W.cell? ⟨w.heap.size + 2, 0, none⟩ = some (.string c.value) := by rw [hW.out]; go_simp
       have cb4 : W.cell? ⟨w.heap.size + 2, 4, none⟩ = some (.bool p) := by rw [hW.out]; go_simp
       have cb5 : W.cell? ⟨w.heap.size + 2, 5, none⟩ = some (.int .i64 c.expiry) := by rw [hW.out]; go_simp
       have cb6 : W.cell? ⟨w.heap.size + 2, 6, none⟩ = some (.int .i64 c.creation) := by rw [hW.out]; go_simp
       have cb7 : W.cell? ⟨w.heap.size + 2, 7, none⟩ = some (.int .i64 c.access) := by rw [hW.out]; go_simp
       have hb2 : Below w.heap.size w W := by rw [hW.out]; go_grown
       clear hW
       go_wp2_with (first
        | (go_at_call 88; (with_reducible refine (HPN.out _).mono ?_); rintro e w2 ⟨rfl, rfl⟩)
        | (go_at_call 88; (with_reducible refine (HPV.out _).mono ?_); rintro e w2 ⟨rfl, rfl⟩)
        | (go_at_call 89; refine (HF.out _).mono ?_; rintro e w2 ⟨rfl, rfl⟩)
        | (go_at_call 90; refine (HC.out _).mono ?_; rintro e w2 ⟨rfl, hb4⟩; replace ka2 := kept hb4 ka2; replace cb4 := kept hb4 cb4; replace cb5 := kept hb4 cb5; replace cb6 := kept hb4 cb6; replace cb7 := kept hb4 cb7; replace hb2 := below2 hb2 hb4; clear hb4))
       go_ret
       exact ⟨ret_bool HE.out.symm, hb2⟩
     ·skip
      have HE : Hid (itemOk k c = false) := by rw [Hid, HI.out]; simp [n4]
      clear HI
      go_enter Tryz.func58, Tryz.ntmps58
      go_upto_region 4 with fail
      refine wp_name (fun W hW => ?_)
      have ka0 : W.cell? ⟨w.heap.size + 1, 0, none⟩ = some (.string k.name) := by rw [hW.out]; go_simp
      have ka1 : W.cell? ⟨w.heap.size + 1, 1, none⟩ = some (.string k.domain) := by rw [hW.out]; go_simp
      have ka2 : W.cell? ⟨w.heap.size + 1, 2, none⟩ = some (.string k.path) := by rw [hW.out]; go_simp
      have cb0 : W.cell? ⟨w.heap.size + 2, 0, none⟩ = some (.string c.value) := by rw [hW.out]; go_simp
      have cb4 : W.cell? ⟨w.heap.size + 2, 4, none⟩ = some (.bool p) := by rw [hW.out]; go_simp
      have cb5 : W.cell? ⟨w.heap.size + 2, 5, none⟩ = some (.int .i64 c.expiry) := by rw [hW.out]; go_simp
      have cb6 : W.cell? ⟨w.heap.size + 2, 6, none⟩ = some (.int .i64 c.creation) := by rw [hW.out]; go_simp
      have cb7 : W.cell? ⟨w.heap.size + 2, 7, none⟩ = some (.int .i64 c.access) := by rw [hW.out]; go_simp
      have hb2 : Below w.heap.size w W := by rw [hW.out]; go_grown
      clear hW
      go_wp2_with (first
          | (go_at_call 88; (with_reducible refine (HPN.out _).mono ?_); rintro e w2 ⟨rfl, rfl⟩)
          | (go_at_call 88; (with_reducible refine (HPV.out _).mono ?_); rintro e w2 ⟨rfl, rfl⟩)
          | (go_at_call 89; refine (HF.out _).mono ?_; rintro e w2 ⟨rfl, rfl⟩)
          | (go_at_call 90; refine (HC.out _).mono ?_; rintro e w2 ⟨rfl, hb4⟩; replace ka2 := kept hb4 ka2; replace cb4 := kept hb4 cb4; replace cb5 := kept hb4 cb5; replace cb6 := kept hb4 cb6; replace cb7 := kept hb4 cb7; replace hb2 := below2 hb2 hb4; clear hb4))
      go_ret
      exact ⟨ret_bool HE.out.symm, hb2⟩
    ·skip
     have HE : Hid (itemOk k c = false) := by rw [Hid, HI.out]; simp [n3]
     clear HI
     go_enter Tryz.func58, Tryz.ntmps58
     go_upto_region 4 with fail
     refine wp_name (fun W hW => ?_)
     have ka0 : W.cell? ⟨w.heap.size + 1, 0, none⟩ = some (.string k.name) := by rw [hW.out]; go_simp
     have ka1 : W.cell? ⟨w.heap.size + 1, 1, none⟩ = some (.string k.domain) := by rw [hW.out]; go_simp
     have ka2 : W.cell? ⟨w.heap.size + 1, 2, none⟩ = some (.string k.path) := by rw [hW.out]; go_simp
     have cb0 : W.cell? ⟨w.heap.size + 2, 0, none⟩ = some (.string c.value) := by rw [hW.out]; go_simp
     have cb4 : W.cell? ⟨w.heap.size + 2, 4, none⟩ = some (.bool p) := by rw [hW.out]; go_simp
     have cb5 : W.cell? ⟨w.heap.size + 2, 5, none⟩ = some (.int .i64 c.expiry) := by rw [hW.out]; go_simp
     have cb6 : W.cell? ⟨w.heap.size + 2, 6, none⟩ = some (.int .i64 c.creation) := by rw [hW.out]; go_simp
     have cb7 : W.cell? ⟨w.heap.size + 2, 7, none⟩ = some (.int .i64 c.access) := by rw [hW.out]; go_simp
     have hb2 : Below w.heap.size w W := by rw [hW.out]; go_grown
     clear hW
     go_wp2_with (first
          | (go_at_call 88; (with_reducible refine (HPN.out _).mono ?_); rintro e w2 ⟨rfl, rfl⟩)
          | (go_at_call 88; (with_reducible refine (HPV.out _).mono ?_); rintro e w2 ⟨rfl, rfl⟩)
          | (go_at_call 89; refine (HF.out _).mono ?_; rintro e w2 ⟨rfl, rfl⟩)
          | (go_at_call 90; refine (HC.out _).mono ?_; rintro e w2 ⟨rfl, hb4⟩; replace ka2 := kept hb4 ka2; replace cb4 := kept hb4 cb4; replace cb5 := kept hb4 cb5; replace cb6 := kept hb4 cb6; replace cb7 := kept hb4 cb7; replace hb2 := below2 hb2 hb4; clear hb4))
     go_ret
     exact ⟨ret_bool HE.out.symm, hb2⟩
   ·obtain rfl : b1 = false := by simpa using n2
    have HPN := HPN0
    have HE : Hid (itemOk k c = false) := by rw [Hid, HI.out]; simp
    clear HI
    go_enter Tryz.func58, Tryz.ntmps58
    go_upto_region 4 with fail
    refine wp_name (fun W hW => ?_)
    have ka0 : W.cell? ⟨w.heap.size + 1, 0, none⟩ = some (.string k.name) := by rw [hW.out]; go_simp
    have ka1 : W.cell? ⟨w.heap.size + 1, 1, none⟩ = some (.string k.domain) := by rw [hW.out]; go_simp
    have ka2 : W.cell? ⟨w.heap.size + 1, 2, none⟩ = some (.string k.path) := by rw [hW.out]; go_simp
    have cb0 : W.cell? ⟨w.heap.size + 2, 0, none⟩ = some (.string c.value) := by rw [hW.out]; go_simp
    have cb4 : W.cell? ⟨w.heap.size + 2, 4, none⟩ = some (.bool p) := by rw [hW.out]; go_simp
    have cb5 : W.cell? ⟨w.heap.size + 2, 5, none⟩ = some (.int .i64 c.expiry) := by rw [hW.out]; go_simp
    have cb6 : W.cell? ⟨w.heap.size + 2, 6, none⟩ = some (.int .i64 c.creation) := by rw [hW.out]; go_simp
    have cb7 : W.cell? ⟨w.heap.size + 2, 7, none⟩ = some (.int .i64 c.access) := by rw [hW.out]; go_simp
    have hb2 : Below w.heap.size w W := by rw [hW.out]; go_grown
    clear hW
    go_wp2_with (first
     | (go_at_call 88; (with_reducible refine (HPN.out _).mono ?_); rintro e w2 ⟨rfl, rfl⟩)
     | (go_at_call 88; (with_reducible refine (HPV.out _).mono ?_); rintro e w2 ⟨rfl, rfl⟩)
     | (go_at_call 89; refine (HF.out _).mono ?_; rintro e w2 ⟨rfl, rfl⟩)
     | (go_at_call 90; refine (HC.out _).mono ?_; rintro e w2 ⟨rfl, hb4⟩; replace ka2 := kept hb4 ka2; replace cb4 := kept hb4 cb4; replace cb5 := kept hb4 cb5; replace cb6 := kept hb4 cb6; replace cb7 := kept hb4 cb7; replace hb2 := below2 hb2 hb4; clear hb4))
    go_ret
    exact ⟨ret_bool HE.out.symm, hb2⟩
  ·skip
   have HE : Hid (itemOk k c = false) := by rw [Hid, HI.out]; simp [n1]
   clear HI
   go_enter Tryz.func58, Tryz.ntmps58
   go_upto_region 4 with fail
   refine wp_name (fun W hW => ?_)
   have ka0 : W.cell? ⟨w.heap.size + 1, 0, none⟩ = some (.string k.name) := by rw [hW.out]; go_simp
   have ka1 : W.cell? ⟨w.heap.size + 1, 1, none⟩ = some (.string k.domain) := by rw [hW.out]; go_simp
   have ka2 : W.cell? ⟨w.heap.size + 1, 2, none⟩ = some (.string k.path) := by rw [hW.out]; go_simp
   have cb0 : W.cell? ⟨w.heap.size + 2, 0, none⟩ = some (.string c.value) := by rw [hW.out]; go_simp
   have cb4 : W.cell? ⟨w.heap.size + 2, 4, none⟩ = some (.bool p) := by rw [hW.out]; go_simp
   have cb5 : W.cell? ⟨w.heap.size + 2, 5, none⟩ = some (.int .i64 c.expiry) := by rw [hW.out]; go_simp
   have cb6 : W.cell? ⟨w.heap.size + 2, 6, none⟩ = some (.int .i64 c.creation) := by rw [hW.out]; go_simp
   have cb7 : W.cell? ⟨w.heap.size + 2, 7, none⟩ = some (.int .i64 c.access) := by rw [hW.out]; go_simp
   have hb2 : Below w.heap.size w W := by rw [hW.out]; go_grown
   clear hW
   go_wp2_with (first
        | (go_at_call 88; (with_reducible refine (HPN.out _).mono ?_); rintro e w2 ⟨rfl, rfl⟩)
        | (go_at_call 88; (with_reducible refine (HPV.out _).mono ?_); rintro e w2 ⟨rfl, rfl⟩)
        | (go_at_call 89; refine (HF.out _).mono ?_; rintro e w2 ⟨rfl, rfl⟩)
        | (go_at_call 90; refine (HC.out _).mono ?_; rintro e w2 ⟨rfl, hb4⟩; replace ka2 := kept hb4 ka2; replace cb4 := kept hb4 cb4; replace cb5 := kept hb4 cb5; replace cb6 := kept hb4 cb6; replace cb7 := kept hb4 cb7; replace hb2 := below2 hb2 hb4; clear hb4))
   go_ret
   exact ⟨ret_bool HE.out.symm, hb2⟩
 ·have t1 := str_nil n0
  have t1' := str_nil' n0
  have HE : Hid (itemOk k c = false) := by rw [Hid, HI.out]; simp [t1]
  clear HI
  go_enter Tryz.func58, Tryz.ntmps58
  go_upto_region 4 with fail
  refine wp_name (fun W hW => ?_)
  have ka0 : W.cell? ⟨w.heap.size + 1, 0, none⟩ = some (.string k.name) := by rw [hW.out]; go_simp
  have ka1 : W.cell? ⟨w.heap.size + 1, 1, none⟩ = some (.string k.domain) := by rw [hW.out]; go_simp
  have ka2 : W.cell? ⟨w.heap.size + 1, 2, none⟩ = some (.string k.path) := by rw [hW.out]; go_simp
  have cb0 : W.cell? ⟨w.heap.size + 2, 0, none⟩ = some (.string c.value) := by rw [hW.out]; go_simp
  have cb4 : W.cell? ⟨w.heap.size + 2, 4, none⟩ = some (.bool p) := by rw [hW.out]; go_simp
  have cb5 : W.cell? ⟨w.heap.size + 2, 5, none⟩ = some (.int .i64 c.expiry) := by rw [hW.out]; go_simp
  have cb6 : W.cell? ⟨w.heap.size + 2, 6, none⟩ = some (.int .i64 c.creation) := by rw [hW.out]; go_simp
  have cb7 : W.cell? ⟨w.heap.size + 2, 7, none⟩ = some (.int .i64 c.access) := by rw [hW.out]; go_simp
  have hb2 : Below w.heap.size w W := by rw [hW.out]; go_grown
  clear hW
  go_wp2_with (first
   | (go_at_call 88; (with_reducible refine (HPN.out _).mono ?_); rintro e w2 ⟨rfl, rfl⟩)
   | (go_at_call 88; (with_reducible refine (HPV.out _).mono ?_); rintro e w2 ⟨rfl, rfl⟩)
   | (go_at_call 89; refine (HF.out _).mono ?_; rintro e w2 ⟨rfl, rfl⟩)
   | (go_at_call 90; refine (HC.out _).mono ?_; rintro e w2 ⟨rfl, hb4⟩; replace ka2 := kept hb4 ka2; replace cb4 := kept hb4 cb4; replace cb5 := kept hb4 cb5; replace cb6 := kept hb4 cb6; replace cb7 := kept hb4 cb7; replace hb2 := below2 hb2 hb4; clear hb4))
  go_ret
  exact ⟨ret_bool HE.out.symm, hb2⟩
end Go.Proofs.YtlefejokpdjpgaaGreat
