/- Package cookie's tests of texts and times, and the reference's. Conditions: texts of at most 2^30 bytes. -/
import Derived.Test.YtohcmljigcdmbaaGreatHost
import Derived.Test.YtohcmljigcdmbaaGreatDot
import Derived.Test.YtohcmljigcdmbaaGreatEq
set_option linter.unusedSimpArgs false
set_option linter.unusedVariables false
set_option linter.unnecessarySimpa false
set_option maxHeartbeats 16000000
set_option maxRecDepth 100000
namespace Go.Proofs.YtohcmljigcdmbaaGreat
open Go.RowKit
/-- a text that is short, without controls, some signs, and blanks at its ends -/
def plainOk (most : Nat) (signs l : Bytes) : Bool := decide (l.length ≤ most) && (!control l && (decide (trim l = l) && signs.all fun c => decide (findB c l = none)))
theorem cutB_is (c : UInt8) (l : Bytes) : (cutB c l).2.2 = !decide (findB c l = none) := by
 unfold cutB; cases findB c l <;> simp
theorem within_any (n a b : Int) (w : World) : Calls Tryz.prog 112 #[.int .i64 n, .int .i64 a, .int .i64 b] w fun e w' => e = .returned (.bool (decide (a ≤ n) && decide (n ≤ b))) ∧ w = w' := by
 go_enter Tryz.func112, Tryz.ntmps112
 go_wp2
 all_goals
  go_ret
  exact ⟨ret_bool (by rw [Bool.eq_iff_iff]; simp <;> omega), rfl⟩
theorem plain_any (s : ByteArray) (most : Nat) (A : Nat) (signs : Bytes) (w : World) (hs : s.size ≤ 1073741824) (hm : most ≤ 1073741824) (hn : signs.length ≤ 1000) (hb : BytesAt w A 0 signs) :
 Calls Tryz.prog 113 #[.string s, .int .i64 most, .slice (some ⟨A, 0, none⟩) signs.length signs.length] w fun e w' => e = .returned (.bool (plainOk most signs (bl s))) ∧ Below w.heap.size w w' := by
 have hd : plainOk most signs (bl s) = (decide (s.size ≤ most) && (!control (bl s) && (decide (trim (bl s) = bl s) && signs.all fun c => decide (findB c (bl s) = none)))) := by unfold plainOk; rw [bl_length]
 have hctl := fun (W : World) => Control_any s W (by unfold maxLen; omega)
 have htrm := fun (W : World) => Trim_any s W (by unfold maxLen; omega)
 have hcut := fun (c : UInt8) (W : World) => Cut_any s c W hs
 have htq : ((mkS (trim (bl s))).toList == s.toList) = decide (trim (bl s) = bl s) := by rw [str_beq, bl_mkS]
 by_cases h1 : s.size ≤ most
 ·cases h2 : control (bl s) with
  | true =>
    have HE : Hid (plainOk most signs (bl s) = false) := by rw [Hid, hd, h2]; simp
    rw [h2] at hctl
    have HC := Lib.hid hctl
    clear hd hctl htrm hcut htq
    go_enter Tryz.func113, Tryz.ntmps113
    go_wp2_with (go_at_call 147; refine (HC.out _).mono ?_; rintro e w1 ⟨rfl, rfl⟩)
    go_ret
    exact ⟨ret_bool HE.out.symm, Below.refl _ _⟩
  | false =>
    rw [h2] at hctl hd
    have HC := Lib.hid hctl
    by_cases h3 : trim (bl s) = bl s
    ·rw [decide_eq_true h3] at htq
     have HL : Hid (plainOk most signs (bl s) = signs.all fun c => decide (findB c (bl s) = none)) := by rw [Hid, hd]; simp [h1, h3]
     have HT := Lib.hid htrm
     have HK := Lib.hid hcut
     clear hd hctl htrm hcut h3
     have hdm : decide (most < s.size) = false := by simp; omega
     go_enter Tryz.func113, Tryz.ntmps113
     go_wp2_with (first | (go_at_call 147; refine (HC.out _).mono ?_; rintro e w1 ⟨rfl, rfl⟩) | (go_at_call 148; refine (HT.out _).mono ?_; rintro e w1 ⟨rfl, rfl⟩))
     go_loopw [8, 9, 10, 11, 28] (fun _ _ _ _ i wr => ∃ k : Nat, k ≤ signs.length ∧ i = .int .i64 k ∧ plainOk most signs (bl s) = ((signs.drop k).all fun c => decide (findB c (bl s) = none)) ∧ Below w.heap.size w wr) (fun _ _ _ _ i _ => signs.length - (intOf i).toNat)
     case atStart => exact ⟨0, Nat.zero_le _, rfl, HL.out, Below.refl _ _⟩
     case round =>
        obtain ⟨k, hk, rfl, hpre, hbel⟩ := hrel
        have HP := Lib.hid hpre
        clear hpre
        by_cases hlt : k < signs.length
        ·have hcell := kept hbel (hb.cell hlt)
         rw [Nat.zero_add] at hcell
         have hD : signs.drop k = signs[k] :: signs.drop (k + 1) := List.drop_eq_getElem_cons hlt
         have hT : Hid (plainOk most signs (bl s) = (decide (findB signs[k] (bl s) = none) && ((signs.drop (k + 1)).all fun c => decide (findB c (bl s) = none)))) := by rw [Hid, HP.out, hD, List.all_cons]
         have his := cutB_is signs[k] (bl s)
         have hk0 := fun (W : World) => HK.out signs[k] W
         generalize signs[k] = c at *
         generalize cutB c (bl s) = x at his hk0
         obtain ⟨p, q, b⟩ := x
         simp only at his hk0
         rw [his] at hk0
         clear hD HP his
         by_cases hf : findB c (bl s) = none
         ·rw [hf] at hT hk0
          have HKK := Lib.hid hk0
          clear hk0 hf
          go_wp2_with (go_at_call 149; refine (HKK.out _).mono ?_; rintro e w1 ⟨rfl, hb1⟩)
          go_roundw
          case rel => exact ⟨k + 1, by omega, by go_num, by rw [hT.out]; simp, below2 hbel hb1⟩
          case measure => simp [intOf] <;> omega
         ·rw [decide_eq_false hf] at hT hk0
          have HKK := Lib.hid hk0
          clear hk0 hf
          go_wp2_with (go_at_call 149; refine (HKK.out _).mono ?_; rintro e w1 ⟨rfl, hb1⟩)
          go_ret
          exact ⟨ret_bool (by rw [hT.out]; rfl), below2 hbel hb1⟩
        ·have HE : Hid (plainOk most signs (bl s) = true) := by rw [Hid, HP.out, List.drop_eq_nil_of_le (by omega)]; rfl
         go_wp2
         go_ret
         exact ⟨ret_bool HE.out.symm, hbel⟩
    ·rw [decide_eq_false h3] at htq
     have HE : Hid (plainOk most signs (bl s) = false) := by rw [Hid, hd]; simp [h3]
     have HT := Lib.hid htrm
     clear hd hctl htrm hcut h3
     go_enter Tryz.func113, Tryz.ntmps113
     go_wp2_with (first | (go_at_call 147; refine (HC.out _).mono ?_; rintro e w1 ⟨rfl, rfl⟩) | (go_at_call 148; refine (HT.out _).mono ?_; rintro e w1 ⟨rfl, rfl⟩))
     go_ret
     exact ⟨ret_bool HE.out.symm, Below.refl _ _⟩
 ·have HE : Hid (plainOk most signs (bl s) = false) := by rw [Hid, hd]; simp [h1]
  clear hd hctl htrm hcut htq
  go_enter Tryz.func113, Tryz.ntmps113
  go_wp2
  go_ret
  exact ⟨ret_bool HE.out.symm, Below.refl _ _⟩
def timesOk (c : Ck) : Bool := (decide (-1099511627776 ≤ c.expiry) && decide (c.expiry ≤ 1099511627776)) && ((decide (0 ≤ c.creation) && decide (c.creation ≤ 1099511627776)) && ((decide (0 ≤ c.access) && decide (c.access ≤ 1099511627776)) && (c.persistent || decide (c.expiry = 1099511627776))))
def pathOk (l : Bytes) : Bool := decide (0 < l.length) && ((l.head?.any fun x => decide (x.toNat = 47)) && decide (l.length ≤ 256))
def itemOk (k : Key) (c : Ck) : Bool := decide (0 < k.name.size) && (plainOk 256 [59, 61] (bl k.name) && (plainOk 1024 [59] (bl c.value) && (canonical (bl k.domain) && (pathOk (bl k.path) && timesOk c))))
abbrev ckCells (c : Ck) : List Value := [.string c.value, .bool c.hostOnly, .bool c.secure, .bool c.httpOnly, .bool c.persistent, .int .i64 c.expiry, .int .i64 c.creation, .int .i64 c.access]
theorem size_pos (s : ByteArray) : decide (0 < s.size) = decide (¬ s.toList = []) := by
 by_cases h : 0 < s.size
 ·simp [h, str_ne h]
 ·simp only [h, str_nil h, not_true_eq_false]
theorem path_no0 {s : ByteArray} (h : s.toList = []) : pathOk (bl s) = false := by
 unfold pathOk; rw [bl_length, size_pos]; simp [h]
theorem path_47 {s : ByteArray} (h : 0 < s.size) (h2 : ¬ (s[0].toNat : Int) = 47) : pathOk (bl s) = false := by
 unfold pathOk; rw [head_bl s h]; simp only [Option.any_some]
 rw [decide_eq_false (show ¬ s[0].toNat = 47 by omega)]; simp
theorem path_256 {s : ByteArray} (h : 256 < (s.size : Int)) : pathOk (bl s) = false := by
 unfold pathOk; rw [bl_length, decide_eq_false (show ¬ s.size ≤ 256 by omega)]; simp
theorem path_yes {s : ByteArray} (h : 0 < s.size) (h2 : (s[0].toNat : Int) = 47) (h3 : (s.size : Int) ≤ 256) : pathOk (bl s) = true := by
 unfold pathOk; rw [head_bl s h, bl_length]; simp only [Option.any_some]
 rw [decide_eq_true h, decide_eq_true (show s[0].toNat = 47 by omega), decide_eq_true (show s.size ≤ 256 by omega)]; rfl
/-- in block b lie a key's cells, a cookie's -/
structure KeyAt (w : World) (b : Nat) (k : Key) : Prop where
 c0 : w.cell? ⟨b, 0, none⟩ = some (.string k.name)
 c1 : w.cell? ⟨b, 1, none⟩ = some (.string k.domain)
 c2 : w.cell? ⟨b, 2, none⟩ = some (.string k.path)
structure CkAt (w : World) (b : Nat) (c : Ck) : Prop where
 c0 : w.cell? ⟨b, 0, none⟩ = some (.string c.value)
 c1 : w.cell? ⟨b, 1, none⟩ = some (.bool c.hostOnly)
 c2 : w.cell? ⟨b, 2, none⟩ = some (.bool c.secure)
 c3 : w.cell? ⟨b, 3, none⟩ = some (.bool c.httpOnly)
 c4 : w.cell? ⟨b, 4, none⟩ = some (.bool c.persistent)
 c5 : w.cell? ⟨b, 5, none⟩ = some (.int .i64 c.expiry)
 c6 : w.cell? ⟨b, 6, none⟩ = some (.int .i64 c.creation)
 c7 : w.cell? ⟨b, 7, none⟩ = some (.int .i64 c.access)
theorem KeyAt.kept {w w' : World} {b : Nat} {k : Key} (h : KeyAt w b k) (hb : Below w.heap.size w w') : KeyAt w' b k := ⟨YtohcmljigcdmbaaGreat.kept hb h.c0, YtohcmljigcdmbaaGreat.kept hb h.c1, YtohcmljigcdmbaaGreat.kept hb h.c2⟩
theorem CkAt.kept {w w' : World} {b : Nat} {k : Ck} (h : CkAt w b k) (hb : Below w.heap.size w w') : CkAt w' b k :=
 ⟨YtohcmljigcdmbaaGreat.kept hb h.c0, YtohcmljigcdmbaaGreat.kept hb h.c1, YtohcmljigcdmbaaGreat.kept hb h.c2, YtohcmljigcdmbaaGreat.kept hb h.c3, YtohcmljigcdmbaaGreat.kept hb h.c4, YtohcmljigcdmbaaGreat.kept hb h.c5, YtohcmljigcdmbaaGreat.kept hb h.c6, YtohcmljigcdmbaaGreat.kept hb h.c7⟩
theorem bytes2 (w : World) (t : TypeId) : BytesAt (w.alloc (Obj.cells #[.int .u8 59, .int .u8 61] t)) w.heap.size 0 [59, 61] := by
 intro j hj
 match j, hj with
 | 0, _ => simp [World.cell?_alloc_new]
 | 1, _ => simp [World.cell?_alloc_new]
theorem bytes1 (w : World) (t : TypeId) : BytesAt (w.alloc (Obj.cells #[.int .u8 59] t)) w.heap.size 0 [59] := by
 intro j hj
 match j, hj with
 | 0, _ => simp [World.cell?_alloc_new]
theorem cookieRight_p (k : Key) (c : Ck) (p : Bool) (hp : Hid (c.persistent = p)) (w : World) (h1 : k.name.size ≤ 1073741824) (h2 : k.domain.size ≤ 1073741824) (h3 : k.path.size ≤ 1073741824) (h4 : c.value.size ≤ 1073741824) :
 Calls Tryz.prog 74 #[.agg #[.string k.name, .string k.domain, .string k.path, .string c.value, .bool c.hostOnly, .bool c.secure, .bool c.httpOnly, .bool p, .int .i64 c.expiry, .int .i64 c.creation, .int .i64 c.access]] w fun e w' => e = .returned (.bool (itemOk k c)) ∧ Below w.heap.size w w' := by
 cases p
 all_goals
  go_enter Tryz.func74, Tryz.ntmps74
  go_upto_region 1 with fail
  go_cut [3, 4] (fun v3 v4 wx => ∃ a b, v3 = .pointer (some ⟨a, 0, none⟩) ∧ v4 = .pointer (some ⟨b, 0, none⟩) ∧ KeyAt wx a k ∧ CkAt wx b c ∧ Below w.heap.size w wx)
  case first =>
   go_region
   all_goals
        go_wp2
        go_meet
        refine ⟨_, _, rfl, rfl, ⟨?_, ?_, ?_⟩, ⟨?_, ?_, ?_, ?_, ?_, ?_, ?_, ?_⟩, ?_⟩
        all_goals first | (go_simp; done) | (go_grown; done) | (rw [hp.out]; go_simp; done)
  case rest =>
   obtain ⟨a, b, rfl, rfl, hka, hcb, hbel⟩ := hcut
   have hcan := fun (W : World) => Canon_any k.domain W h2
   have hI : itemOk k c = (decide (¬ k.name.toList = []) && (plainOk 256 [59, 61] (bl k.name) && (plainOk 1024 [59] (bl c.value) && ((decide (canonE (bl k.domain) = 0) && decide (canonT (bl k.domain) = bl k.domain)) && (pathOk (bl k.path) && timesOk c))))) := by unfold itemOk; rw [canon_ref, size_pos]
   have hTq : ((mkS (canonT (bl k.domain))).toList == k.domain.toList) = decide (canonT (bl k.domain) = bl k.domain) := by rw [str_beq, bl_mkS]
   generalize canonE (bl k.domain) = ce at *
   generalize canonT (bl k.domain) = ct at *
   have HC := Lib.hid hcan
   have HI := Lib.hid hI
   clear hcan hI
   obtain ⟨ka0, ka1, ka2⟩ := hka
   obtain ⟨cb0, cb1, cb2, cb3, cb4, cb5, cb6, cb7⟩ := hcb
   rw [hp.out] at cb4
   have hP1 : ∀ (A : Nat) (W : World), BytesAt W A 0 [59, 61] → Calls Tryz.prog 113 #[.string k.name, .int .i64 256, .slice (some ⟨A, 0, none⟩) 2 2] W fun e w' => e = .returned (.bool (plainOk 256 [59, 61] (bl k.name))) ∧ Below W.heap.size W w' := fun A W hb => plain_any k.name 256 A [59, 61] W h1 (by omega) (by simp) hb
   have hP2 : ∀ (A : Nat) (W : World), BytesAt W A 0 [59] → Calls Tryz.prog 113 #[.string c.value, .int .i64 1024, .slice (some ⟨A, 0, none⟩) 1 1] W fun e w' => e = .returned (.bool (plainOk 1024 [59] (bl c.value))) ∧ Below W.heap.size W w' := fun A W hb => plain_any c.value 1024 A [59] W h4 (by omega) (by simp) hb
   have HP1 := Lib.hid hP1
   have HP2 := Lib.hid hP2
   clear hP1 hP2
   go_upto_region 3 with (go_at_call 111; refine (HC.out _).mono ?_; rintro e w1 ⟨rfl, hb1⟩; replace ka0 := kept hb1 ka0; replace ka1 := kept hb1 ka1; replace ka2 := kept hb1 ka2; replace cb0 := kept hb1 cb0; replace cb4 := kept hb1 cb4; replace cb5 := kept hb1 cb5; replace cb6 := kept hb1 cb6; replace cb7 := kept hb1 cb7)
   go_cut [7] (fun v7 wx => v7 = .bool (timesOk c) ∧ wx = w1)
   case first =>
        go_wp2_with (go_at_call 112; refine (within_any _ _ _ _).mono ?_; rintro e w2 ⟨rfl, rfl⟩)
        all_goals
         go_meet
         exact ⟨congrArg Value.bool (by unfold timesOk; rw [hp.out, Bool.eq_iff_iff]; simp [*] <;> omega), rfl⟩
   case rest =>
        obtain ⟨rfl, rfl⟩ := hcut
        have hb2 := below2 hbel hb1
        go_wp2_with (first
         | (go_at_call 113; (with_reducible refine (HP1.out _ _ (bytes2 _ _)).mono ?_); rintro e w2 ⟨rfl, hb3⟩; have hb4 := below2 ((Below.refl _ _).alloc (Nat.le_refl _) _) hb3; replace ka0 := kept hb4 ka0; replace ka1 := kept hb4 ka1; replace ka2 := kept hb4 ka2; replace cb0 := kept hb4 cb0; replace hb2 := below2 hb2 hb4; clear hb3 hb4)
         | (go_at_call 113; (with_reducible refine (HP2.out _ _ (bytes1 _ _)).mono ?_); rintro e w2 ⟨rfl, hb3⟩; have hb4 := below2 ((Below.refl _ _).alloc (Nat.le_refl _) _) hb3; replace ka0 := kept hb4 ka0; replace ka1 := kept hb4 ka1; replace ka2 := kept hb4 ka2; replace cb0 := kept hb4 cb0; replace hb2 := below2 hb2 hb4; clear hb3 hb4))
        all_goals first
         | (go_ret; exact ⟨ret_bool (by rw [HI.out]; first | (simp [*]; done) | (rw [path_no0 ‹_›]; simp; done) | (rw [path_47 ‹_› ‹_›]; simp; done) | (rw [path_256 ‹_›]; simp; done) | (rw [path_yes ‹_› ‹_› ‹_›]; simp [*]; done)), hb2⟩)
         | exact absurd (str_nil ‹¬ 0 < k.path.size›) ‹_›
structure Ev where
 dot : Dot
 stamp : Stamp
 kind : Int
 key : Key
 ck : Ck
 over : List Dot
 deriving DecidableEq
def key0 : Key := ⟨ByteArray.empty, ByteArray.empty, ByteArray.empty⟩
def ck0 : Ck := ⟨ByteArray.empty, false, false, false, false, 0, 0, 0⟩
def dot0 : Dot := ⟨⟨0, 0⟩, 0⟩
def stamp0 : Stamp := ⟨0, 0, 0⟩
def ev0 : Ev := ⟨dot0, stamp0, 0, key0, ck0, []⟩
def kindOk (e : Ev) : Bool := if e.kind = 2 then (decide (e.key = key0) && decide (e.ck = ck0)) && decide (0 < e.over.length) else if e.kind = 1 then itemOk e.key e.ck else false
def evOk (e : Ev) : Bool := dotOk e.dot && (stampOk e.stamp && (decide (e.stamp.dev = e.dot.a.dev) && (overOk e.dot e.over && kindOk e)))
/-- an event's texts and lists are short -/
structure EvSmall (e : Ev) : Prop where
 name : e.key.name.size ≤ 1073741824
 domain : e.key.domain.size ≤ 1073741824
 path : e.key.path.size ≤ 1073741824
 value : e.ck.value.size ≤ 1073741824
 over : e.over.length ≤ 1073741824
/-- an event's value -/
abbrev itemVal (k : Key) (c : Ck) : Value := .agg #[.string k.name, .string k.domain, .string k.path, .string c.value, .bool c.hostOnly, .bool c.secure, .bool c.httpOnly, .bool c.persistent, .int .i64 c.expiry, .int .i64 c.creation, .int .i64 c.access]
abbrev evVal (e : Ev) (a : Option Addr) (cap : Nat) : Value :=
 .agg #[.int .i64 e.dot.a.dev, .int .i64 e.dot.a.inc, .int .i64 e.dot.seq, .int .i64 e.stamp.wall, .int .i64 e.stamp.count, .int .i64 e.stamp.dev, .int .i64 e.kind, .string e.key.name, .string e.key.domain, .string e.key.path, .string e.ck.value, .bool e.ck.hostOnly, .bool e.ck.secure, .bool e.ck.httpOnly, .bool e.ck.persistent, .int .i64 e.ck.expiry, .int .i64 e.ck.creation, .int .i64 e.ck.access, .slice a e.over.length cap]
theorem Item_any (e : Ev) (a : Option Addr) (cap : Nat) (w : World) :
 Calls Tryz.prog 73 #[evVal e a cap] w fun x w' => x = .returned (itemVal e.key e.ck) ∧ Below w.heap.size w w' := by
 go_enter Tryz.func73, Tryz.ntmps73
 go_wp2
 go_returns
 exact ⟨rfl, by go_grown⟩
theorem laidTryz : laidOutB Tryz.prog = true := by kernel_rfl
theorem lawActor : Maps.Keyed Tryz.prog 23 := .of_law (deep_law_laid laidTryz (m := 3) (by omega) (of_decide_eq_true (by kernel_rfl)) (by kernel_rfl) (by kernel_rfl))
theorem lawDot : Maps.Keyed Tryz.prog 25 := .of_law (deep_law_laid laidTryz (m := 3) (by omega) (of_decide_eq_true (by kernel_rfl)) (by kernel_rfl) (by kernel_rfl))
abbrev actVal (a : Actor) : Value := .agg #[.int .i64 a.dev, .int .i64 a.inc]
abbrev dotVal (d : Dot) : Value := .agg #[.int .i64 d.a.dev, .int .i64 d.a.inc, .int .i64 d.seq]
abbrev keyVal (k : Key) : Value := .agg #[.string k.name, .string k.domain, .string k.path]
abbrev wf64 (n : Int) : Prop := (Lit.int .i64 n).wf = true
structure ActW (a : Actor) : Prop where
 dev : wf64 a.dev
 inc : wf64 a.inc
structure DotW (d : Dot) : Prop where
 a : ActW d.a
 seq : wf64 d.seq
structure KeyW (k : Key) : Prop where
 name : k.name.size ≤ maxLen
 domain : k.domain.size ≤ maxLen
 path : k.path.size ≤ maxLen
theorem cellsActor : Tryz.prog.cellsOf 23 = 2 := by kernel_rfl
theorem cellsDot : Tryz.prog.cellsOf 25 = 3 := by kernel_rfl
theorem cellsInt : Tryz.prog.cellsOf 3 = 1 := by kernel_rfl
theorem ktActor : Tryz.prog.keyType 23 = true := by kernel_rfl
theorem ktDot : Tryz.prog.keyType 25 = true := by kernel_rfl
theorem manyTypes : ∃ m, Tryz.prog.types.size = m + 3 := ⟨Tryz.prog.types.size - 3, by have : 3 ≤ Tryz.prog.types.size := of_decide_eq_true (by kernel_rfl); omega⟩
theorem lits_int (m : Nat) {n : Int} (h : wf64 n) : Tryz.prog.keyLits (m + 1) 3 [.int .i64 n] = some [.int .i64 n] := by
 unfold Program.keyLits
 simp only [Tryz.underlying3]
 rw [if_pos (by simpa using h)]
theorem lits_actor (m : Nat) {a : Actor} (h : ActW a) : Tryz.prog.keyLits (m + 2) 23 [.int .i64 a.dev, .int .i64 a.inc] = some [.int .i64 a.dev, .int .i64 a.inc] := by
 unfold Program.keyLits
 simp only [Tryz.underlying23, cellsActor]
 rw [if_pos ⟨rfl, by simp⟩]
 simp only [List.mapM_cons, List.mapM_nil, List.drop_zero, List.drop_succ_cons, cellsInt, List.take_succ_cons, List.take_zero, lits_int m h.dev, lits_int m h.inc]
 rfl
theorem lits_dot (m : Nat) {d : Dot} (h : DotW d) : Tryz.prog.keyLits (m + 3) 25 [.int .i64 d.a.dev, .int .i64 d.a.inc, .int .i64 d.seq] = some [.int .i64 d.a.dev, .int .i64 d.a.inc, .int .i64 d.seq] := by
 unfold Program.keyLits
 simp only [Tryz.underlying25, cellsDot]
 rw [if_pos ⟨rfl, by simp⟩]
 simp only [List.mapM_cons, List.mapM_nil, List.drop_zero, List.drop_succ_cons, cellsInt, cellsActor, List.take_succ_cons, List.take_zero, lits_int (m + 1) h.seq, lits_actor m h.a]
 rfl
theorem key_actor (a : Actor) (h : ActW a) : ∃ l, keyOf Tryz.prog 23 (actVal a) = some l := by
 obtain ⟨m, hm⟩ := manyTypes
 unfold keyOf
 rw [Tryz.underlying23, hm]
 have hf : Value.formed Tryz.prog 23 (actVal a) = true := by simp only [actVal, Value.formed, Tryz.underlying23, cellsActor]; rfl
 simp only [ktActor, hf, Bool.and_self, if_true, actVal, Value.cells, lits_actor (m + 2) h]
 exact ⟨_, rfl⟩
theorem key_dot (d : Dot) (h : DotW d) : ∃ l, keyOf Tryz.prog 25 (dotVal d) = some l := by
 obtain ⟨m, hm⟩ := manyTypes
 unfold keyOf
 rw [Tryz.underlying25, hm]
 have hf : Value.formed Tryz.prog 25 (dotVal d) = true := by simp only [dotVal, Value.formed, Tryz.underlying25, cellsDot]; rfl
 simp only [ktDot, hf, Bool.and_self, if_true, dotVal, Value.cells, lits_dot (m + 1) h]
 exact ⟨_, rfl⟩
theorem kActor : Kind Tryz.prog 23 actVal ActW := ⟨lawActor, fun x y h => by
 obtain ⟨a, b⟩ := x; obtain ⟨c, d⟩ := y
 simpa [actVal] using h, key_actor⟩
theorem kDot : Kind Tryz.prog 25 dotVal DotW := ⟨lawDot, fun x y h => by
 obtain ⟨⟨a, b⟩, c⟩ := x; obtain ⟨⟨a2, b2⟩, c2⟩ := y
 simpa [dotVal, and_assoc] using h, key_dot⟩
theorem wf64_of {n : Int} (h1 : -9223372036854775808 ≤ n) (h2 : n ≤ 9223372036854775807) : wf64 n := by
 have e1 : IntKind.i64.min = -9223372036854775808 := by decide
 have e2 : IntKind.i64.max = 9223372036854775807 := by decide
 simp only [wf64, Lit.wf, e1, e2, Bool.and_eq_true, decide_eq_true_eq]
 exact ⟨h1, h2⟩
theorem actorOk_W {a : Actor} (h : actorOk a = true) : ActW a := by
 simp only [actorOk, Bool.and_eq_true, decide_eq_true_eq] at h
 exact ⟨wf64_of (by omega) (by omega), wf64_of (by omega) (by omega)⟩
theorem dotOk_W {d : Dot} (h : dotOk d = true) : DotW d := by
 simp only [dotOk, Bool.and_eq_true, decide_eq_true_eq] at h
 exact ⟨actorOk_W h.1, wf64_of (by omega) (by omega)⟩
end Go.Proofs.YtohcmljigcdmbaaGreat
