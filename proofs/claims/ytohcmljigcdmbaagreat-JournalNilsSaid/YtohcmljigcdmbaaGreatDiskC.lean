/- The disk, plainly; the small functions of package disk and of its reference: may a name be; a change; Arm; Down. Conditions: texts shorter than the greatest length. -/
import Derived.Test.YtohcmljigcdmbaaGreatChecked
import Derived.Test.YtohcmljigcdmbaaGreatKit
import Derived.Test.YtohcmljigcdmbaaGreatCel
import Derived.Maps.OwnSet
set_option linter.unusedSimpArgs false
set_option linter.unusedVariables false
set_option linter.unnecessarySimpa false
set_option maxHeartbeats 16000000
set_option maxRecDepth 100000
namespace Go.Proofs.YtohcmljigcdmbaaGreat
open Go.RowKit
/-! ### plainly -/
def isLow (c : UInt8) : Bool := decide (97 ≤ c.toNat) && decide (c.toNat ≤ 122)
def nameOk (s : ByteArray) : Bool := decide (1 ≤ s.size) && (decide (s.size ≤ 16) && (bl s).all isLow)
/-- a file: its name, its bytes, how many are safe -/
structure DF where
 name : ByteArray
 b : Bytes
 safe : Nat
/-- a disk: its files by names, at which change it goes down, whether it is -/
structure DS where
 f : List DF
 arm : Nat
 down : Bool
def DS.change (d : DS) : DS := { d with arm := d.arm - 1, down := d.down || decide (d.arm = 1) }
theorem all_cons_low (c : UInt8) (l : Bytes) : (c :: l).all isLow = (isLow c && l.all isLow) := rfl
theorem right_any (s : ByteArray) (w : World) (hs : s.size ≤ maxLen) :
 Calls Tryz.prog 102 #[.string s] w fun e w' => e = .returned (.bool (nameOk s)) ∧ w = w' := by
 unfold maxLen at hs
 by_cases h0 : 0 < s.size
 case neg =>
  have hr : nameOk s = false := by unfold nameOk; rw [decide_eq_false (by omega)]; rfl
  have h1 := str_nil h0
  have h1' := str_nil' h0
  go_enter Tryz.func102, Tryz.ntmps102
  go_wp2
  all_goals
   go_ret
   exact ⟨ret_bool hr.symm, rfl⟩
 case pos =>
 have n1 := str_ne h0
 have n2 := str_ne' h0
 by_cases h16 : s.size ≤ 16
 case neg =>
  have hr : nameOk s = false := by unfold nameOk; rw [decide_eq_false h16]; simp
  go_enter Tryz.func102, Tryz.ntmps102
  go_wp2
  all_goals
   go_ret
   exact ⟨ret_bool hr.symm, rfl⟩
 case pos =>
 have hr : nameOk s = (bl s).all isLow := by unfold nameOk; rw [decide_eq_true h16, decide_eq_true (show 1 ≤ s.size by omega)]; rfl
 have HR := Lib.hid hr
 clear hr
 go_enter Tryz.func102, Tryz.ntmps102
 go_wp2
 go_loop [13] (fun i => ∃ k : Nat, k ≤ s.size ∧ i = .int .i64 k ∧ nameOk s = ((bl s).drop k).all isLow) (fun i => s.size - (intOf i).toNat)
 case atStart => exact ⟨0, Nat.zero_le _, rfl, by rw [HR.out]; rfl⟩
 case round =>
  obtain ⟨k, hk, rfl, hpre⟩ := hrel
  have HP := Lib.hid hpre
  clear hpre
  by_cases hlt : k < s.size
  ·have HD := Lib.hid (drop_cons s k hlt)
   by_cases hc : isLow s[k] = true
   ·have HC := Lib.hid hc
    unfold isLow at hc
    simp only [Bool.and_eq_true, decide_eq_true_eq] at hc
    obtain ⟨c1, c2⟩ := hc
    go_wp2
    go_round
    case rel => exact ⟨k + 1, by omega, by go_num, by rw [HP.out, HD.out, all_cons_low, HC.out]; rfl⟩
    case measure => simp [intOf]; omega
   ·have HC := Lib.hid (Bool.eq_false_iff.2 hc)
    unfold isLow at hc
    simp only [Bool.and_eq_true, decide_eq_true_eq, not_and] at hc
    have hc' : s[k].toNat < 97 ∨ 122 < s[k].toNat := by omega
    clear hc
    rcases hc' with c1 | c1
    all_goals
     go_wp2
     all_goals
      go_ret
      exact ⟨ret_bool (by rw [HP.out, HD.out, all_cons_low, HC.out]; rfl), rfl⟩
  ·have HD := Lib.hid (drop_all s k hlt)
   go_wp2
   go_ret
   exact ⟨ret_bool (by rw [HP.out, HD.out]; rfl), rfl⟩
/-- block d holds a disk's cells: its map lies in block b -/
def DkCells (w : World) (d b arm : Nat) (down : Bool) : Prop := w.heap[d]? = some (.cells #[.map (some b), .int .i64 arm, .bool down] 73 (0, 0))
theorem three_cell {w : World} {R : Nat} {x y z : Value} {t : TypeId} (h : w.heap[R]? = some (.cells #[x, y, z] t (0, 0))) :
 w.cell? ⟨R, 0, none⟩ = some x ∧ w.cell? ⟨R, 1, none⟩ = some y ∧ w.cell? ⟨R, 2, none⟩ = some z ∧ w.frozen? ⟨R, 0, none⟩ = false ∧ w.frozen? ⟨R, 1, none⟩ = false ∧ w.frozen? ⟨R, 2, none⟩ = false := by
 simp [World.cell?, World.frozen?, h]
theorem three_set1 {w : World} {R : Nat} {x y z : Value} {t : TypeId} {f : Nat × Nat} (h : w.heap[R]? = some (.cells #[x, y, z] t f)) (v : Value) : (w.setCell ⟨R, 1, none⟩ v).heap[R]? = some (.cells #[x, v, z] t f) := by
 simp [World.setCell, Array.getElem?_modify, h]
theorem three_set2 {w : World} {R : Nat} {x y z : Value} {t : TypeId} {f : Nat × Nat} (h : w.heap[R]? = some (.cells #[x, y, z] t f)) (v : Value) : (w.setCell ⟨R, 2, none⟩ v).heap[R]? = some (.cells #[x, y, v] t f) := by
 simp [World.setCell, Array.getElem?_modify, h]
def armOk (n : Int) : Bool := decide (1 ≤ n) && decide (n ≤ 1048576)
/-- a change that may be: 0; 12: it is down -/
def chg (arm : Nat) (down : Bool) : Bool := down || decide (arm = 1)
theorem change_any (d b arm : Nat) (down : Bool) (w : World) (h : DkCells w d b arm down) (ha : arm ≤ 1048576) :
 Calls Tryz.prog 81 #[.pointer (some ⟨d, 0, none⟩)] w fun e w' =>
  e = .returned (.int .i64 (if chg arm down then 12 else 0)) ∧ DkCells w' d b (arm - 1) (chg arm down) ∧ Fr (isR d) w w' := by
 have H := Lib.hid h
 obtain ⟨p0, p1, p2, f0, f1, f2⟩ := three_cell h
 clear h
 by_cases h0 : arm = 0
 case pos =>
  subst h0
  have hr : chg 0 down = down := by cases down <;> rfl
  simp only [hr]
  clear hr
  cases down
  all_goals
   go_enter Tryz.func81, Tryz.ntmps81
   go_wp2
   all_goals
        go_ret
        exact ⟨rfl, H.out, Fr.refl _ _⟩
 case neg =>
 obtain ⟨m, rfl⟩ : ∃ m, arm = m + 1 := ⟨arm - 1, by omega⟩
 by_cases hm : m = 0
 case pos =>
  subst hm
  have hr : chg 1 down = true := by cases down <;> rfl
  simp only [hr, if_true]
  clear hr
  cases down
  all_goals
   go_enter Tryz.func81, Tryz.ntmps81
   go_wp2
   all_goals
        go_ret
        exact ⟨rfl, three_set2 (three_set1 H.out _) _, (fr_set _).again (fr_set _)⟩
 case neg =>
 have hr : chg (m + 1) down = down := by cases down <;> simp [chg, hm]
 simp only [hr]
 clear hr
 have q : ((m : Int) + 1 - 1 == 0) = false := beq_eq_false_iff_ne.2 (by omega)
 have q' : ((m : Int) == 0) = false := beq_eq_false_iff_ne.2 (by omega)
 cases down
 all_goals
  go_enter Tryz.func81, Tryz.ntmps81
  go_wp2
  all_goals
   go_ret
   exact ⟨rfl, by unfold DkCells; simpa using three_set2 (three_set1 H.out (.int .i64 m)) _, (fr_set _).again (fr_set _)⟩
open Go.Maps (Keyed)
/-- how a pointer to a file reads in the disk's map: its block -/
def fileR : Value → Option (DataW Unit × List MemPlace)
 | .pointer none => some (.nil, [])
 | .pointer (some ⟨b, 0, none⟩) => some (.lit (.int .i64 b), [])
 | _ => none
theorem fileR_lit {v : Value} {b : Nat} {ps : List MemPlace} (h : fileR v = some (.lit (.int .i64 b), ps)) : v = .pointer (some ⟨b, 0, none⟩) := by
 unfold fileR at h
 split at h
 ·simp at h
 ·simp only [Option.some.injEq, Prod.mk.injEq, DataW.lit.injEq, Lit.int.injEq, true_and] at h
  rw [Int.natCast_inj.1 h.1]
 ·cases h
theorem fileR_nil {v : Value} {ps : List MemPlace} (h : fileR v = some (.nil, ps)) : v = .pointer none := by
 unfold fileR at h
 split at h
 ·rfl
 ·simp at h
 ·cases h
theorem nlaw : Keyed Tryz.prog 9 := Maps.string_keyed Tryz.underlying9
theorem zeroFile (w : World) : (zeroValue 132).run Tryz.prog w = .ok (.pointer none) w := by kernel_rfl
/-- a name as a key -/
def nk (s : ByteArray) : Lit := .string s.data.toList
theorem nk_inj {s t : ByteArray} (h : nk s = nk t) : s = t := bl_inj (by simpa [nk] using h)
theorem nk_key {s : ByteArray} (hs : s.size ≤ maxLen) : keyOf Tryz.prog 9 (.string s) = some (nk s) := Go.WideMaps.keyOf_string_mk Tryz.underlying9 hs
/-- a file's block: its bytes lie elsewhere -/
def FileAt (w : World) (fb : Nat) (f : DF) : Prop := ∃ a cap, w.heap[fb]? = some (.cells #[.slice a f.b.length cap, .int .i64 f.safe] 138 (0, 0)) ∧ BytesIn w a f.b ∧ f.b.length ≤ cap
/-- the files of a disk, by names -/
def getF (l : List DF) (name : ByteArray) : Option DF := l.find? fun f => decide (f.name = name)
/-- the map's datum, beside the files -/
structure FilesAt (w : World) (F : Nat → Prop) (D : DataW Unit) (l : List DF) : Prop where
 none : ∀ s, getF l s = none → D.atKey (nk s) .nil = .nil
 some : ∀ s f, getF l s = some f → ∃ fb, F fb ∧ D.atKey (nk s) .nil = .lit (.int .i64 fb) ∧ FileAt w fb f
 apart : ∀ s t fb, D.atKey (nk s) .nil = .lit (.int .i64 fb) → D.atKey (nk t) .nil = .lit (.int .i64 fb) → s = t
 has : ∀ s, Maps.has D (nk s) = (getF l s).isSome
 size : Maps.size D = l.length
/-- a disk in memory: d its block, b its map's, which reads as D; all its own blocks lie in F -/
structure DkIn (w : World) (F : Nat → Prop) (d : Nat) (S : DS) (b : Nat) (D : DataW Unit) : Prop where
 fd : F d
 cells : DkCells w d b S.arm S.down
 fb : F b
 own : w.ownsMap Tryz.prog 9 fileR b S.f.length D
 files : FilesAt w F D S.f
variable {F : Nat → Prop} {d : Nat} {S : DS} {b : Nat} {D : DataW Unit} {s : ByteArray} {w : World}
theorem find_form (hs : s.size ≤ maxLen) (hd : d = d) (hok : nameOk s = false) :
 Calls Tryz.prog 80 #[.pointer (some ⟨d, 0, none⟩), .string s] w fun e w' => e = .returned (.tuple #[.pointer none, .int .i64 1]) ∧ w = w' := by
 have HR := Lib.hid (right_any s w hs)
 rw [hok] at HR
 clear hok
 go_enter Tryz.func80, Tryz.ntmps80
 go_wp2_with (go_at_call 102; (with_reducible refine HR.out.mono ?_); rintro e w1 ⟨rfl, rfl⟩)
 all_goals
  go_ret2
  exact ⟨rfl, rfl⟩
theorem find_none (hs : s.size ≤ maxLen) (h : DkIn w F d S b D) (hok : nameOk s = true) (hg : getF S.f s = none) :
 Calls Tryz.prog 80 #[.pointer (some ⟨d, 0, none⟩), .string s] w fun e w' => e = .returned (.tuple #[.pointer none, .int .i64 10]) ∧ w = w' := by
 obtain ⟨hFd, hc, hFb, hown, hfs⟩ := h
 obtain ⟨p0, p1, p2, f0, f1, f2⟩ := three_cell hc
 have HR := Lib.hid (right_any s w hs)
 rw [hok] at HR
 obtain ⟨v, ps, hrun, hv⟩ := hown.lookup nlaw Tryz.underlying71 (zeroFile _) (zd := .nil) (zp := []) rfl (nk_key hs)
 rw [hfs.none s hg] at hv
 obtain rfl := fileR_nil hv
 clear hg hown hfs hv hok hc
 go_enter Tryz.func80, Tryz.ntmps80
 go_wp2_with (go_at_call 102; (with_reducible refine HR.out.mono ?_); rintro e w1 ⟨rfl, rfl⟩)
 all_goals
  go_ret2
  exact ⟨rfl, rfl⟩
theorem find_some {fb : Nat} (hs : s.size ≤ maxLen) (h : DkIn w F d S b D) (hok : nameOk s = true) (hfb : D.atKey (nk s) .nil = .lit (.int .i64 fb)) :
 Calls Tryz.prog 80 #[.pointer (some ⟨d, 0, none⟩), .string s] w fun e w' => e = .returned (.tuple #[.pointer (some ⟨fb, 0, none⟩), .int .i64 0]) ∧ w = w' := by
 obtain ⟨hFd, hc, hFb, hown, hfs⟩ := h
 obtain ⟨p0, p1, p2, f0, f1, f2⟩ := three_cell hc
 have HR := Lib.hid (right_any s w hs)
 rw [hok] at HR
 obtain ⟨v, ps, hrun, hv⟩ := hown.lookup nlaw Tryz.underlying71 (zeroFile _) (zd := .nil) (zp := []) rfl (nk_key hs)
 rw [hfb] at hv
 obtain rfl := fileR_lit hv
 clear hfb hown hfs hv hok hc
 go_enter Tryz.func80, Tryz.ntmps80
 go_wp2_with (go_at_call 102; (with_reducible refine HR.out.mono ?_); rintro e w1 ⟨rfl, rfl⟩)
 all_goals
  go_ret2
  exact ⟨rfl, rfl⟩
/-! ### Safe -/
end Go.Proofs.YtohcmljigcdmbaaGreat
