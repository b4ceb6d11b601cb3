/- The disk in memory: its map of files; find, Safe, Down, Read. Conditions: as in the text. -/
import Derived.Test.YtbkelbdeodbhcaaDiskB
import Derived.Test.YtbkelbdeodbhcaaPack
import Derived.Maps.OwnSet
set_option linter.unusedSimpArgs false
set_option linter.unusedVariables false
set_option linter.unnecessarySimpa false
namespace Go.Proofs.Ytbkelbdeodbhcaa
open Go.RowKit
open Go.Maps (Keyed)

/-- how a pointer to a file reads in the disk's map: its block -/
def fileR : Value → Option (DataW Unit × List MemPlace)
  | .pointer none => some (.nil, [])
  | .pointer (some ⟨b, 0, none⟩) => some (.lit (.int .i64 b), [])
  | _ => none
theorem fileR_lit {v : Value} {b : Nat} {ps : List MemPlace} (h : fileR v = some (.lit (.int .i64 b), ps)) : v = .pointer (some ⟨b, 0, none⟩) := by
  unfold fileR at h
  split at h
  · simp at h
  · simp only [Option.some.injEq, Prod.mk.injEq, DataW.lit.injEq, Lit.int.injEq, true_and] at h
    rw [Int.natCast_inj.1 h.1]
  · cases h
theorem fileR_nil {v : Value} {ps : List MemPlace} (h : fileR v = some (.nil, ps)) : v = .pointer none := by
  unfold fileR at h
  split at h
  · rfl
  · simp at h
  · cases h
theorem nlaw : Keyed Try.prog 9 := Maps.string_keyed Try.underlying9
theorem zeroFile (w : World) : (zeroValue 69).run Try.prog w = .ok (.pointer none) w := by kernel_rfl
/-- a name as a key -/
def nk (s : ByteArray) : Lit := .string s.data.toList
theorem nk_inj {s t : ByteArray} (h : nk s = nk t) : s = t := bl_inj (by simpa [nk] using h)
theorem nk_key {s : ByteArray} (hs : s.size ≤ maxLen) : keyOf Try.prog 9 (.string s) = some (nk s) := Go.WideMaps.keyOf_string_mk Try.underlying9 hs

/-- a file's block: its bytes lie elsewhere -/
def FileAt (w : World) (fb : Nat) (f : DF) : Prop := ∃ a cap, w.heap[fb]? = some (.cells #[.slice a f.b.length cap, .int .i64 f.safe] 76 (0, 0)) ∧ BytesIn w a f.b ∧ f.b.length ≤ cap
/-- the files of a disk, by names -/
def getF (l : List DF) (name : ByteArray) : Option DF := l.find? fun f => decide (f.name = name)
/-- the map's datum, beside the files -/
structure FilesAt (w : World) (F : Nat → Prop) (D : DataW Unit) (l : List DF) : Prop where
  none : ∀ s, getF l s = none → D.atKey (nk s) .nil = .nil
  some : ∀ s f, getF l s = some f → ∃ fb, F fb ∧ D.atKey (nk s) .nil = .lit (.int .i64 fb) ∧ FileAt w fb f
  apart : ∀ s t fb, D.atKey (nk s) .nil = .lit (.int .i64 fb) → D.atKey (nk t) .nil = .lit (.int .i64 fb) → s = t
  has : ∀ s, Maps.has D (nk s) = (getF l s).isSome
  size : Maps.size D = l.length
/-- a disk in memory: d its block, b its map's, which reads as D; all its own blocks lie in F -/
structure DkIn (w : World) (F : Nat → Prop) (d : Nat) (S : DS) (b : Nat) (D : DataW Unit) : Prop where
  fd : F d
  cells : DkCells w d b S.arm S.down
  fb : F b
  own : w.ownsMap Try.prog 9 fileR b S.f.length D
  files : FilesAt w F D S.f
def DkAt (w : World) (F : Nat → Prop) (d : Nat) (S : DS) : Prop := ∃ b D, DkIn w F d S b D

set_option maxHeartbeats 400000 in
theorem find_nil (s : ByteArray) (w : World) : Calls Try.prog 33 #[.pointer none, .string s] w fun e w' => e = .returned (.tuple #[.pointer none, .int .i64 17]) ∧ w = w' := by
  go_enter Try.func33, Try.ntmps33
  go_wp2
  all_goals
    go_ret2
    exact ⟨rfl, rfl⟩

variable {F : Nat → Prop} {d : Nat} {S : DS} {b : Nat} {D : DataW Unit} {s : ByteArray} {w : World}

set_option maxHeartbeats 400000 in
theorem find_form (hs : s.size ≤ maxLen) (hd : d = d) (hok : nameOk s = false) :
    Calls Try.prog 33 #[.pointer (some ⟨d, 0, none⟩), .string s] w fun e w' => e = .returned (.tuple #[.pointer none, .int .i64 1]) ∧ w = w' := by
  have HR := Lib.hid (right_any s w hs)
  rw [hok] at HR
  clear hok
  go_enter Try.func33, Try.ntmps33
  go_wp2_with (go_at_call 39; (with_reducible refine HR.out.mono ?_); rintro e w1 ⟨rfl, rfl⟩)
  all_goals
    go_ret2
    exact ⟨rfl, rfl⟩

set_option maxHeartbeats 400000 in
theorem find_none (hs : s.size ≤ maxLen) (h : DkIn w F d S b D) (hok : nameOk s = true) (hg : getF S.f s = none) :
    Calls Try.prog 33 #[.pointer (some ⟨d, 0, none⟩), .string s] w fun e w' => e = .returned (.tuple #[.pointer none, .int .i64 10]) ∧ w = w' := by
  obtain ⟨hFd, hc, hFb, hown, hfs⟩ := h
  obtain ⟨p0, p1, p2, f0, f1, f2⟩ := three_cell hc
  have HR := Lib.hid (right_any s w hs)
  rw [hok] at HR
  obtain ⟨v, ps, hrun, hv⟩ := hown.lookup nlaw Try.underlying60 (zeroFile _) (zd := .nil) (zp := []) rfl (nk_key hs)
  rw [hfs.none s hg] at hv
  obtain rfl := fileR_nil hv
  clear hg hown hfs hv hok hc
  go_enter Try.func33, Try.ntmps33
  go_wp2_with (go_at_call 39; (with_reducible refine HR.out.mono ?_); rintro e w1 ⟨rfl, rfl⟩)
  all_goals
    go_ret2
    exact ⟨rfl, rfl⟩

set_option maxHeartbeats 400000 in
theorem find_some {fb : Nat} (hs : s.size ≤ maxLen) (h : DkIn w F d S b D) (hok : nameOk s = true) (hfb : D.atKey (nk s) .nil = .lit (.int .i64 fb)) :
    Calls Try.prog 33 #[.pointer (some ⟨d, 0, none⟩), .string s] w fun e w' => e = .returned (.tuple #[.pointer (some ⟨fb, 0, none⟩), .int .i64 0]) ∧ w = w' := by
  obtain ⟨hFd, hc, hFb, hown, hfs⟩ := h
  obtain ⟨p0, p1, p2, f0, f1, f2⟩ := three_cell hc
  have HR := Lib.hid (right_any s w hs)
  rw [hok] at HR
  obtain ⟨v, ps, hrun, hv⟩ := hown.lookup nlaw Try.underlying60 (zeroFile _) (zd := .nil) (zp := []) rfl (nk_key hs)
  rw [hfb] at hv
  obtain rfl := fileR_lit hv
  clear hfb hown hfs hv hok hc
  go_enter Try.func33, Try.ntmps33
  go_wp2_with (go_at_call 39; (with_reducible refine HR.out.mono ?_); rintro e w1 ⟨rfl, rfl⟩)
  all_goals
    go_ret2
    exact ⟨rfl, rfl⟩

/-! ### Safe -/
set_option maxHeartbeats 400000 in
theorem Safe_nil (s : ByteArray) (w : World) : Calls Try.prog 13 #[.pointer none, .string s] w fun e w' => e = .returned (.int .i64 0) ∧ w = w' := by
  have HN := Lib.hid (find_nil s w)
  go_enter Try.func13, Try.ntmps13
  go_wp2_with (go_at_call 33; (with_reducible refine HN.out.mono ?_); rintro e w1 ⟨rfl, rfl⟩)
  all_goals
    go_ret
    exact ⟨rfl, rfl⟩
/-- how many bytes of a file are safe -/
def safeOf (S : DS) (s : ByteArray) : Nat := if nameOk s then (match getF S.f s with | none => 0 | some f => f.safe) else 0
set_option maxHeartbeats 400000 in
theorem Safe_any (hs : s.size ≤ maxLen) (h : DkIn w F d S b D) :
    Calls Try.prog 13 #[.pointer (some ⟨d, 0, none⟩), .string s] w fun e w' => e = .returned (.int .i64 (safeOf S s)) ∧ w = w' := by
  by_cases hok : nameOk s = true
  case neg =>
    have HN := Lib.hid (find_form (d := d) (w := w) hs rfl (Bool.eq_false_iff.2 hok))
    have hr : safeOf S s = 0 := by unfold safeOf; rw [if_neg hok]
    rw [hr]
    clear h hok hr
    go_enter Try.func13, Try.ntmps13
    go_wp2_with (go_at_call 33; (with_reducible refine HN.out.mono ?_); rintro e w1 ⟨rfl, rfl⟩)
    all_goals
      go_ret
      exact ⟨rfl, rfl⟩
  case pos =>
  cases hg : getF S.f s with
  | none =>
    have HN := Lib.hid (find_none hs h hok hg)
    have hr : safeOf S s = 0 := by unfold safeOf; rw [if_pos hok, hg]
    rw [hr]
    clear h hok hr hg
    go_enter Try.func13, Try.ntmps13
    go_wp2_with (go_at_call 33; (with_reducible refine HN.out.mono ?_); rintro e w1 ⟨rfl, rfl⟩)
    all_goals
      go_ret
      exact ⟨rfl, rfl⟩
  | some f =>
    obtain ⟨fb, h1, h2, a, cap, h3, h4, h5⟩ := h.files.some s f hg
    have HN := Lib.hid (find_some hs h hok h2)
    have hr : safeOf S s = f.safe := by unfold safeOf; rw [if_pos hok, hg]
    rw [hr]
    obtain ⟨p0, p1, f0, f1⟩ := two_cell h3
    clear h hok hr hg h2 h3 h4
    go_enter Try.func13, Try.ntmps13
    go_wp2_with (go_at_call 33; (with_reducible refine HN.out.mono ?_); rintro e w1 ⟨rfl, rfl⟩)
    all_goals
      go_ret
      exact ⟨rfl, rfl⟩
end Go.Proofs.Ytbkelbdeodbhcaa
