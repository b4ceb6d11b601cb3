/- Bytes that grow: slices.Clone, varint.Put. Conditions: at most 2^30 bytes. -/
import Derived.Test.YtlefejokpdjpgaaGreatChecked
import Derived.Test.YtlefejokpdjpgaaGreatKit
import Derived.Maps.AppendAt
import Derived.Lib.SliceRun
import Derived.Deep.MidRow
import Derived.Test.YtlefejokpdjpgaaGreatDiskB
import Derived.Maps.OwnSet
set_option linter.unusedSimpArgs false
set_option linter.unusedVariables false
set_option linter.unnecessarySimpa false
set_option maxHeartbeats 16000000
set_option maxRecDepth 100000
namespace Go.Proofs.YtlefejokpdjpgaaGreat
open Go.RowKit
def byteVals (l : Bytes) : List Value := l.map fun x => .int .u8 x.toNat
/-- a slice of bytes reads as l -/
def BytesIn (w : World) (a : Option Addr) (l : Bytes) : Prop := l = [] ∨ ∃ A off, a = some ⟨A, off, none⟩ ∧ BytesAt w A off l
theorem BytesIn.kept {w w' : World} {a : Option Addr} {l : Bytes} (h : BytesIn w a l) (hb : Below w.heap.size w w') : BytesIn w' a l := by
 rcases h with h | ⟨A, off, h1, h2⟩
 ·exact Or.inl h
 ·exact Or.inr ⟨A, off, h1, h2.below hb⟩
theorem byteVals_length (l : Bytes) : (byteVals l).length = l.length := by simp [byteVals]
theorem byteVals_append (l m : Bytes) : byteVals (l ++ m) = byteVals l ++ byteVals m := by simp [byteVals]
theorem byteVals_one (l : Bytes) : ∀ u ∈ byteVals l, u.oneCell' = true := by
 intro u hu
 simp only [byteVals, List.mem_map] at hu
 obtain ⟨x, _, rfl⟩ := hu
 rfl
theorem BytesAt.news {w : World} {A off : Nat} {l : Bytes} (h : BytesAt w A off l) : ∀ j u, (byteVals l)[j]? = some u → w.cell? ((⟨A, off, none⟩ : Addr).add j) = some u := by
 intro j u hj
 obtain ⟨hj', rfl⟩ := List.getElem?_eq_some_iff.1 hj
 rw [byteVals_length] at hj'
 rw [Addr.add_mid]
 rw [h j hj']
 simp [byteVals]
/-- what hands back bytes in memory of its own -/
def RetBytes (l : Bytes) (w : World) (e : Ending) (w' : World) : Prop :=
 ∃ v, e = .returned v ∧ w'.ownsRow w.heap.size 5 1 v l.length (byteVals l) ∧ Below w.heap.size w w'
theorem Tryz.infoByte : (Tryz.prog.info? 5).map (fun i => (i.zero, i.size, i.bytes)) = some (some (.int .u8 0), 1, 1) := by kernel_rfl
theorem CloneBytes_any (a : Option Addr) (cap : Nat) (l : Bytes) (w : World) (hl : l.length ≤ 1073741824) (h : BytesIn w a l) :
 Calls Tryz.prog 84 #[.slice a l.length cap] w (RetBytes l w) := by
 obtain ⟨i0, hi, hz0, hz1, hz2⟩ := info_parts Tryz.infoByte
 have hnil := fun (W : World) => Lib.run_eql_slice_nil (P := Tryz.prog) W 65 5 a l.length cap 0 0 Tryz.underlying65
 cases a with
 | none =>
   have hl0 : l = [] := by rcases h with h | ⟨A, off, h1, _⟩; exact h; cases h1
   subst hl0
   simp only [List.length_nil] at hnil ⊢
   go_enter Tryz.func84, Tryz.ntmps84
   go_wp2
   go_ret
   exact ⟨_, rfl, World.ownsRow_nil _ _ _ _, Below.refl _ _⟩
 | some ad =>
   have hnews : ∀ j u, (byteVals l)[j]? = some u → w.cell? (ad.add j) = some u := by
    rcases h with rfl | ⟨A, off, h1, h2⟩
    ·intro j u hj; simp [byteVals] at hj
    ·obtain rfl : ad = ⟨A, off, none⟩ := by simpa using h1
     exact h2.news
   have HN : Hid (∀ j u, (byteVals l)[j]? = some u → (w.alloc (Obj.cells #[] 5)).cell? (ad.add j) = some u) := fun j u hj => kept ((Below.refl _ _).alloc (Nat.le_refl _) _) (hnews j u hj)
   have hown : (w.alloc (Obj.cells #[] 5)).ownsRow w.heap.size 5 1 (.slice (some ⟨w.heap.size, 0, none⟩) 0 0) 0 [] := World.ownsRow_made _ _ _ (Nat.le_refl _) (by decide) rfl
   have hbv := byteVals_length l
   clear hnews h
   go_enter Tryz.func84, Tryz.ntmps84
   go_wp2_with (at_builtin; go_loud (refine wpList_append_own _ rfl _ _ 65 rfl w.heap.size 5 i0 (.int .u8 0) 1 1 Tryz.underlying65 hi hz0 hz1 hz2 rfl (by decide) _ _ _ rfl hown ad l.length cap (byteVals l) rfl (by rw [hbv]; simp) HN.out (byteVals_one l) (by unfold maxLen; omega) (by omega) (by simp) ?_))
   intro v' w2 hown2 hgrow _
   have hb2 := ((Below.refl w.heap.size w).alloc (Nat.le_refl _) (Obj.cells #[] 5)).grown hgrow (by simp) (fun k hk => (hown.lt k hk).1)
   go_wp2
   go_ret
   exact ⟨_, rfl, by simpa using hown2, hb2⟩
/-- a number's short bytes -/
def shortB (n : Nat) : Bytes := if n < 128 then [UInt8.ofNat n] else UInt8.ofNat (n % 128 + 128) :: shortB (n / 128)
theorem shortB_small (n : Nat) (h : n < 128) : shortB n = [UInt8.ofNat n] := by rw [shortB, if_pos h]
theorem shortB_big (n : Nat) (h : ¬ n < 128) : shortB n = UInt8.ofNat (n % 128 + 128) :: shortB (n / 128) := by rw [shortB, if_neg h]
theorem shortB_len : ∀ (k n : Nat), n < 128 ^ (k + 1) → (shortB n).length ≤ k + 1
 | 0, n, h => by rw [shortB_small n (by simpa using h)]; simp
 | k + 1, n, h => by
   by_cases h1 : n < 128
   ·rw [shortB_small n h1]; simp
   ·rw [shortB_big n h1]
    have := shortB_len k (n / 128) (by rw [Nat.pow_succ] at h; omega)
    simp; omega
theorem shortB_len10 (n : Nat) (h : n < 18446744073709551616) : (shortB n).length ≤ 10 := shortB_len 9 n (by omega)
theorem or128_fin : ∀ x : Fin 256, bits BinOp.or IntKind.u8 ((x.val : Nat) : Int) 128 = ((x.val % 128 + 128 : Nat) : Int) := by decide +kernel
theorem or128 (m : Nat) : bits BinOp.or IntKind.u8 ((m : Int) % 256) 128 = ((m % 128 + 128 : Nat) : Int) := by
 have h := or128_fin ⟨m % 256, by omega⟩
 simp only at h
 rw [show ((m % 256 : Nat) : Int) = (m : Int) % 256 by omega] at h
 rw [h]; congr 1; omega
theorem Put_any (a : Option Addr) (cap : Nat) (l : Bytes) (n : Nat) (w : World) (hl : l.length ≤ 536870912) (hn : n < 18446744073709551616) (h : BytesIn w a l) :
 Calls Tryz.prog 75 #[.slice a l.length cap, .int .u64 n] w (RetBytes (l ++ shortB n) w) := by
 obtain ⟨i0, hi, hz0, hz1, hz2⟩ := info_parts Tryz.infoByte
 have HC := Lib.hid (fun (W : World) (h : BytesIn W a l) => CloneBytes_any a cap l W (by omega) h)
 go_enter Tryz.func75, Tryz.ntmps75
 go_wp2_with (go_at_call 84; refine (HC.out _ h).mono ?_; rintro e w1 ⟨v, rfl, hown, hbel⟩)
 go_loopw [1, 5] (fun x out wr => ∃ (m : Nat) (d : Bytes), x = .int .u64 m ∧ m ≤ n ∧ d.length + (shortB m).length = l.length + (shortB n).length ∧ l ++ shortB n = d ++ shortB m ∧ wr.ownsRow w.heap.size 5 1 out d.length (byteVals d) ∧ Below w.heap.size w wr) (fun x _ _ => (intOf x).toNat)
 case atStart => exact ⟨n, l, rfl, Nat.le_refl _, rfl, rfl, hown, hbel⟩
 case round =>
  obtain ⟨m, d, rfl, hm, hlen, hpre, hown2, hbel2⟩ := hrel
  have HP := Lib.hid hpre
  clear hpre
  have hzw := hbel2.size
  by_cases h1 : m < 128
  ·have hS := Lib.hid (shortB_small m h1)
   have hl1 : d.length ≤ l.length + 10 := by have := shortB_len10 n hn; omega
   have hx : Hid (Value.int .u8 (m : Int) = .int .u8 (UInt8.ofNat m).toNat) := by unfold Hid; congr 1; rw [UInt8.toNat_ofNat']; omega
   clear hlen
   go_wp2_with (at_builtin; go_loud (refine wpList_append_own _ rfl _ _ 65 rfl w.heap.size 5 i0 (.int .u8 0) 1 1 Tryz.underlying65 hi hz0 hz1 hz2 rfl (by decide) _ _ _ rfl (hown2.alloc _) ⟨wr.heap.size, 0, none⟩ 1 1 [.int .u8 (m : Int)] rfl rfl (cell_one_new _ _ _) (by simp [Value.oneCell']) (by unfold maxLen; omega) (by omega) (by simp; omega) ?_))
   intro v' w2 hown3 hgrow _
   have hb3 := (hbel2.alloc hzw (Obj.cells #[.int .u8 (m : Int)] 5)).grown hgrow (by simp; omega) (fun k hk => (hown2.lt k hk).1)
   go_wp2
   go_ret
   exact ⟨_, rfl, by rw [hx.out] at hown3; rw [HP.out, hS.out]; simpa [byteVals_append, byteVals] using hown3, hb3⟩
  ·have hS := Lib.hid (shortB_big m h1)
   have hl0 : (shortB m).length = (shortB (m / 128)).length + 1 := by rw [hS.out]; simp
   have hl1 : d.length ≤ l.length + 10 := by have := shortB_len10 n hn; omega
   have hl2 : (d ++ [UInt8.ofNat (m % 128 + 128)]).length + (shortB (m / 128)).length = l.length + (shortB n).length := by simp; omega
   have HL2 := Lib.hid hl2
   have hbo := or128 m
   have hx : Hid (Value.int .u8 ((m : Int) % 128 + 128) = .int .u8 (UInt8.ofNat (m % 128 + 128)).toNat) := by unfold Hid; congr 1; rw [UInt8.toNat_ofNat']; omega
   clear hlen hl0 hl2
   go_wp2_with (at_builtin; go_loud (refine wpList_append_own _ rfl _ _ 65 rfl w.heap.size 5 i0 (.int .u8 0) 1 1 Tryz.underlying65 hi hz0 hz1 hz2 rfl (by decide) _ _ _ rfl (hown2.alloc _) ⟨wr.heap.size, 0, none⟩ 1 1 [_] rfl rfl (cell_one_new _ _ _) (by simp [Value.oneCell']) (by unfold maxLen; omega) (by omega) (by simp; omega) ?_))
   intro v' w2 hown3 hgrow _
   have hb3 := (hbel2.alloc hzw _).grown hgrow (by simp; omega) (fun k hk => (hown2.lt k hk).1)
   go_wp2
   go_roundw
   case rel => exact ⟨m / 128, d ++ [UInt8.ofNat (m % 128 + 128)], by go_num, by omega, HL2.out, by rw [HP.out, hS.out]; simp, by rw [hx.out] at hown3; simpa [byteVals_append, byteVals] using hown3, hb3⟩
   case measure => simp [intOf] <;> omega
open Go.Maps (Keyed)
/-- how a pointer to a file reads in the disk's map: its block -/
def fileR : Value → Option (DataW Unit × List MemPlace)
 | .pointer none => some (.nil, [])
 | .pointer (some ⟨b, 0, none⟩) => some (.lit (.int .i64 b), [])
 | _ => none
theorem fileR_lit {v : Value} {b : Nat} {ps : List MemPlace} (h : fileR v = some (.lit (.int .i64 b), ps)) : v = .pointer (some ⟨b, 0, none⟩) := by
 unfold fileR at h
 split at h
 ·simp at h
 ·simp only [Option.some.injEq, Prod.mk.injEq, DataW.lit.injEq, Lit.int.injEq, true_and] at h
  rw [Int.natCast_inj.1 h.1]
 ·cases h
theorem fileR_nil {v : Value} {ps : List MemPlace} (h : fileR v = some (.nil, ps)) : v = .pointer none := by
 unfold fileR at h
 split at h
 ·rfl
 ·simp at h
 ·cases h
theorem nlaw : Keyed Tryz.prog 9 := Maps.string_keyed Tryz.underlying9
theorem zeroFile (w : World) : (zeroValue 83).run Tryz.prog w = .ok (.pointer none) w := by kernel_rfl
/-- a name as a key -/
def nk (s : ByteArray) : Lit := .string s.data.toList
theorem nk_inj {s t : ByteArray} (h : nk s = nk t) : s = t := bl_inj (by simpa [nk] using h)
theorem nk_key {s : ByteArray} (hs : s.size ≤ maxLen) : keyOf Tryz.prog 9 (.string s) = some (nk s) := Go.WideMaps.keyOf_string_mk Tryz.underlying9 hs
/-- a file's block: its bytes lie elsewhere -/
def FileAt (w : World) (fb : Nat) (f : DF) : Prop := ∃ a cap, w.heap[fb]? = some (.cells #[.slice a f.b.length cap, .int .i64 f.safe] 88 (0, 0)) ∧ BytesIn w a f.b ∧ f.b.length ≤ cap
/-- the files of a disk, by names -/
def getF (l : List DF) (name : ByteArray) : Option DF := l.find? fun f => decide (f.name = name)
/-- the map's datum, beside the files -/
structure FilesAt (w : World) (F : Nat → Prop) (D : DataW Unit) (l : List DF) : Prop where
 none : ∀ s, getF l s = none → D.atKey (nk s) .nil = .nil
 some : ∀ s f, getF l s = some f → ∃ fb, F fb ∧ D.atKey (nk s) .nil = .lit (.int .i64 fb) ∧ FileAt w fb f
 apart : ∀ s t fb, D.atKey (nk s) .nil = .lit (.int .i64 fb) → D.atKey (nk t) .nil = .lit (.int .i64 fb) → s = t
 has : ∀ s, Maps.has D (nk s) = (getF l s).isSome
 size : Maps.size D = l.length
/-- a disk in memory: d its block, b its map's, which reads as D; all its own blocks lie in F -/
structure DkIn (w : World) (F : Nat → Prop) (d : Nat) (S : DS) (b : Nat) (D : DataW Unit) : Prop where
 fd : F d
 cells : DkCells w d b S.arm S.down
 fb : F b
 own : w.ownsMap Tryz.prog 9 fileR b S.f.length D
 files : FilesAt w F D S.f
theorem find_nil (s : ByteArray) (w : World) : Calls Tryz.prog 51 #[.pointer none, .string s] w fun e w' => e = .returned (.tuple #[.pointer none, .int .i64 17]) ∧ w = w' := by
 go_enter Tryz.func51, Tryz.ntmps51
 go_wp2
 all_goals
  go_ret2
  exact ⟨rfl, rfl⟩
variable {F : Nat → Prop} {d : Nat} {S : DS} {b : Nat} {D : DataW Unit} {s : ByteArray} {w : World}
theorem find_form (hs : s.size ≤ maxLen) (hd : d = d) (hok : nameOk s = false) :
 Calls Tryz.prog 51 #[.pointer (some ⟨d, 0, none⟩), .string s] w fun e w' => e = .returned (.tuple #[.pointer none, .int .i64 1]) ∧ w = w' := by
 have HR := Lib.hid (right_any s w hs)
 rw [hok] at HR
 clear hok
 go_enter Tryz.func51, Tryz.ntmps51
 go_wp2_with (go_at_call 85; (with_reducible refine HR.out.mono ?_); rintro e w1 ⟨rfl, rfl⟩)
 all_goals
  go_ret2
  exact ⟨rfl, rfl⟩
theorem find_none (hs : s.size ≤ maxLen) (h : DkIn w F d S b D) (hok : nameOk s = true) (hg : getF S.f s = none) :
 Calls Tryz.prog 51 #[.pointer (some ⟨d, 0, none⟩), .string s] w fun e w' => e = .returned (.tuple #[.pointer none, .int .i64 10]) ∧ w = w' := by
 obtain ⟨hFd, hc, hFb, hown, hfs⟩ := h
 obtain ⟨p0, p1, p2, f0, f1, f2⟩ := three_cell hc
 have HR := Lib.hid (right_any s w hs)
 rw [hok] at HR
 obtain ⟨v, ps, hrun, hv⟩ := hown.lookup nlaw Tryz.underlying71 (zeroFile _) (zd := .nil) (zp := []) rfl (nk_key hs)
 rw [hfs.none s hg] at hv
 obtain rfl := fileR_nil hv
 clear hg hown hfs hv hok hc
 go_enter Tryz.func51, Tryz.ntmps51
 go_wp2_with (go_at_call 85; (with_reducible refine HR.out.mono ?_); rintro e w1 ⟨rfl, rfl⟩)
 all_goals
  go_ret2
  exact ⟨rfl, rfl⟩
theorem find_some {fb : Nat} (hs : s.size ≤ maxLen) (h : DkIn w F d S b D) (hok : nameOk s = true) (hfb : D.atKey (nk s) .nil = .lit (.int .i64 fb)) :
 Calls Tryz.prog 51 #[.pointer (some ⟨d, 0, none⟩), .string s] w fun e w' => e = .returned (.tuple #[.pointer (some ⟨fb, 0, none⟩), .int .i64 0]) ∧ w = w' := by
 obtain ⟨hFd, hc, hFb, hown, hfs⟩ := h
 obtain ⟨p0, p1, p2, f0, f1, f2⟩ := three_cell hc
 have HR := Lib.hid (right_any s w hs)
 rw [hok] at HR
 obtain ⟨v, ps, hrun, hv⟩ := hown.lookup nlaw Tryz.underlying71 (zeroFile _) (zd := .nil) (zp := []) rfl (nk_key hs)
 rw [hfb] at hv
 obtain rfl := fileR_lit hv
 clear hfb hown hfs hv hok hc
 go_enter Tryz.func51, Tryz.ntmps51
 go_wp2_with (go_at_call 85; (with_reducible refine HR.out.mono ?_); rintro e w1 ⟨rfl, rfl⟩)
 all_goals
  go_ret2
  exact ⟨rfl, rfl⟩
/-! ### Safe -/
end Go.Proofs.YtlefejokpdjpgaaGreat
