/- canon: Same. Conditions: as in the text. -/
import Derived.Test.YtdlmbflhbecggaaGreatCanV
import Derived.Test.YtdlmbflhbecggaaGreatDot
import Derived.Test.YtdlmbflhbecggaaGreatHost
import Derived.Lib.Bytealg
import Derived.Test.YtdlmbflhbecggaaGreatEq
import Derived.Sort.Walk0
import Derived.Test.YtdlmbflhbecggaaGreatSrtK
import Derived.Test.YtdlmbflhbecggaaGreatWin
set_option linter.unusedSimpArgs false
set_option linter.unusedVariables false
set_option linter.unnecessarySimpa false
set_option maxHeartbeats 16000000
set_option maxRecDepth 100000
namespace Go.Proofs.YtdlmbflhbecggaaGreat
open Go.RowKit
def yZ (a b : ByteArray) : Int := Lib.compareBytes a.data.toList b.data.toList
theorem zJ (a b : ByteArray) (w : World) :
 Calls Tryz.prog 201 #[.string a, .string b] w fun e w' => e = .returned (.int .i64 (yZ a b)) ∧ w = w' := by
 go_enter Tryz.func201, Tryz.ntmps201
 go_wp2
 rw [run_callFunc_extern Tryz.func224 (by kernel_rfl) (by kernel_rfl) (by kernel_rfl) (e := Extern.BytealgCompare.compare) (by kernel_rfl), Lib.run_compareString]
 simp only [Result.andThen]
 rw [Oper.upon_value]
 go_wp2
 go_ret
 exact ⟨rfl, rfl⟩
theorem wZ (a b : ByteArray) (w : World) :
 Calls Tryz.prog 176 #[.string a, .string b] w fun e w' => e = .returned (.int .i64 (yZ a b)) ∧ w = w' := by
 go_enter Tryz.func176, Tryz.ntmps176
 go_wp2_with (go_at_call 201; refine (zJ _ _ _).mono ?_; rintro e w1 ⟨rfl, rfl⟩)
 go_ret
 exact ⟨rfl, rfl⟩
theorem LD (a b c : Int) (A : Nat) (w : World) (h0 : w.cell? ⟨A, 0, none⟩ = some (.int .i64 a)) (h1 : w.cell? ⟨A, 1, none⟩ = some (.int .i64 b)) (h2 : w.cell? ⟨A, 2, none⟩ = some (.int .i64 c)) :
 Calls Tryz.prog 149 #[.slice (some ⟨A, 0, none⟩) 3 3] w fun e w' => e = .returned (.int .i64 (orI a (orI b c))) ∧ w = w' := by
 go_enter Tryz.func149, Tryz.ntmps149
 go_wp2
 go_rounds 4
 all_goals
  go_ret
  exact ⟨bT (by unfold orI; simp_all), rfl⟩
def Gm (a b : Key) : Int := orI (yZ a.name b.name) (orI (yZ a.domain b.domain) (yZ a.path b.path))
def fF (a b : Key) : Bool := decide (Gm a b < 0)
theorem G6 : ∀ a b : List UInt8, (Lib.compareBytes a b < 0) ↔ a < b
 | [], [] => by simp [Lib.compareBytes]
 | [], y :: b => by simp [Lib.compareBytes]
 | x :: a, [] => by simp [Lib.compareBytes]
 | x :: a, y :: b => by
   unfold Lib.compareBytes
   rw [List.cons_lt_cons_iff]
   by_cases h : x < y
   ·rw [if_pos h]
    simp [h]
   ·rw [if_neg h]
    by_cases h2 : y < x
    ·rw [if_pos h2]
     have hne : x ≠ y := fun e => by rw [e] at h2; exact UInt8.lt_irrefl y h2
     simp [h, hne]
    ·rw [if_neg h2]
     have he : x = y := UInt8.le_antisymm (UInt8.not_lt.1 h2) (UInt8.not_lt.1 h)
     rw [G6 a b]
     simp [he]
theorem G7 : ∀ a b : List UInt8, Lib.compareBytes a b = 0 ↔ a = b
 | [], [] => by simp [Lib.compareBytes]
 | [], y :: b => by simp [Lib.compareBytes]
 | x :: a, [] => by simp [Lib.compareBytes]
 | x :: a, y :: b => by
   unfold Lib.compareBytes
   by_cases h : x < y
   ·rw [if_pos h]
    have hne : x ≠ y := fun e => by rw [e] at h; exact UInt8.lt_irrefl y h
    simp [hne]
   ·rw [if_neg h]
    by_cases h2 : y < x
    ·rw [if_pos h2]
     have hne : x ≠ y := fun e => by rw [e] at h2; exact UInt8.lt_irrefl y h2
     simp [hne]
    ·rw [if_neg h2]
     have he : x = y := UInt8.le_antisymm (UInt8.not_lt.1 h2) (UInt8.not_lt.1 h)
     rw [G7 a b]
     simp [he]
theorem BZ (a b : ByteArray) : yZ a b < 0 ↔ bl a < bl b := G6 _ _
theorem wU (a b : ByteArray) : yZ a b = 0 ↔ a = b := by
 unfold yZ
 rw [G7]
 exact ⟨fun h => mP h, fun h => by rw [h]⟩
theorem sS (a b : Key) : fF a b = if a.name = b.name then (if a.domain = b.domain then decide (bl a.path < bl b.path) else decide (bl a.domain < bl b.domain)) else decide (bl a.name < bl b.name) := by
 unfold fF Gm orI
 by_cases h1 : a.name = b.name
 ·rw [if_pos h1, if_pos ((wU _ _).2 h1)]
  by_cases h2 : a.domain = b.domain
  ·rw [if_pos h2, if_pos ((wU _ _).2 h2)]
   exact decide_eq_decide.2 (BZ _ _)
  ·rw [if_neg h2, if_neg (fun e => h2 ((wU _ _).1 e))]
   exact decide_eq_decide.2 (BZ _ _)
 ·rw [if_neg h1, if_neg (fun e => h1 ((wU _ _).1 e))]
  exact decide_eq_decide.2 (BZ _ _)
theorem AZ (a b : ByteArray) : Op.bytesLess a.toList b.toList = decide (bl a < bl b) := by
 rw [bytesLess_eq, ByteArray.toList_eq, ByteArray.toList_eq]
theorem sQ (a : Key) : fF a a = false := by
 rw [sS, if_pos rfl, if_pos rfl]
 exact decide_eq_false (List.lt_irrefl _)
theorem ng {a b c : Key} (h : fF a b = true) (k : fF b c = true) : fF a c = true := by
 rw [sS] at h k ⊢
 have tr : ∀ {x y z : List UInt8}, x < y → y < z → x < z := fun h1 h2 => List.lt_trans h1 h2
 by_cases h1 : a.name = b.name
 ·rw [if_pos h1] at h
  by_cases k1 : b.name = c.name
  ·rw [if_pos k1] at k
   rw [if_pos (h1.trans k1)]
   by_cases h2 : a.domain = b.domain
   ·rw [if_pos h2] at h
    by_cases k2 : b.domain = c.domain
    ·rw [if_pos k2] at k
     rw [if_pos (h2.trans k2)]
     rw [decide_eq_true_eq] at h k ⊢
     exact tr h k
    ·rw [if_neg k2] at k
     rw [if_neg (by rw [h2]; exact k2), h2]
     exact k
   ·rw [if_neg h2] at h
    by_cases k2 : b.domain = c.domain
    ·rw [if_neg (by rw [← k2]; exact h2), ← k2]
     exact h
    ·rw [if_neg k2] at k
     rw [decide_eq_true_eq] at h k
     have h3 := tr h k
     rw [if_neg (fun e => by rw [e] at h3; exact List.lt_irrefl _ h3)]
     exact decide_eq_true h3
  ·rw [if_neg k1] at k
   rw [if_neg (by rw [h1]; exact k1), h1]
   exact k
 ·rw [if_neg h1] at h
  by_cases k1 : b.name = c.name
  ·rw [if_neg (by rw [← k1]; exact h1), ← k1]
   exact h
  ·rw [if_neg k1] at k
   rw [decide_eq_true_eq] at h k
   have h3 := tr h k
   rw [if_neg (fun e => by rw [e] at h3; exact List.lt_irrefl _ h3)]
   exact decide_eq_true h3
theorem y9 {x y : ByteArray} (h : x ≠ y) (k : ¬ bl x < bl y) : bl y < bl x :=
 Classical.byContradiction fun h2 => h (mP (List.le_antisymm (List.not_lt.1 h2) (List.not_lt.1 k)))
theorem pO {a b : Key} (h : a ≠ b) (k : fF a b = false) : fF b a = true := by
 rw [sS] at k ⊢
 by_cases h1 : a.name = b.name
 ·rw [if_pos h1] at k
  rw [if_pos h1.symm]
  by_cases h2 : a.domain = b.domain
  ·rw [if_pos h2, decide_eq_false_iff_not] at k
   rw [if_pos h2.symm]
   exact decide_eq_true (y9 (fun e => h (by cases a; cases b; simp_all)) k)
  ·rw [if_neg h2, decide_eq_false_iff_not] at k
   rw [if_neg (fun e => h2 e.symm)]
   exact decide_eq_true (y9 h2 k)
 ·rw [if_neg h1, decide_eq_false_iff_not] at k
  rw [if_neg (fun e => h1 e.symm)]
  exact decide_eq_true (y9 h1 k)
theorem Bi (a b : Key) (w : World) :
 Calls Tryz.prog 99 #[.agg #[.string a.name, .string a.domain, .string a.path], .agg #[.string b.name, .string b.domain, .string b.path]] w fun e w' => e = .returned (.bool (fF a b)) ∧ Below w.heap.size w w' := by
 have hL := sS a b
 have hl1 := AZ a.name b.name
 have hl2 := AZ a.domain b.domain
 have hl3 := AZ a.path b.path
 by_cases h1 : a.name = b.name
 ·rw [if_pos h1] at hL
  have hn1 : (a.name.toList == b.name.toList) = true := by rw [lI]; exact decide_eq_true (by rw [h1])
  by_cases h2 : a.domain = b.domain
  ·rw [if_pos h2] at hL
   have hn2 : (a.domain.toList == b.domain.toList) = true := by rw [lI]; exact decide_eq_true (by rw [h2])
   have HL := Lib.hid hL
   clear hL h1 h2
   go_enter Tryz.func99, Tryz.ntmps99
   go_wp2
   go_ret
   exact ⟨ah (Eq.trans (decide_eq_decide.2 Iff.rfl) HL.out.symm), by go_grown⟩
  ·rw [if_neg h2] at hL
   have hn2 : (a.domain.toList == b.domain.toList) = false := by rw [lI]; exact decide_eq_false fun e => h2 (mP e)
   have HL := Lib.hid hL
   clear hL h1 h2
   go_enter Tryz.func99, Tryz.ntmps99
   go_wp2
   go_ret
   exact ⟨ah (Eq.trans (decide_eq_decide.2 Iff.rfl) HL.out.symm), by go_grown⟩
 ·rw [if_neg h1] at hL
  have hn1 : (a.name.toList == b.name.toList) = false := by rw [lI]; exact decide_eq_false fun e => h1 (mP e)
  have HL := Lib.hid hL
  clear hL h1
  go_enter Tryz.func99, Tryz.ntmps99
  go_wp2
  go_ret
  exact ⟨ah (Eq.trans (decide_eq_decide.2 Iff.rfl) HL.out.symm), by go_grown⟩
end Go.Proofs.YtdlmbflhbecggaaGreat
/- A slice of keys under slices.SortFunc, by match.Less. Conditions: at most 2^30 of them. -/
namespace Go.Proofs.YtdlmbflhbecggaaGreat
open Go.RowKit Go.Shelf
theorem LH (a b : Key) (w : World) :
 Calls Tryz.prog 136 #[.agg #[.string a.name, .string a.domain, .string a.path], .agg #[.string b.name, .string b.domain, .string b.path]] w fun e w' => e = .returned (.int .i64 (Gm a b)) ∧ Up w w' := by
 go_enter Tryz.func136, Tryz.ntmps136
 go_wp2
 go_region_held3 (fun w' => w'.cell? ⟨w.heap.size, 0, none⟩ = some (.string a.name) ∧ w'.cell? ⟨w.heap.size, 1, none⟩ = some (.string a.domain) ∧ w'.cell? ⟨w.heap.size, 2, none⟩ = some (.string a.path) ∧ w'.cell? ⟨w.heap.size+1, 0, none⟩ = some (.string b.name) ∧ w'.cell? ⟨w.heap.size+1, 1, none⟩ = some (.string b.domain) ∧ w'.cell? ⟨w.heap.size+1, 2, none⟩ = some (.string b.path)) (go_keep)
  (first
   | (go_at_call 176; refine (wZ _ _ _).mono ?_; rintro e w1 ⟨rfl, rfl⟩)
   | (go_at_call 149; go_call LD (yZ a.name b.name) (yZ a.domain b.domain) (yZ a.path b.path) as e w1 ⟨rfl, rfl⟩))
 go_wp2
 go_ret
 exact ⟨rfl, by go_grown, Nat.le_succ _⟩
theorem FN (a b : Key) (w : World) :
 Calls Tryz.prog 96 #[.agg #[.string a.name, .string a.domain, .string a.path], .agg #[.string b.name, .string b.domain, .string b.path]] w fun e w' => e = .returned (.bool (fF a b)) ∧ Up w w' := by
 go_enter Tryz.func96, Tryz.ntmps96
 go_wp2_with (go_at_call 136; refine (LH a b _).mono ?_; rintro e w1 ⟨rfl, hb, hd⟩)
 go_ret
 exact ⟨rfl, below2 (by go_grown) hb, hd⟩
/-- the closure of Winners -/
def qY (a b : Key) : Int := if fF a b = true then -1 else 1
theorem AA (a b : Key) : decide (qY a b < 0) = fF a b := by
 unfold qY
 cases fF a b <;> rfl
theorem Hw (a b : Key) (w : World) :
 Calls Tryz.prog 95 #[.agg #[.string a.name, .string a.domain, .string a.path], .agg #[.string b.name, .string b.domain, .string b.path]] w fun e w' => e = .returned (.int .i64 (qY a b)) ∧ Up w w' := by
 have hK := fun (X : World) => FN a b X
 have HC : Hid (qY a b = if fF a b = true then -1 else 1) := rfl
 generalize qY a b = c at *
 cases hk : fF a b with
 | true =>
   rw [hk] at hK
   have HE : Hid (c = -1) := by unfold Hid; rw [HC.out, hk]; rfl
   have HK := Lib.hid hK
   clear hK hk HC
   go_enter Tryz.func95, Tryz.ntmps95
   go_wp2_with (go_at_call 96; (with_reducible refine (HK.out _).mono ?_); rintro e w1 ⟨rfl, hb, hd⟩)
   go_ret
   exact ⟨by rw [HE.out]; rfl, below2 (by go_grown) hb, hd⟩
 | false =>
   rw [hk] at hK
   have HE : Hid (c = 1) := by unfold Hid; rw [HC.out, hk]; rfl
   have HK := Lib.hid hK
   clear hK hk HC
   go_enter Tryz.func95, Tryz.ntmps95
   go_wp2_with (go_at_call 96; (with_reducible refine (HK.out _).mono ?_); rintro e w1 ⟨rfl, hb, hd⟩)
   go_ret
   exact ⟨by rw [HE.out]; rfl, below2 (by go_grown) hb, hd⟩
instance : Inhabited Key := ⟨⟨ByteArray.empty, ByteArray.empty, ByteArray.empty⟩⟩
def yU (k : Key) : List Value := [.string k.name, .string k.domain, .string k.path]
def iV (l : List Key) : List Value := l.flatMap fun k => [.string k.name, .string k.domain, .string k.path]
theorem Nw : Go.Sort.SWO (ltOf qY) := by
 have e : ∀ x y, ltOf qY x y = fF x y := fun x y => AA x y
 refine ⟨fun x => by rw [e]; exact sQ x, fun x y z h k => ?_, fun x y z h k => ?_⟩
 ·rw [e] at h k ⊢; exact ng h k
 ·rw [e] at h k ⊢
  cases hh : fF x z with
  | false => rfl
  | true =>
    by_cases hxy : x = y
    ·subst hxy; rw [k] at hh; cases hh
    ·have h1 := pO hxy h
     have h2 := ng h1 hh
     rw [k] at h2; cases h2
theorem Gj (blk off size : Nat) (w : World) : CmpLays Tryz.prog 95 #[] yU 3 qY blk off size w :=
 fun _ _ _ _ x y => (Hw x y _).mono fun _ _ ⟨he, hu⟩ => ⟨he, hu.grown⟩
theorem JF (base : Nat) (v : Value) (ks : List Key) (w : World) (hown : w.ownsRow base 60 3 v ks.length (iV ks)) (hl : ks.length ≤ 1073741824) :
 Calls Tryz.prog 94 #[v, .func (.func 95) #[] #[]] w fun e w' => e = .returned (.tuple #[]) ∧ ∃ ts : List Key, ts.Perm ks ∧ Go.Sort.SortedIn fF 0 ts.toArray.size ts.toArray ∧ w'.ownsRow base 60 3 v ks.length (iV ts) ∧ Fr (fun k => v.ownBlock = some k) w w' := by
 rcases hown.2 with ⟨rfl, hz⟩ | ⟨g, cap, cur, rfl, hbase, hgb, r1, r2, r3, r4⟩
 ·obtain rfl : ks = [] := List.eq_nil_of_length_eq_zero hz
  refine (AnyF.slices_SortFunc_none Tryz.sortKey none 0 _ w).mono ?_
  rintro e w' ⟨rfl, rfl⟩
  exact ⟨rfl, [], List.Perm.refl _, fun i j _ _ h => by simp at h, hown, Fr.refl _ _⟩
 ·have hH : Go.Sort.HoldsK yU 3 w g 0 ks.toArray := rQ (k := 3) (fun _ => rfl) (by decide) hgb r4
  have hgl : g < w.heap.size := (Array.getElem?_eq_some_iff.1 hgb).1
  have hc := AnyQ.slices_SortFunc Tryz.sortKey 3 Tryz.isAgg60 Tryz.sizeOf60 yU (fun _ => rfl) (fun x v hv => by simp [yU] at hv; rcases hv with rfl | rfl | rfl <;> rfl) qY Nw 95 #[] g 0 cap ks.toArray w (enters_of Tryz.func95 (by kernel_rfl) rfl) (Gj g 0 _ w) hH hgl (by simp; omega)
  rw [List.size_toArray] at hc
  refine hc.mono ?_
  rintro e w' ⟨rfl, d', n, os, ⟨p1, p2, p3⟩, hs, rfl⟩
  have hd : d' = d'.toList.toArray := by simp
  have hsz : d'.size = ks.length := by simpa using p1
  have hperm : d'.toList.Perm ks := by
   have := p3
   rwa [show d'.extract 0 ks.length = d' by rw [← hsz]; simp, show ks.toArray.extract 0 ks.length = ks.toArray by simp] at this
  refine ⟨rfl, d'.toList, hperm, ?_, ?_, ?_⟩
  ·have e : ltOf qY = fF := by funext x y; exact AA x y
   rw [e] at hs
   simpa [hsz] using hs
  ·have h9 := nK (enc := yU) (k := 3) (ts := d'.toList) (ss := ks) (n := n) (os := os) (fun _ => rfl) (by decide) (by simpa using hsz) hbase hgb r1 r2 r3
   rw [← hd] at h9
   exact h9
  ·exact (yO d').mono fun k _ hk => by subst hk; rfl
theorem Tryz.infoKey : (Tryz.prog.info? 60).map (fun i => (i.zero, i.size, i.bytes)) = some (some (.agg #[.string ByteArray.empty, .string ByteArray.empty, .string ByteArray.empty]), 3, 48) := by kernel_rfl
theorem BO (l : List Key) (k : Key) : iV (l ++ [k]) = iV l ++ [.string k.name, .string k.domain, .string k.path] := by simp [iV]
theorem vF : ∀ (l : List Key) (i : Nat) (h : i < l.length), (iV l)[i * 3]? = some (.string l[i].name) ∧ (iV l)[i * 3 + 1]? = some (.string l[i].domain) ∧ (iV l)[i * 3 + 2]? = some (.string l[i].path)
 | [], i, h => by simp at h
 | d :: l, 0, _ => by simp [iV]
 | d :: l, i + 1, h => by
   have ih := vF l i (by simpa using h)
   have e : iV (d :: l) = [.string d.name, .string d.domain, .string d.path] ++ iV l := rfl
   rw [e, List.getElem?_append_right (by simp; omega), List.getElem?_append_right (by simp; omega), List.getElem?_append_right (by simp; omega)]
   simp only [List.length_cons, List.length_nil, List.getElem_cons_succ]
   rw [show (i + 1) * 3 - (0 + 1 + 1 + 1) = i * 3 by omega, show (i + 1) * 3 + 1 - (0 + 1 + 1 + 1) = i * 3 + 1 by omega, show (i + 1) * 3 + 2 - (0 + 1 + 1 + 1) = i * 3 + 2 by omega]
   exact ih
theorem Dz {w : World} {a : Option Addr} {l : List Key} (h : CellsIn w a (iV l)) {k : Nat} (hk : k < l.length) :
 ∃ A off, a = some ⟨A, off, none⟩ ∧ w.cell? ⟨A, off + k * 3, none⟩ = some (.string l[k].name) ∧ w.cell? ⟨A, off + k * 3 + 1, none⟩ = some (.string l[k].domain) ∧ w.cell? ⟨A, off + k * 3 + 2, none⟩ = some (.string l[k].path) := by
 obtain ⟨g0, g1, g2⟩ := vF l k hk
 rcases h with h | ⟨A, off, h1, h2⟩
 ·rw [h] at g0; simp at g0
 ·exact ⟨A, off, h1, h2 _ _ g0, h2 _ _ g1, h2 _ _ g2⟩
theorem ATab.keyW {w : World} {b : Nat} {A : List (Key × Nat)} (h : ATab w b A) : ∀ k ∈ A.map (·.1), KeyW k := fun k hk => by
 obtain ⟨p, hp, rfl⟩ := List.mem_map.1 hk
 exact h.okk p hp
def PI (s : MS) (w : World) (e : Ending) (w' : World) : Prop :=
 ∃ (ts : List Key) (a : Option Addr) (ls : List bJ) (cap : Nat), e = .returned (.slice a ls.length cap) ∧ EvsIn w' a ls ∧ aQ ls = ts.map (fun k => (fD (keyOfS s k)).1) ∧ ts.Perm (s.A.map (·.1)) ∧ (ts.Pairwise fun x y => fF x y = true) ∧ Below w.heap.size w w'
theorem BH {m : Nat} {b : MB} {s : MS} (w : World) (h : MpIn w m b s) (hi0 : MInv s) :
 Calls Tryz.prog 43 #[.pointer (some ⟨m, 0, none⟩)] w (PI s w) := by
 obtain ⟨i0, hi, hz0, hz1, hz2⟩ := info_parts Tryz.infoKey
 obtain ⟨c0, c1, c2, c3⟩ := dL h.cell
 have htab := h.alive
 have HH := Lib.hid h
 have HKW := Lib.hid htab.keyW
 have HND : Hid ((s.A.map (·.1)).Nodup) := List.pairwise_map.2 htab.apart
 have HI := Lib.hid hi0
 obtain ⟨iE, hiE, hE0, hE1, hE2⟩ := info_parts Tryz.infoEv
 have HBK := Lib.hid (h.low (kD b s.A))
 have hbd := (hi0.bounds h).1
 clear c0 c2 c3 h
 go_enter Tryz.func43, Tryz.ntmps43
 go_wp2_with (at_range; refine ig yD _ rfl _ 104 rfl 105 Tryz.underlying104 b.ab rfl htab ?_; intro w0 Jh hrg0 hb0 hs0)
 go_frame
 go_loopw [3] (fun v wr => ∃ rest cnt ks, TabIt Tryz.prog 60 gm KeyW FK wr b.ab w.heap.size s.A rest cnt ∧ (ks ++ rest.map (·.1)).Perm (s.A.map (·.1)) ∧ wr.ownsRow (w.heap.size + 1) 60 3 v ks.length (iV ks) ∧ Below w.heap.size w wr) (fun _ wr => wr.rangeLeft b.ab w.heap.size)
 case atStart => exact ⟨s.A, _, [], hrg0, List.Perm.refl _, World.ownsRow_nil _ _ _ _, hb0⟩
 case round =>
  obtain ⟨rest, cnt, ks, hrg, hC, hown, hbw⟩ := hrel
  have hzw : w.heap.size + 1 ≤ wr.heap.size := by have := hrg.lt; omega
  have HLE := Lib.hid hrg.left_eq
  go_wp2_with (at_next; refine gG yD _ rfl _ rfl b.ab w.heap.size cnt rfl hrg ?_ ?_)
  rotate_left
  ·intro x n rest' w2 cnt2 hperm hpm hrg2 hlt hg2 hs2 hen
   have hlen : ks.length < s.A.length := by
        have h1 := hC.length_eq
        have h2 := hperm.length_eq
        simp at h1 h2 ⊢
        omega
   have HC2 : Hid (((ks ++ [x]) ++ rest'.map (·.1)).Perm (s.A.map (·.1))) := by
        have h3 : (ks ++ rest.map (·.1)).Perm ((ks ++ [x]) ++ rest'.map (·.1)) := by
         have := (hperm.map (·.1)).append_left ks
         simpa using this
        exact h3.symm.trans hC
   have hNlt := hrg.lt
   have hown2 := hown.kept2 hg2 (fun g hg => by have := (hown.lt g hg).1; show ¬ g = w.heap.size; omega)
   have hb2 : Below w.heap.size w w2 := hbw.trans (hg2.below hbw.size (fun k hk => by rw [show k = w.heap.size from hk]; exact Nat.le_refl _))
   have hsz2 := hg2.size
   clear hs2 hown hrg hg2
   go_upto_region 7 with fail
   refine au (fun W3 hW3 => ?_)
   have hb3 : Below w2.heap.size w2 W3 := by rw [hW3.out]; go_grown
   have y0 : W3.cell? ⟨w2.heap.size, 0, none⟩ = some (.string x.name) := by rw [hW3.out]; go_simp
   have y1 : W3.cell? ⟨w2.heap.size, 1, none⟩ = some (.string x.domain) := by rw [hW3.out]; go_simp
   have y2 : W3.cell? ⟨w2.heap.size, 2, none⟩ = some (.string x.path) := by rw [hW3.out]; go_simp
   clear hW3
   have hown3 := ownsRow_below hown2 hb3
   have hrg3 := hrg2.kept hb3
   have hsz3 := hb3.size
   have hbw3 : Below w.heap.size w W3 := hb2.trans (hb3.mono hb2.size)
   clear hown2 hrg2 hb2
   go_wp2_with (at_builtin; refine wpList_append_own _ rfl _ _ 150 rfl (w.heap.size + 1) 60 i0 (.agg #[.string ByteArray.empty, .string ByteArray.empty, .string ByteArray.empty]) 3 48 Tryz.underlying150 hi hz0 hz1 hz2 rfl (by decide) _ _ _ rfl (hown3.alloc _) ⟨W3.heap.size, 0, none⟩ 1 1 [.string x.name, .string x.domain, .string x.path] rfl rfl (jY _ _ _) (by simp [Value.oneCell']) (by unfold maxLen; omega) (by omega) (by simp; omega) ?_; intro v2 w4 hown4 hgrow _)
   have hb4 : Below W3.heap.size W3 (W3.alloc (.cells #[.string x.name, .string x.domain, .string x.path] 60)) := (Below.refl _ _).alloc (Nat.le_refl _) _
   have hrg4 : TabIt Tryz.prog 60 gm KeyW FK w4 b.ab w.heap.size s.A rest' cnt2 := by
        have h4 := hrg3.kept hb4
        have hlo : b.ab < w.heap.size + 1 := by have := HBK.out; omega
        exact h4.block (hgrow.block _ h4.tab.lt (fun e => by have := (hown3.lt _ e.symm).1; omega)) (hgrow.block _ h4.lt (fun e => by have := (hown3.lt _ e.symm).1; omega))
   have HZ := Lib.hid (And.intro (show w4.ownsRow (w.heap.size + 1) 60 3 v2 (ks ++ [x]).length (iV (ks ++ [x])) by rw [BO, List.length_append]; exact hown4) (And.intro hrg4 ((hbw3.trans (hb4.mono hbw3.size)).grown hgrow (by simp; omega) (fun j hj => by have := (hown3.lt j hj).1; omega))))
   clear hown4 hrg4 hgrow hown3 hrg3 y0 y1 y2
   go_wp2
   go_roundw
   case rel => exact ⟨rest', cnt2, ks ++ [x], HZ.out.2.1, HC2.out, HZ.out.1, HZ.out.2.2⟩
   case measure => rw [HZ.out.2.1.left_eq, HLE.out]; exact hlt
  ·intro hr0
   subst hr0
   have hperm : ks.Perm (s.A.map (·.1)) := by simpa using hC
   have hkl : ks.length ≤ 1073741824 := by have := hperm.length_eq; simp at this; omega
   obtain ⟨v0, hv0⟩ : ∃ v0, v0 = u3 := ⟨_, rfl⟩
   rw [← hv0] at hown ⊢
   clear hv0 hrg hC HLE
   have HS := Lib.hid (JF (w.heap.size + 1) v0 ks wr hown hkl)
   have HP := Lib.hid hperm
   have HO := Lib.hid hown
   clear hown hperm
   go_upto_region 9 with (go_at_call 94; (with_reducible refine HS.out.mono ?_); rintro e w1 ⟨rfl, ts, hts, hsrt, Ko, O0⟩)
   have hb1 : Below w.heap.size w w1 := hbw.trans (O0.below hbw.size (fun k hk => by have := (HO.out.lt k hk).1; omega))
   have htl : ts.length = ks.length := hts.length_eq
   rw [← htl] at Ko
   obtain ⟨aT, cT, rfl, P6, _⟩ := jU Ko
   have hpm : Hid (ts.Perm (s.A.map (·.1))) := hts.trans HP.out
   have HSr : Hid (ts.Pairwise fun x y => fF x y = true) := by
        have h5 := nI (lt := fF) (fun x y h k => pO h k) (d := ts.toArray) hsrt (by
         simp only []
         exact (hpm.out.nodup_iff).2 HND.out)
        unfold Hid
        simpa using h5
   have htk : ts.length ≤ 1073741824 := by omega
   have hm1 := HH.out.kept_w hb1
   clear Ko O0 hsrt hts HS HO HP hkl hbw htl
   go_wp2
   go_loopw [29, 5] (fun i v wq => ∃ (k : Nat) (ls : List bJ), i = .int .i64 k ∧ k ≤ ts.length ∧ EvsGr w1.heap.size v ls wq ∧ aQ ls = (ts.take k).map (fun k => (fD (keyOfS s k)).1) ∧ Below w1.heap.size w1 wq) (fun i _ _ => ts.length - (intOf i).toNat)
   case atStart => exact ⟨0, [], rfl, Nat.zero_le _, EvsGr.nil _ _, rfl, Below.refl _ _⟩
   case round =>
        obtain ⟨k, ls, rfl, hk, hgr, hev, hbr⟩ := hrel
        have HEV := Lib.hid hev
        clear hev
        by_cases hlt : k < ts.length
        ·obtain ⟨A, off, rfl, c0, c1, c2⟩ := Dz (P6.kept hbr) hlt
         have hkw := HKW.out _ (hpm.out.mem_iff.1 (List.getElem_mem hlt))
         have hzr := hbr.size
         have hr := hm1.kept_w hbr
         have HT : Hid ((ts.take (k + 1)).map (fun k => (fD (keyOfS s k)).1) = (ts.take k).map (fun k => (fD (keyOfS s k)).1) ++ [(fD (keyOfS s ts[k])).1]) := by
          unfold Hid
          rw [List.take_add_one, List.getElem?_eq_getElem hlt, List.map_append]
          rfl
         have HLT := Lib.hid hlt
         have hlk : ls.length = k := by
          have := congrArg List.length HEV.out
          rw [aV, List.length_map, List.length_take] at this
          omega
         have hkl : k ≤ 1073741824 := by omega
         generalize ts[k] = x at *
         have HW := Lib.hid (fun (X : World) (h : MpIn X m b s) => BI x hkw X h HI.out)
         go_upto_region 13 with fail
         refine au (fun V hV => ?_)
         have hbV : Below wr.heap.size wr V := by rw [hV.out]; go_grown
         have y0 : V.cell? ⟨wr.heap.size, 0, none⟩ = some (.string x.name) := by rw [hV.out]; go_simp
         have y1 : V.cell? ⟨wr.heap.size, 1, none⟩ = some (.string x.domain) := by rw [hV.out]; go_simp
         have y2 : V.cell? ⟨wr.heap.size, 2, none⟩ = some (.string x.path) := by rw [hV.out]; go_simp
         have hmV := hr.kept_w hbV
         have hgV := hgr.kept hbV
         have LZ : Below w1.heap.size w1 V := hbr.trans (hbV.mono hzr)
         clear hV hbV hr hgr c0 c1 c2 hkw
         generalize (fD (keyOfS s x)) = R at *
         go_upto_region 14 with (first
          | (go_at_call 97; (with_reducible refine (HW.out _ hmV).mono ?_); rintro v w4 ⟨aw, cw, rfl, hdw, htw, hb4⟩)
          | (refine aN 64 _ _ _ (ag R.1 aw cw).toArray rfl rfl (by kernel_rfl) rfl (by kernel_rfl) ?_))
         refine au (fun V5 hV5 => ?_)
         have hbA : Below w4.heap.size w4 V5 := by rw [hV5.out]; exact (Below.refl w4.heap.size w4).alloc (Nat.le_refl _) _
         have hR5 : V5.rangeAt w4.heap.size 0 (ag R.1 aw cw) := by rw [hV5.out]; exact dP R.1 aw cw w4 64
         have hgr5 := (hgV.kept hb4).kept hbA
         have hd5 := hdw.kept hbA
         have ht5 := htw.kept hbA
         have hb5 : Below w1.heap.size w1 V5 := (LZ.trans (hb4.mono LZ.size)).trans (hbA.mono (Nat.le_trans LZ.size hb4.size))
         generalize w4.heap.size = B4 at *
         have HR := Lib.hid (And.intro hd5 (And.intro ht5 (And.intro hgr5 hb5)))
         have hown5 := hgr5.own
         have hz5 := hb5.size
         clear hV5 hbA hgV hdw htw hb4 LZ hmV y0 y1 y2 hd5 ht5 hgr5 hb5
         go_wp2_with (first
          | ((with_reducible refine bG _ B4 0 R.1 aw cw hR5 ?_ rfl ?_); exact rfl)
          | (refine wpList_buildOne rfl 29 64 _ rfl (ag R.1 aw cw).toArray 19 rfl rfl (by decide) (by decide) Tryz.underlying29 (by kernel_rfl) (by kernel_rfl) ?_)
          | (at_builtin; go_loud (refine wpList_append_own_at _ rfl _ _ 29 rfl w1.heap.size 64 iE (.agg (ag ev0 none 0).toArray) 19 176 Tryz.underlying29 hiE hE0 hE1 hE2 rfl (by decide) _ _ _ rfl (hown5.alloc _) ⟨V5.heap.size, 0, none⟩ 1 1 (ag R.1 aw cw) rfl rfl (qG V5 R.1 aw cw _) (dO _ _ _) (by unfold maxLen; omega) (by omega) (by simp; omega) ?_)))
         intro v' wf gy hgrow _ _
         have hal : Below V5.heap.size V5 (V5.alloc (Obj.cells (ag R.1 aw cw).toArray 64)) := (Below.refl _ _).alloc (Nat.le_refl _) _
         obtain ⟨hd5, ht5, hgr5, hb5⟩ := HR.out
         have hgN := EvsGr.app (x := (R.1, aw, cw)) (hgr5.kept hal) (show wf.ownsRow w1.heap.size 64 19 v' (ls.length + 1) (aS ls ++ kN (R.1, aw, cw)) by rw [hlk]; exact gy) hgrow (hd5.kept hal) (ht5.kept hal)
         have hbF : Below w1.heap.size w1 wf := (hb5.trans (hal.mono hz5)).grown hgrow (by have := hal.size; omega) (fun j hj => (hown5.lt j hj).1)
         have HZ := Lib.hid (And.intro hgN hbF)
         clear hgN hbF gy hgrow hal hown5 hR5 hd5 ht5 hgr5 hb5
         go_wp2
         go_roundw
         case rel => exact ⟨k + 1, ls ++ [(R.1, aw, cw)], by go_num, HLT.out, HZ.out.1, by
          rw [HT.out, ← HEV.out]
          show (ls ++ [(R.1, aw, cw)]).map (·.1) = _
          rw [List.map_append]
          rfl, HZ.out.2⟩
         case measure => have := HLT.out; simp [intOf] <;> omega
        ·obtain rfl : k = ts.length := by omega
         obtain ⟨aF, cF, rfl, hF⟩ := hgr.evs
         have hE : aQ ls = ts.map (fun k => (fD (keyOfS s k)).1) := by
          have hE0 := HEV.out
          rwa [List.take_length] at hE0
         have HE := Lib.hid hE
         clear hE hgr
         go_wp2
         all_goals
          go_ret
          exact ⟨ts, aF, ls, cF, rfl, hF, HE.out, hpm.out, HSr.out, hb1.trans (hbr.mono hb1.size)⟩
end Go.Proofs.YtdlmbflhbecggaaGreat
