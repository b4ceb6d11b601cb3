/- A slice of keys under slices.SortFunc, by match.Less. Conditions: at most 2^30 of them. -/
import Derived.Test.YtpbobhfnglikmaaGreatSrtK
import Derived.Test.YtpbobhfnglikmaaGreatKeyOrd
import Derived.Test.YtpbobhfnglikmaaGreatWin
set_option linter.unusedSimpArgs false
set_option linter.unusedVariables false
set_option linter.unnecessarySimpa false
set_option maxHeartbeats 16000000
set_option maxRecDepth 100000
namespace Go.Proofs.YtpbobhfnglikmaaGreat
section
open Go.Shelf
def Tryz.sortKey_ren : Go.Shelf.Ren := ⟨fun | 6 => 138 | 15 => 186 | 14 => 185 | 28 => 230 | 29 => 231 | 20 => 222 | 21 => 223 | 22 => 224 | 23 => 225 | 24 => 226 | 25 => 227 | 26 => 228 | 27 => 229 | 46 => 254 | 47 => 255 | 48 => 256 | 49 => 257 | 50 => 258 | 57 => 278 | n => n, fun | 22 => 179 | 24 => 39 | 25 => 182 | 3 => 3 | 39 => 233 | 0 => 0 | 53 => 271 | 55 => 140 | 4 => 4 | 46 => 265 | 45 => 264 | 50 => 167 | 5 => 5 | 9 => 9 | 66 => 287 | 70 => 291 | 76 => 304 | 77 => 305 | n => n, fun | n => n⟩
theorem Tryz.sortKey : Go.Proofs.SlLaysF0.n6 Tryz.prog Tryz.sortKey_ren := {
  mixed := by kernel_rfl
  f6 := ⟨Tryz.f138.name, by decide, Tryz.func138.trans (congrArg some (by kernel_rfl))⟩
  f14 := ⟨Tryz.f185.name, by decide, Tryz.func185.trans (congrArg some (by kernel_rfl))⟩
  f15 := Tryz.func186.trans (congrArg some (by kernel_rfl))
  f20 := ⟨Tryz.f222.name, by decide, Tryz.func222.trans (congrArg some (by kernel_rfl))⟩
  f21 := ⟨Tryz.f223.name, by decide, Tryz.func223.trans (congrArg some (by kernel_rfl))⟩
  f22 := ⟨Tryz.f224.name, by decide, Tryz.func224.trans (congrArg some (by kernel_rfl))⟩
  f23 := ⟨Tryz.f225.name, by decide, Tryz.func225.trans (congrArg some (by kernel_rfl))⟩
  f24 := ⟨Tryz.f226.name, by decide, Tryz.func226.trans (congrArg some (by kernel_rfl))⟩
  f25 := ⟨Tryz.f227.name, by decide, Tryz.func227.trans (congrArg some (by kernel_rfl))⟩
  f26 := ⟨Tryz.f228.name, by decide, Tryz.func228.trans (congrArg some (by kernel_rfl))⟩
  f27 := ⟨Tryz.f229.name, by decide, Tryz.func229.trans (congrArg some (by kernel_rfl))⟩
  f28 := Tryz.func230.trans (congrArg some (by kernel_rfl))
  f29 := Tryz.func231.trans (congrArg some (by kernel_rfl))
  f46 := ⟨Tryz.f254.name, by decide, Tryz.func254.trans (congrArg some (by kernel_rfl))⟩
  f47 := Tryz.func255.trans (congrArg some (by kernel_rfl))
  f48 := Tryz.func256.trans (congrArg some (by kernel_rfl))
  f49 := ⟨Tryz.f257.name, by decide, Tryz.func257.trans (congrArg some (by kernel_rfl))⟩
  f50 := ⟨Tryz.f258.name, by decide, Tryz.func258.trans (congrArg some (by kernel_rfl))⟩
  f57 := ⟨Tryz.f278.name, by decide, Tryz.func278.trans (congrArg some (by kernel_rfl))⟩
  t0 := Tryz.underlying0
  a0 := Tryz.isAgg0
  z0 := Tryz.sizeOf0
  v0 := Tryz.zeroValue0
  t3 := Tryz.underlying3
  a3 := Tryz.isAgg3
  z3 := Tryz.sizeOf3
  v3 := Tryz.zeroValue3
  t4 := Tryz.underlying4
  a4 := Tryz.isAgg4
  z4 := Tryz.sizeOf4
  v4 := Tryz.zeroValue4
  t5 := Tryz.underlying5
  a5 := Tryz.isAgg5
  z5 := Tryz.sizeOf5
  v5 := Tryz.zeroValue5
  t9 := Tryz.underlying9
  a9 := Tryz.isAgg9
  z9 := Tryz.sizeOf9
  v9 := Tryz.zeroValue9
  t22 := Tryz.underlying179
  a22 := Tryz.isAgg179
  z22 := Tryz.sizeOf179
  v22 := Tryz.zeroValue179
  t25 := Tryz.underlying182
  a25 := Tryz.isAgg182
  z25 := Tryz.sizeOf182
  v25 := Tryz.zeroValue182
  t39 := Tryz.underlying233
  a39 := Tryz.isAgg233
  z39 := Tryz.sizeOf233
  v39 := Tryz.zeroValue233
  t45 := Tryz.underlying264
  a45 := Tryz.isAgg264
  z45 := Tryz.sizeOf264
  v45 := Tryz.zeroValue264
  t46 := Tryz.underlying265
  a46 := Tryz.isAgg265
  z46 := Tryz.sizeOf265
  v46 := Tryz.zeroValue265
  t50 := Tryz.underlying167
  a50 := Tryz.isAgg167
  z50 := Tryz.sizeOf167
  v50 := Tryz.zeroValue167
  t53 := Tryz.underlying271
  a53 := Tryz.isAgg271
  z53 := Tryz.sizeOf271
  v53 := Tryz.zeroValue271
  t55 := Tryz.underlying140
  a55 := Tryz.isAgg140
  z55 := Tryz.sizeOf140
  v55 := Tryz.zeroValue140
  t66 := Tryz.underlying287
  a66 := Tryz.isAgg287
  z66 := Tryz.sizeOf287
  v66 := Tryz.zeroValue287
  t70 := Tryz.underlying291
  a70 := Tryz.isAgg291
  z70 := Tryz.sizeOf291
  v70 := Tryz.zeroValue291
  t76 := Tryz.underlying304
  a76 := Tryz.isAgg304
  z76 := Tryz.sizeOf304
  v76 := Tryz.zeroValue304
  t77 := Tryz.underlying305
  a77 := Tryz.isAgg305
  z77 := Tryz.sizeOf305
  v77 := Tryz.zeroValue305 }
end
open Go.RowKit Go.Shelf
theorem keys_up (a b : Key) (w : World) :
 Calls Tryz.prog 187 #[.agg #[.string a.name, .string a.domain, .string a.path], .agg #[.string b.name, .string b.domain, .string b.path]] w fun e w' => e = .returned (.int .i64 (cmpKey a b)) ∧ Up w w' := by
 go_enter Tryz.func187, Tryz.ntmps187
 go_wp2
 go_region_held3 (fun w' => w'.cell? ⟨w.heap.size, 0, none⟩ = some (.string a.name) ∧ w'.cell? ⟨w.heap.size, 1, none⟩ = some (.string a.domain) ∧ w'.cell? ⟨w.heap.size, 2, none⟩ = some (.string a.path) ∧ w'.cell? ⟨w.heap.size+1, 0, none⟩ = some (.string b.name) ∧ w'.cell? ⟨w.heap.size+1, 1, none⟩ = some (.string b.domain) ∧ w'.cell? ⟨w.heap.size+1, 2, none⟩ = some (.string b.path)) (go_keep)
  (first
   | (go_at_call 232; refine (strCompare_any _ _ _).mono ?_; rintro e w1 ⟨rfl, rfl⟩)
   | (go_at_call 199; go_call or3_any (cmpS a.name b.name) (cmpS a.domain b.domain) (cmpS a.path b.path) as e w1 ⟨rfl, rfl⟩))
 go_wp2
 go_ret
 exact ⟨rfl, by go_grown, Nat.le_succ _⟩
theorem keyLess_up (a b : Key) (w : World) :
 Calls Tryz.prog 140 #[.agg #[.string a.name, .string a.domain, .string a.path], .agg #[.string b.name, .string b.domain, .string b.path]] w fun e w' => e = .returned (.bool (keyLt a b)) ∧ Up w w' := by
 go_enter Tryz.func140, Tryz.ntmps140
 go_wp2_with (go_at_call 187; refine (keys_up a b _).mono ?_; rintro e w1 ⟨rfl, hb, hd⟩)
 go_ret
 exact ⟨rfl, below2 (by go_grown) hb, hd⟩
/-- the closure of Winners -/
def cmpKW (a b : Key) : Int := if keyLt a b = true then -1 else 1
theorem cmpKW_iff (a b : Key) : decide (cmpKW a b < 0) = keyLt a b := by
 unfold cmpKW
 cases keyLt a b <;> rfl
theorem winCmp_up (a b : Key) (w : World) :
 Calls Tryz.prog 139 #[.agg #[.string a.name, .string a.domain, .string a.path], .agg #[.string b.name, .string b.domain, .string b.path]] w fun e w' => e = .returned (.int .i64 (cmpKW a b)) ∧ Up w w' := by
 have hK := fun (X : World) => keyLess_up a b X
 have HC : Hid (cmpKW a b = if keyLt a b = true then -1 else 1) := rfl
 generalize cmpKW a b = c at *
 cases hk : keyLt a b with
 | true =>
   rw [hk] at hK
   have HE : Hid (c = -1) := by unfold Hid; rw [HC.out, hk]; rfl
   have HK := Lib.hid hK
   clear hK hk HC
   go_enter Tryz.func139, Tryz.ntmps139
   go_wp2_with (go_at_call 140; (with_reducible refine (HK.out _).mono ?_); rintro e w1 ⟨rfl, hb, hd⟩)
   go_ret
   exact ⟨by rw [HE.out]; rfl, below2 (by go_grown) hb, hd⟩
 | false =>
   rw [hk] at hK
   have HE : Hid (c = 1) := by unfold Hid; rw [HC.out, hk]; rfl
   have HK := Lib.hid hK
   clear hK hk HC
   go_enter Tryz.func139, Tryz.ntmps139
   go_wp2_with (go_at_call 140; (with_reducible refine (HK.out _).mono ?_); rintro e w1 ⟨rfl, hb, hd⟩)
   go_ret
   exact ⟨by rw [HE.out]; rfl, below2 (by go_grown) hb, hd⟩
instance : Inhabited Key := ⟨⟨ByteArray.empty, ByteArray.empty, ByteArray.empty⟩⟩
def encKey (k : Key) : List Value := [.string k.name, .string k.domain, .string k.path]
def keyVals (l : List Key) : List Value := l.flatMap fun k => [.string k.name, .string k.domain, .string k.path]
theorem swoKey : Go.Sort.SWO (ltOf cmpKW) := by
 have e : ∀ x y, ltOf cmpKW x y = keyLt x y := fun x y => cmpKW_iff x y
 refine ⟨fun x => by rw [e]; exact keyLt_irrefl x, fun x y z h k => ?_, fun x y z h k => ?_⟩
 ·rw [e] at h k ⊢; exact keyLt_trans h k
 ·rw [e] at h k ⊢
  cases hh : keyLt x z with
  | false => rfl
  | true =>
    by_cases hxy : x = y
    ·subst hxy; rw [k] at hh; cases hh
    ·have h1 := keyLt_total hxy h
     have h2 := keyLt_trans h1 hh
     rw [k] at h2; cases h2
theorem cmpLaysKey (blk off size : Nat) (w : World) : CmpLays Tryz.prog 139 #[] encKey 3 cmpKW blk off size w :=
 fun _ _ _ _ x y => (winCmp_up x y _).mono fun _ _ ⟨he, hu⟩ => ⟨he, hu.grown⟩
theorem sortsKey (base : Nat) (v : Value) (ks : List Key) (w : World) (hown : w.ownsRow base 39 3 v ks.length (keyVals ks)) (hl : ks.length ≤ 1073741824) :
 Calls Tryz.prog 138 #[v, .func (.func 139) #[] #[]] w fun e w' => e = .returned (.tuple #[]) ∧ ∃ ts : List Key, ts.Perm ks ∧ Go.Sort.SortedIn keyLt 0 ts.toArray.size ts.toArray ∧ w'.ownsRow base 39 3 v ks.length (keyVals ts) ∧ Fr (fun k => v.ownBlock = some k) w w' := by
 rcases hown.2 with ⟨rfl, hz⟩ | ⟨g, cap, cur, rfl, hbase, hgb, r1, r2, r3, r4⟩
 ·obtain rfl : ks = [] := List.eq_nil_of_length_eq_zero hz
  refine (AnyF.slices_SortFunc_none Tryz.sortKey none 0 _ w).mono ?_
  rintro e w' ⟨rfl, rfl⟩
  exact ⟨rfl, [], List.Perm.refl _, fun i j _ _ h => by simp at h, hown, Fr.refl _ _⟩
 ·have hH : Go.Sort.HoldsK encKey 3 w g 0 ks.toArray := holdsK_own (k := 3) (fun _ => rfl) (by decide) hgb r4
  have hgl : g < w.heap.size := (Array.getElem?_eq_some_iff.1 hgb).1
  have hc := AnyQ.slices_SortFunc Tryz.sortKey 3 Tryz.isAgg39 Tryz.sizeOf39 encKey (fun _ => rfl) (fun x v hv => by simp [encKey] at hv; rcases hv with rfl | rfl | rfl <;> rfl) cmpKW swoKey 139 #[] g 0 cap ks.toArray w (enters_of Tryz.func139 (by kernel_rfl) rfl) (cmpLaysKey g 0 _ w) hH hgl (by simp; omega)
  rw [List.size_toArray] at hc
  refine hc.mono ?_
  rintro e w' ⟨rfl, d', n, os, ⟨p1, p2, p3⟩, hs, rfl⟩
  have hd : d' = d'.toList.toArray := by simp
  have hsz : d'.size = ks.length := by simpa using p1
  have hperm : d'.toList.Perm ks := by
   have := p3
   rwa [show d'.extract 0 ks.length = d' by rw [← hsz]; simp, show ks.toArray.extract 0 ks.length = ks.toArray by simp] at this
  refine ⟨rfl, d'.toList, hperm, ?_, ?_, ?_⟩
  ·have e : ltOf cmpKW = keyLt := by funext x y; exact cmpKW_iff x y
   rw [e] at hs
   simpa [hsz] using hs
  ·have h9 := ownsRow_sortK (enc := encKey) (k := 3) (ts := d'.toList) (ss := ks) (n := n) (os := os) (fun _ => rfl) (by decide) (by simpa using hsz) hbase hgb r1 r2 r3
   rw [← hd] at h9
   exact h9
  ·exact (fr_sortK d').mono fun k _ hk => by subst hk; rfl
end Go.Proofs.YtpbobhfnglikmaaGreat
/- The map of events: Winners. Conditions: as in the text. -/
namespace Go.Proofs.YtpbobhfnglikmaaGreat
open Go.RowKit
theorem Tryz.infoKey : (Tryz.prog.info? 39).map (fun i => (i.zero, i.size, i.bytes)) = some (some (.agg #[.string ByteArray.empty, .string ByteArray.empty, .string ByteArray.empty]), 3, 48) := by kernel_rfl
theorem keyVals_snoc (l : List Key) (k : Key) : keyVals (l ++ [k]) = keyVals l ++ [.string k.name, .string k.domain, .string k.path] := by simp [keyVals]
theorem keyVals_get : ∀ (l : List Key) (i : Nat) (h : i < l.length), (keyVals l)[i * 3]? = some (.string l[i].name) ∧ (keyVals l)[i * 3 + 1]? = some (.string l[i].domain) ∧ (keyVals l)[i * 3 + 2]? = some (.string l[i].path)
 | [], i, h => by simp at h
 | d :: l, 0, _ => by simp [keyVals]
 | d :: l, i + 1, h => by
   have ih := keyVals_get l i (by simpa using h)
   have e : keyVals (d :: l) = [.string d.name, .string d.domain, .string d.path] ++ keyVals l := rfl
   rw [e, List.getElem?_append_right (by simp; omega), List.getElem?_append_right (by simp; omega), List.getElem?_append_right (by simp; omega)]
   simp only [List.length_cons, List.length_nil, List.getElem_cons_succ]
   rw [show (i + 1) * 3 - (0 + 1 + 1 + 1) = i * 3 by omega, show (i + 1) * 3 + 1 - (0 + 1 + 1 + 1) = i * 3 + 1 by omega, show (i + 1) * 3 + 2 - (0 + 1 + 1 + 1) = i * 3 + 2 by omega]
   exact ih
theorem keyCells_at {w : World} {a : Option Addr} {l : List Key} (h : CellsIn w a (keyVals l)) {k : Nat} (hk : k < l.length) :
 ∃ A off, a = some ⟨A, off, none⟩ ∧ w.cell? ⟨A, off + k * 3, none⟩ = some (.string l[k].name) ∧ w.cell? ⟨A, off + k * 3 + 1, none⟩ = some (.string l[k].domain) ∧ w.cell? ⟨A, off + k * 3 + 2, none⟩ = some (.string l[k].path) := by
 obtain ⟨g0, g1, g2⟩ := keyVals_get l k hk
 rcases h with h | ⟨A, off, h1, h2⟩
 ·rw [h] at g0; simp at g0
 ·exact ⟨A, off, h1, h2 _ _ g0, h2 _ _ g1, h2 _ _ g2⟩
theorem ATab.keyW {w : World} {b : Nat} {A : List (Key × Nat)} (h : ATab w b A) : ∀ k ∈ A.map (·.1), KeyW k := fun k hk => by
 obtain ⟨p, hp, rfl⟩ := List.mem_map.1 hk
 exact h.okk p hp
def RetKs (s : MS) (w : World) (e : Ending) (w' : World) : Prop :=
 ∃ (ts : List Key) (a : Option Addr) (ls : List EvIt) (cap : Nat), e = .returned (.slice a ls.length cap) ∧ EvsIn w' a ls ∧ evsOf ls = ts.map (fun k => (winOf (keyOfS s k)).1) ∧ ts.Perm (s.A.map (·.1)) ∧ (ts.Pairwise fun x y => keyLt x y = true) ∧ Below w.heap.size w w'
theorem mWinners_any {m : Nat} {b : MB} {s : MS} (w : World) (h : MpIn w m b s) (hi0 : MInv s) :
 Calls Tryz.prog 85 #[.pointer (some ⟨m, 0, none⟩)] w (RetKs s w) := by
 obtain ⟨i0, hi, hz0, hz1, hz2⟩ := info_parts Tryz.infoKey
 obtain ⟨c0, c1, c2, c3⟩ := four_cells h.cell
 have htab := h.alive
 have HH := Lib.hid h
 have HKW := Lib.hid htab.keyW
 have HND : Hid ((s.A.map (·.1)).Nodup) := List.pairwise_map.2 htab.apart
 have HI := Lib.hid hi0
 obtain ⟨iE, hiE, hE0, hE1, hE2⟩ := info_parts Tryz.infoEv
 have HBK := Lib.hid (h.low (foot_ab b s.A))
 have hbd := (hi0.bounds h).1
 clear c0 c2 c3 h
 go_enter Tryz.func85, Tryz.ntmps85
 go_wp2_with (at_range; refine wpList_range_tab kKey _ rfl _ 104 rfl 105 Tryz.underlying104 b.ab rfl htab ?_; intro w0 cnt0 hrg0 hb0 hs0)
 go_frame
 go_loopw [3] (fun v wr => ∃ rest cnt ks, TabIt Tryz.prog 39 keyVal KeyW mapV wr b.ab w.heap.size s.A rest cnt ∧ (ks ++ rest.map (·.1)).Perm (s.A.map (·.1)) ∧ wr.ownsRow (w.heap.size + 1) 39 3 v ks.length (keyVals ks) ∧ Below w.heap.size w wr) (fun _ wr => wr.rangeLeft b.ab w.heap.size)
 case atStart => exact ⟨s.A, _, [], hrg0, List.Perm.refl _, World.ownsRow_nil _ _ _ _, hb0⟩
 case round =>
  obtain ⟨rest, cnt, ks, hrg, hC, hown, hbw⟩ := hrel
  have hzw : w.heap.size + 1 ≤ wr.heap.size := by have := hrg.lt; omega
  have HLE := Lib.hid hrg.left_eq
  go_wp2_with (at_next; refine wpList_next_tab kKey _ rfl _ rfl b.ab w.heap.size cnt rfl hrg ?_ ?_)
  rotate_left
  ·intro x n rest' w2 cnt2 hperm hpm hrg2 hlt hg2 hs2 hen
   have hlen : ks.length < s.A.length := by
        have h1 := hC.length_eq
        have h2 := hperm.length_eq
        simp at h1 h2 ⊢
        omega
   have HC2 : Hid (((ks ++ [x]) ++ rest'.map (·.1)).Perm (s.A.map (·.1))) := by
        have h3 : (ks ++ rest.map (·.1)).Perm ((ks ++ [x]) ++ rest'.map (·.1)) := by
         have := (hperm.map (·.1)).append_left ks
         simpa using this
        exact h3.symm.trans hC
   have hNlt := hrg.lt
   have hown2 := hown.kept2 hg2 (fun g hg => by have := (hown.lt g hg).1; show ¬ g = w.heap.size; omega)
   have hb2 : Below w.heap.size w w2 := hbw.trans (hg2.below hbw.size (fun k hk => by rw [show k = w.heap.size from hk]; exact Nat.le_refl _))
   have hsz2 := hg2.size
   clear hs2 hown hrg hg2
   go_upto_region 7 with fail
   refine wp_name (fun W3 hW3 => ?_)
   have hb3 : Below w2.heap.size w2 W3 := by rw [hW3.out]; go_grown
   have y0 : W3.cell? ⟨w2.heap.size, 0, none⟩ = some (.string x.name) := by rw [hW3.out]; go_simp
   have y1 : W3.cell? ⟨w2.heap.size, 1, none⟩ = some (.string x.domain) := by rw [hW3.out]; go_simp
   have y2 : W3.cell? ⟨w2.heap.size, 2, none⟩ = some (.string x.path) := by rw [hW3.out]; go_simp
   clear hW3
   have hown3 := ownsRow_below hown2 hb3
   have hrg3 := hrg2.kept hb3
   have hsz3 := hb3.size
   have hbw3 : Below w.heap.size w W3 := hb2.trans (hb3.mono hb2.size)
   clear hown2 hrg2 hb2
   go_wp2_with (at_builtin; refine wpList_append_own _ rfl _ _ 179 rfl (w.heap.size + 1) 39 i0 (.agg #[.string ByteArray.empty, .string ByteArray.empty, .string ByteArray.empty]) 3 48 Tryz.underlying179 hi hz0 hz1 hz2 rfl (by decide) _ _ _ rfl (hown3.alloc _) ⟨W3.heap.size, 0, none⟩ 1 1 [.string x.name, .string x.domain, .string x.path] rfl rfl (cells_new _ _ _) (by simp [Value.oneCell']) (by unfold maxLen; omega) (by omega) (by simp; omega) ?_; intro v2 w4 hown4 hgrow _)
   have hb4 : Below W3.heap.size W3 (W3.alloc (.cells #[.string x.name, .string x.domain, .string x.path] 39)) := (Below.refl _ _).alloc (Nat.le_refl _) _
   have hrg4 : TabIt Tryz.prog 39 keyVal KeyW mapV w4 b.ab w.heap.size s.A rest' cnt2 := by
        have h4 := hrg3.kept hb4
        have hlo : b.ab < w.heap.size + 1 := by have := HBK.out; omega
        exact h4.block (hgrow.block _ h4.tab.lt (fun e => by have := (hown3.lt _ e.symm).1; omega)) (hgrow.block _ h4.lt (fun e => by have := (hown3.lt _ e.symm).1; omega))
   have HZ := Lib.hid (And.intro (show w4.ownsRow (w.heap.size + 1) 39 3 v2 (ks ++ [x]).length (keyVals (ks ++ [x])) by rw [keyVals_snoc, List.length_append]; exact hown4) (And.intro hrg4 ((hbw3.trans (hb4.mono hbw3.size)).grown hgrow (by simp; omega) (fun j hj => by have := (hown3.lt j hj).1; omega))))
   clear hown4 hrg4 hgrow hown3 hrg3 y0 y1 y2
   go_wp2
   go_roundw
   case rel => exact ⟨rest', cnt2, ks ++ [x], HZ.out.2.1, HC2.out, HZ.out.1, HZ.out.2.2⟩
   case measure => rw [HZ.out.2.1.left_eq, HLE.out]; exact hlt
  ·intro hr0
   subst hr0
   have hperm : ks.Perm (s.A.map (·.1)) := by simpa using hC
   have hkl : ks.length ≤ 1073741824 := by have := hperm.length_eq; simp at this; omega
   obtain ⟨v0, hv0⟩ : ∃ v0, v0 = u3 := ⟨_, rfl⟩
   rw [← hv0] at hown ⊢
   clear hv0 hrg hC HLE
   have HS := Lib.hid (sortsKey (w.heap.size + 1) v0 ks wr hown hkl)
   have HP := Lib.hid hperm
   have HO := Lib.hid hown
   clear hown hperm
   go_upto_region 9 with (go_at_call 138; (with_reducible refine HS.out.mono ?_); rintro e w1 ⟨rfl, ts, hts, hsrt, hownT, hfrT⟩)
   have hb1 : Below w.heap.size w w1 := hbw.trans (hfrT.below hbw.size (fun k hk => by have := (HO.out.lt k hk).1; omega))
   have htl : ts.length = ks.length := hts.length_eq
   rw [← htl] at hownT
   obtain ⟨aT, cT, rfl, hinT, _⟩ := own_cellsIn hownT
   have hpm : Hid (ts.Perm (s.A.map (·.1))) := hts.trans HP.out
   have HSr : Hid (ts.Pairwise fun x y => keyLt x y = true) := by
        have h5 := sorted_strict (lt := keyLt) (fun x y h k => keyLt_total h k) (d := ts.toArray) hsrt (by
         simp only []
         exact (hpm.out.nodup_iff).2 HND.out)
        unfold Hid
        simpa using h5
   have htk : ts.length ≤ 1073741824 := by omega
   have hm1 := HH.out.kept_w hb1
   clear hownT hfrT hsrt hts HS HO HP hkl hbw htl
   go_wp2
   go_loopw [29, 5] (fun i v wq => ∃ (k : Nat) (ls : List EvIt), i = .int .i64 k ∧ k ≤ ts.length ∧ EvsGr w1.heap.size v ls wq ∧ evsOf ls = (ts.take k).map (fun k => (winOf (keyOfS s k)).1) ∧ Below w1.heap.size w1 wq) (fun i _ _ => ts.length - (intOf i).toNat)
   case atStart => exact ⟨0, [], rfl, Nat.zero_le _, EvsGr.nil _ _, rfl, Below.refl _ _⟩
   case round =>
        obtain ⟨k, ls, rfl, hk, hgr, hev, hbr⟩ := hrel
        have HEV := Lib.hid hev
        clear hev
        by_cases hlt : k < ts.length
        ·obtain ⟨A, off, rfl, c0, c1, c2⟩ := keyCells_at (hinT.kept hbr) hlt
         have hkw := HKW.out _ (hpm.out.mem_iff.1 (List.getElem_mem hlt))
         have hzr := hbr.size
         have hr := hm1.kept_w hbr
         have HT : Hid ((ts.take (k + 1)).map (fun k => (winOf (keyOfS s k)).1) = (ts.take k).map (fun k => (winOf (keyOfS s k)).1) ++ [(winOf (keyOfS s ts[k])).1]) := by
          unfold Hid
          rw [List.take_add_one, List.getElem?_eq_getElem hlt, List.map_append]
          rfl
         have HLT := Lib.hid hlt
         have hlk : ls.length = k := by
          have := congrArg List.length HEV.out
          rw [evsOf_length, List.length_map, List.length_take] at this
          omega
         have hkl : k ≤ 1073741824 := by omega
         generalize ts[k] = x at *
         have HW := Lib.hid (fun (X : World) (h : MpIn X m b s) => mWinnerT_any x hkw X h HI.out)
         go_upto_region 13 with fail
         refine wp_name (fun V hV => ?_)
         have hbV : Below wr.heap.size wr V := by rw [hV.out]; go_grown
         have y0 : V.cell? ⟨wr.heap.size, 0, none⟩ = some (.string x.name) := by rw [hV.out]; go_simp
         have y1 : V.cell? ⟨wr.heap.size, 1, none⟩ = some (.string x.domain) := by rw [hV.out]; go_simp
         have y2 : V.cell? ⟨wr.heap.size, 2, none⟩ = some (.string x.path) := by rw [hV.out]; go_simp
         have hmV := hr.kept_w hbV
         have hgV := hgr.kept hbV
         have hbV1 : Below w1.heap.size w1 V := hbr.trans (hbV.mono hzr)
         clear hV hbV hr hgr c0 c1 c2 hkw
         generalize (winOf (keyOfS s x)) = R at *
         go_upto_region 14 with (first
          | (go_at_call 141; (with_reducible refine (HW.out _ hmV).mono ?_); rintro v w4 ⟨aw, cw, rfl, hdw, htw, hb4⟩)
          | (refine wpList_store_new 43 _ _ _ (evCells R.1 aw cw).toArray rfl rfl (by kernel_rfl) rfl (by kernel_rfl) ?_))
         refine wp_name (fun V5 hV5 => ?_)
         have hbA : Below w4.heap.size w4 V5 := by rw [hV5.out]; exact (Below.refl w4.heap.size w4).alloc (Nat.le_refl _) _
         have hR5 : V5.rangeAt w4.heap.size 0 (evCells R.1 aw cw) := by rw [hV5.out]; exact evCells_box R.1 aw cw w4 43
         have hgr5 := (hgV.kept hb4).kept hbA
         have hd5 := hdw.kept hbA
         have ht5 := htw.kept hbA
         have hb5 : Below w1.heap.size w1 V5 := (hbV1.trans (hb4.mono hbV1.size)).trans (hbA.mono (Nat.le_trans hbV1.size hb4.size))
         generalize w4.heap.size = B4 at *
         have HR := Lib.hid (And.intro hd5 (And.intro ht5 (And.intro hgr5 hb5)))
         have hown5 := hgr5.own
         have hz5 := hb5.size
         clear hV5 hbA hgV hdw htw hb4 hbV1 hmV y0 y1 y2 hd5 ht5 hgr5 hb5
         go_wp2_with (first
          | ((with_reducible refine wpList_load_evo _ B4 0 R.1 aw cw hR5 ?_ rfl ?_); exact rfl)
          | (refine wpList_buildOne rfl 28 43 _ rfl (evCells R.1 aw cw).toArray 19 rfl rfl (by decide) (by decide) Tryz.underlying28 (by kernel_rfl) (by kernel_rfl) ?_)
          | (at_builtin; go_loud (refine wpList_append_own_at _ rfl _ _ 28 rfl w1.heap.size 43 iE (.agg (evCells ev0 none 0).toArray) 19 176 Tryz.underlying28 hiE hE0 hE1 hE2 rfl (by decide) _ _ _ rfl (hown5.alloc _) ⟨V5.heap.size, 0, none⟩ 1 1 (evCells R.1 aw cw) rfl rfl (evs_new V5 R.1 aw cw _) (evCells_one _ _ _) (by unfold maxLen; omega) (by omega) (by simp; omega) ?_)))
         intro v' wf hownf hgrow _ _
         have hal : Below V5.heap.size V5 (V5.alloc (Obj.cells (evCells R.1 aw cw).toArray 43)) := (Below.refl _ _).alloc (Nat.le_refl _) _
         obtain ⟨hd5, ht5, hgr5, hb5⟩ := HR.out
         have hgN := EvsGr.app (x := (R.1, aw, cw)) (hgr5.kept hal) (show wf.ownsRow w1.heap.size 43 19 v' (ls.length + 1) (evItCells ls ++ itEv (R.1, aw, cw)) by rw [hlk]; exact hownf) hgrow (hd5.kept hal) (ht5.kept hal)
         have hbF : Below w1.heap.size w1 wf := (hb5.trans (hal.mono hz5)).grown hgrow (by have := hal.size; omega) (fun j hj => (hown5.lt j hj).1)
         have HZ := Lib.hid (And.intro hgN hbF)
         clear hgN hbF hownf hgrow hal hown5 hR5 hd5 ht5 hgr5 hb5
         go_wp2
         go_roundw
         case rel => exact ⟨k + 1, ls ++ [(R.1, aw, cw)], by go_num, HLT.out, HZ.out.1, by
          rw [HT.out, ← HEV.out]
          show (ls ++ [(R.1, aw, cw)]).map (·.1) = _
          rw [List.map_append]
          rfl, HZ.out.2⟩
         case measure => have := HLT.out; simp [intOf] <;> omega
        ·obtain rfl : k = ts.length := by omega
         obtain ⟨aF, cF, rfl, hF⟩ := hgr.evs
         have hE : evsOf ls = ts.map (fun k => (winOf (keyOfS s k)).1) := by
          have hE0 := HEV.out
          rwa [List.take_length] at hE0
         have HE := Lib.hid hE
         clear hE hgr
         go_wp2
         all_goals
          go_ret
          exact ⟨ts, aF, ls, cF, rfl, hF, HE.out, hpm.out, HSr.out, hb1.trans (hbr.mono hb1.size)⟩
end Go.Proofs.YtpbobhfnglikmaaGreat
