/- A slice of keys under slices.SortFunc, by match.Less. Conditions: at most 2^30 of them. -/
import Derived.Test.YtpbobhfnglikmaaGreatSrtK
import Derived.Test.YtpbobhfnglikmaaGreatKeyOrd
set_option linter.unusedSimpArgs false
set_option linter.unusedVariables false
set_option linter.unnecessarySimpa false
namespace Go.Proofs.YtpbobhfnglikmaaGreat
open Go.RowKit Go.Shelf
set_option maxHeartbeats 1000000 in
theorem keys_up (a b : Key) (w : World) :
 Calls Tryz.prog 187 #[.agg #[.string a.name, .string a.domain, .string a.path], .agg #[.string b.name, .string b.domain, .string b.path]] w fun e w' => e = .returned (.int .i64 (cmpKey a b)) ∧ Up w w' := by
 go_enter Tryz.func187, Tryz.ntmps187
 go_wp2
 go_region_held3 (fun w' => w'.cell? ⟨w.heap.size, 0, none⟩ = some (.string a.name) ∧ w'.cell? ⟨w.heap.size, 1, none⟩ = some (.string a.domain) ∧ w'.cell? ⟨w.heap.size, 2, none⟩ = some (.string a.path) ∧ w'.cell? ⟨w.heap.size+1, 0, none⟩ = some (.string b.name) ∧ w'.cell? ⟨w.heap.size+1, 1, none⟩ = some (.string b.domain) ∧ w'.cell? ⟨w.heap.size+1, 2, none⟩ = some (.string b.path)) (go_keep)
  (first
   | (go_at_call 232; refine (strCompare_any _ _ _).mono ?_; rintro e w1 ⟨rfl, rfl⟩)
   | (go_at_call 199; go_call or3_any (cmpS a.name b.name) (cmpS a.domain b.domain) (cmpS a.path b.path) as e w1 ⟨rfl, rfl⟩))
 go_wp2
 go_ret
 exact ⟨rfl, by go_grown, Nat.le_succ _⟩
set_option maxHeartbeats 1000000 in
theorem keyLess_up (a b : Key) (w : World) :
 Calls Tryz.prog 140 #[.agg #[.string a.name, .string a.domain, .string a.path], .agg #[.string b.name, .string b.domain, .string b.path]] w fun e w' => e = .returned (.bool (keyLt a b)) ∧ Up w w' := by
 go_enter Tryz.func140, Tryz.ntmps140
 go_wp2_with (go_at_call 187; refine (keys_up a b _).mono ?_; rintro e w1 ⟨rfl, hb, hd⟩)
 go_ret
 exact ⟨rfl, below2 (by go_grown) hb, hd⟩
/-- the closure of Winners -/
def cmpKW (a b : Key) : Int := if keyLt a b = true then -1 else 1
theorem cmpKW_iff (a b : Key) : decide (cmpKW a b < 0) = keyLt a b := by
 unfold cmpKW
 cases keyLt a b <;> rfl
set_option maxHeartbeats 1000000 in
theorem winCmp_up (a b : Key) (w : World) :
 Calls Tryz.prog 139 #[.agg #[.string a.name, .string a.domain, .string a.path], .agg #[.string b.name, .string b.domain, .string b.path]] w fun e w' => e = .returned (.int .i64 (cmpKW a b)) ∧ Up w w' := by
 have hK := fun (X : World) => keyLess_up a b X
 have HC : Hid (cmpKW a b = if keyLt a b = true then -1 else 1) := rfl
 generalize cmpKW a b = c at *
 cases hk : keyLt a b with
 | true =>
   rw [hk] at hK
   have HE : Hid (c = -1) := by unfold Hid; rw [HC.out, hk]; rfl
   have HK := Lib.hid hK
   clear hK hk HC
   go_enter Tryz.func139, Tryz.ntmps139
   go_wp2_with (go_at_call 140; (with_reducible refine (HK.out _).mono ?_); rintro e w1 ⟨rfl, hb, hd⟩)
   go_ret
   exact ⟨by rw [HE.out]; rfl, below2 (by go_grown) hb, hd⟩
 | false =>
   rw [hk] at hK
   have HE : Hid (c = 1) := by unfold Hid; rw [HC.out, hk]; rfl
   have HK := Lib.hid hK
   clear hK hk HC
   go_enter Tryz.func139, Tryz.ntmps139
   go_wp2_with (go_at_call 140; (with_reducible refine (HK.out _).mono ?_); rintro e w1 ⟨rfl, hb, hd⟩)
   go_ret
   exact ⟨by rw [HE.out]; rfl, below2 (by go_grown) hb, hd⟩
instance : Inhabited Key := ⟨⟨ByteArray.empty, ByteArray.empty, ByteArray.empty⟩⟩
def encKey (k : Key) : List Value := [.string k.name, .string k.domain, .string k.path]
def keyVals (l : List Key) : List Value := l.flatMap fun k => [.string k.name, .string k.domain, .string k.path]
theorem swoKey : Go.Sort.SWO (ltOf cmpKW) := by
 have e : ∀ x y, ltOf cmpKW x y = keyLt x y := fun x y => cmpKW_iff x y
 refine ⟨fun x => by rw [e]; exact keyLt_irrefl x, fun x y z h k => ?_, fun x y z h k => ?_⟩
 ·rw [e] at h k ⊢; exact keyLt_trans h k
 ·rw [e] at h k ⊢
  cases hh : keyLt x z with
  | false => rfl
  | true =>
    by_cases hxy : x = y
    ·subst hxy; rw [k] at hh; cases hh
    ·have h1 := keyLt_total hxy h
     have h2 := keyLt_trans h1 hh
     rw [k] at h2; cases h2
theorem cmpLaysKey (blk off size : Nat) (w : World) : CmpLays Tryz.prog 139 #[] encKey 3 cmpKW blk off size w :=
 fun _ _ _ _ x y => (winCmp_up x y _).mono fun _ _ ⟨he, hu⟩ => ⟨he, hu.grown⟩
theorem sortsKey (base : Nat) (v : Value) (ks : List Key) (w : World) (hown : w.ownsRow base 39 3 v ks.length (keyVals ks)) (hl : ks.length ≤ 1073741824) :
 Calls Tryz.prog 138 #[v, .func (.func 139) #[] #[]] w fun e w' => e = .returned (.tuple #[]) ∧ ∃ ts : List Key, ts.Perm ks ∧ Go.Sort.SortedIn keyLt 0 ts.toArray.size ts.toArray ∧ w'.ownsRow base 39 3 v ks.length (keyVals ts) ∧ Fr (fun k => v.ownBlock = some k) w w' := by
 rcases hown.2 with ⟨rfl, hz⟩ | ⟨g, cap, cur, rfl, hbase, hgb, r1, r2, r3, r4⟩
 ·obtain rfl : ks = [] := List.eq_nil_of_length_eq_zero hz
  refine (AnyF.slices_SortFunc_none Tryz.sortKey none 0 _ w).mono ?_
  rintro e w' ⟨rfl, rfl⟩
  exact ⟨rfl, [], List.Perm.refl _, fun i j _ _ h => by simp at h, hown, Fr.refl _ _⟩
 ·have hH : Go.Sort.HoldsK encKey 3 w g 0 ks.toArray := holdsK_own (k := 3) (fun _ => rfl) (by decide) hgb r4
  have hgl : g < w.heap.size := (Array.getElem?_eq_some_iff.1 hgb).1
  have hc := AnyQ.slices_SortFunc Tryz.sortKey 3 Tryz.isAgg39 Tryz.sizeOf39 encKey (fun _ => rfl) (fun x v hv => by simp [encKey] at hv; rcases hv with rfl | rfl | rfl <;> rfl) cmpKW swoKey 139 #[] g 0 cap ks.toArray w (enters_of Tryz.func139 (by kernel_rfl) rfl) (cmpLaysKey g 0 _ w) hH hgl (by simp; omega)
  rw [List.size_toArray] at hc
  refine hc.mono ?_
  rintro e w' ⟨rfl, d', n, os, ⟨p1, p2, p3⟩, hs, rfl⟩
  have hd : d' = d'.toList.toArray := by simp
  have hsz : d'.size = ks.length := by simpa using p1
  have hperm : d'.toList.Perm ks := by
   have := p3
   rwa [show d'.extract 0 ks.length = d' by rw [← hsz]; simp, show ks.toArray.extract 0 ks.length = ks.toArray by simp] at this
  refine ⟨rfl, d'.toList, hperm, ?_, ?_, ?_⟩
  ·have e : ltOf cmpKW = keyLt := by funext x y; exact cmpKW_iff x y
   rw [e] at hs
   simpa [hsz] using hs
  ·have h9 := ownsRow_sortK (enc := encKey) (k := 3) (ts := d'.toList) (ss := ks) (n := n) (os := os) (fun _ => rfl) (by decide) (by simpa using hsz) hbase hgb r1 r2 r3
   rw [← hd] at h9
   exact h9
  ·exact (fr_sortK d').mono fun k _ hk => by subst hk; rfl
end Go.Proofs.YtpbobhfnglikmaaGreat
