/- Bytes that grow: slices.Clone, varint.Put. Conditions: at most 2^30 bytes. -/
import Derived.Test.YtdlmbflhbecggaaGreatChecked
import Derived.Test.YtdlmbflhbecggaaGreatKit
import Derived.Maps.AppendAt
import Derived.Lib.SliceRun
import Derived.Deep.MidRow
set_option linter.unusedSimpArgs false
set_option linter.unusedVariables false
set_option linter.unnecessarySimpa false
set_option maxHeartbeats 16000000
set_option maxRecDepth 100000
namespace Go.Proofs.YtdlmbflhbecggaaGreat
open Go.RowKit
def aW (l : Bytes) : List Value := l.map fun x => .int .u8 x.toNat
/-- a slice of bytes reads as l -/
def BytesIn (w : World) (a : Option Addr) (l : Bytes) : Prop := l = [] ∨ ∃ A off, a = some ⟨A, off, none⟩ ∧ BytesAt w A off l
theorem BytesIn.kept {w w' : World} {a : Option Addr} {l : Bytes} (h : BytesIn w a l) (hb : Below w.heap.size w w') : BytesIn w' a l := by
 rcases h with h | ⟨A, off, h1, h2⟩
 ·exact Or.inl h
 ·exact Or.inr ⟨A, off, h1, h2.below hb⟩
theorem bJ (l : Bytes) : (aW l).length = l.length := by simp [aW]
theorem dF (l m : Bytes) : aW (l ++ m) = aW l ++ aW m := by simp [aW]
theorem dw (l : Bytes) : ∀ u ∈ aW l, u.oneCell' = true := by
 intro u hu
 simp only [aW, List.mem_map] at hu
 obtain ⟨x, _, rfl⟩ := hu
 rfl
theorem BytesAt.news {w : World} {A off : Nat} {l : Bytes} (h : BytesAt w A off l) : ∀ j u, (aW l)[j]? = some u → w.cell? ((⟨A, off, none⟩ : Addr).add j) = some u := by
 intro j u hj
 obtain ⟨hj', rfl⟩ := List.getElem?_eq_some_iff.1 hj
 rw [bJ] at hj'
 rw [Addr.add_mid]
 rw [h j hj']
 simp [aW]
/-- what hands back bytes in memory of its own -/
def eH (l : Bytes) (w : World) (e : Ending) (w' : World) : Prop :=
 ∃ v, e = .returned v ∧ w'.ownsRow w.heap.size 5 1 v l.length (aW l) ∧ Below w.heap.size w w'
theorem Tryz.infoByte : (Tryz.prog.info? 5).map (fun i => (i.zero, i.size, i.bytes)) = some (some (.int .u8 0), 1, 1) := by kernel_rfl
theorem qL (a : Option Addr) (cap : Nat) (l : Bytes) (w : World) (hl : l.length ≤ 1073741824) (h : BytesIn w a l) :
 Calls Tryz.prog 132 #[.slice a l.length cap] w (eH l w) := by
 obtain ⟨i0, hi, hz0, hz1, hz2⟩ := info_parts Tryz.infoByte
 have hnil := fun (W : World) => Lib.run_eql_slice_nil (P := Tryz.prog) W 22 5 a l.length cap 0 0 Tryz.underlying22
 cases a with
 | none =>
   have hl0 : l = [] := by rcases h with h | ⟨A, off, h1, _⟩; exact h; cases h1
   subst hl0
   simp only [List.length_nil] at hnil ⊢
   go_enter Tryz.func132, Tryz.ntmps132
   go_wp2
   go_ret
   exact ⟨_, rfl, World.ownsRow_nil _ _ _ _, Below.refl _ _⟩
 | some ad =>
   have hnews : ∀ j u, (aW l)[j]? = some u → w.cell? (ad.add j) = some u := by
    rcases h with rfl | ⟨A, off, h1, h2⟩
    ·intro j u hj; simp [aW] at hj
    ·obtain rfl : ad = ⟨A, off, none⟩ := by simpa using h1
     exact h2.news
   have HN : Hid (∀ j u, (aW l)[j]? = some u → (w.alloc (Obj.cells #[] 5)).cell? (ad.add j) = some u) := fun j u hj => kept ((Below.refl _ _).alloc (Nat.le_refl _) _) (hnews j u hj)
   have hown : (w.alloc (Obj.cells #[] 5)).ownsRow w.heap.size 5 1 (.slice (some ⟨w.heap.size, 0, none⟩) 0 0) 0 [] := World.ownsRow_made _ _ _ (Nat.le_refl _) (by decide) rfl
   have hbv := bJ l
   clear hnews h
   go_enter Tryz.func132, Tryz.ntmps132
   go_wp2_with (at_builtin; go_loud (refine wpList_append_own _ rfl _ _ 22 rfl w.heap.size 5 i0 (.int .u8 0) 1 1 Tryz.underlying22 hi hz0 hz1 hz2 rfl (by decide) _ _ _ rfl hown ad l.length cap (aW l) rfl (by rw [hbv]; simp) HN.out (dw l) (by unfold maxLen; omega) (by omega) (by simp) ?_))
   intro v' w2 hown2 hgrow _
   have hb2 := ((Below.refl w.heap.size w).alloc (Nat.le_refl _) (Obj.cells #[] 5)).grown hgrow (by simp) (fun k hk => (hown.lt k hk).1)
   go_wp2
   go_ret
   exact ⟨_, rfl, by simpa using hown2, hb2⟩
/-- a number's short bytes -/
def aN (n : Nat) : Bytes := if n < 128 then [UInt8.ofNat n] else UInt8.ofNat (n % 128 + 128) :: aN (n / 128)
theorem kG (n : Nat) (h : n < 128) : aN n = [UInt8.ofNat n] := by rw [aN, if_pos h]
theorem oQ (n : Nat) (h : ¬ n < 128) : aN n = UInt8.ofNat (n % 128 + 128) :: aN (n / 128) := by rw [aN, if_neg h]
theorem yu : ∀ (k n : Nat), n < 128 ^ (k + 1) → (aN n).length ≤ k + 1
 | 0, n, h => by rw [kG n (by simpa using h)]; simp
 | k + 1, n, h => by
   by_cases h1 : n < 128
   ·rw [kG n h1]; simp
   ·rw [oQ n h1]
    have := yu k (n / 128) (by rw [Nat.pow_succ] at h; omega)
    simp; omega
theorem aV (n : Nat) (h : n < 18446744073709551616) : (aN n).length ≤ 10 := yu 9 n (by omega)
theorem JG : ∀ x : Fin 256, bits BinOp.or IntKind.u8 ((x.val : Nat) : Int) 128 = ((x.val % 128 + 128 : Nat) : Int) := by decide +kernel
theorem Qr (m : Nat) : bits BinOp.or IntKind.u8 ((m : Int) % 256) 128 = ((m % 128 + 128 : Nat) : Int) := by
 have h := JG ⟨m % 256, by omega⟩
 simp only at h
 rw [show ((m % 256 : Nat) : Int) = (m : Int) % 256 by omega] at h
 rw [h]; congr 1; omega
theorem z41 {p : Prop} (h : p := by
 go_wp2_with (at_builtin; go_loud (refine wpList_append_own _ rfl _ _ 22 rfl w.heap.size 5 i0 (.int .u8 0) 1 1 Tryz.underlying22 hi hz0 hz1 hz2 rfl (by decide) _ _ _ rfl (hown2.alloc _) ⟨wr.heap.size, 0, none⟩ 1 1 [.int .u8 (m : Int)] rfl rfl (cell_one_new _ _ _) (by simp [Value.oneCell']) (by unfold maxLen; omega) (by omega) (by simp; omega) ?_))
 intro v' w2 hown3 hgrow _
 have hb3 := (nJ.alloc hzw (Obj.cells #[.int .u8 (m : Int)] 5)).grown hgrow (by simp; omega) (fun k hk => (hown2.lt k hk).1)
 go_wp2
 go_ret
 exact ⟨_, rfl, by rw [hx.out] at hown3; rw [HP.out, hS.out]; simpa [dF, aW] using hown3, hb3⟩) : p := h
theorem DY (a : Option Addr) (cap : Nat) (l : Bytes) (n : Nat) (w : World) (hl : l.length ≤ 536870912) (hn : n < 18446744073709551616) (h : BytesIn w a l) :
 Calls Tryz.prog 89 #[.slice a l.length cap, .int .u64 n] w (eH (l ++ aN n) w) := by
 obtain ⟨i0, hi, hz0, hz1, hz2⟩ := info_parts Tryz.infoByte
 have HC := Lib.hid (fun (W : World) (h : BytesIn W a l) => qL a cap l W (by omega) h)
 go_enter Tryz.func89, Tryz.ntmps89
 go_wp2_with (go_at_call 132; refine (HC.out _ h).mono ?_; rintro e w1 ⟨v, rfl, hown, hbel⟩)
 go_loopw [1, 5] (fun x out wr => ∃ (m : Nat) (d : Bytes), x = .int .u64 m ∧ m ≤ n ∧ d.length + (aN m).length = l.length + (aN n).length ∧ l ++ aN n = d ++ aN m ∧ wr.ownsRow w.heap.size 5 1 out d.length (aW d) ∧ Below w.heap.size w wr) (fun x _ _ => (intOf x).toNat)
 case atStart => exact ⟨n, l, rfl, Nat.le_refl _, rfl, rfl, hown, hbel⟩
 case round =>
  obtain ⟨m, d, rfl, hm, hlen, hpre, hown2, nJ⟩ := hrel
  have HP := Lib.hid hpre
  clear hpre
  have hzw := nJ.size
  by_cases h1 : m < 128
  ·have hS := Lib.hid (kG m h1)
   have hl1 : d.length ≤ l.length + 10 := by have := aV n hn; omega
   have hx : Hid (Value.int .u8 (m : Int) = .int .u8 (UInt8.ofNat m).toNat) := by unfold Hid; congr 1; rw [UInt8.toNat_ofNat']; omega
   clear hlen
   exact z41
  ·have hS := Lib.hid (oQ m h1)
   have hl0 : (aN m).length = (aN (m / 128)).length + 1 := by rw [hS.out]; simp
   have hl1 : d.length ≤ l.length + 10 := by have := aV n hn; omega
   have hl2 : (d ++ [UInt8.ofNat (m % 128 + 128)]).length + (aN (m / 128)).length = l.length + (aN n).length := by simp; omega
   have HL2 := Lib.hid hl2
   have hbo := Qr m
   have hx : Hid (Value.int .u8 ((m : Int) % 128 + 128) = .int .u8 (UInt8.ofNat (m % 128 + 128)).toNat) := by unfold Hid; congr 1; rw [UInt8.toNat_ofNat']; omega
   clear hlen hl0 hl2
   go_wp2_with (at_builtin; go_loud (refine wpList_append_own _ rfl _ _ 22 rfl w.heap.size 5 i0 (.int .u8 0) 1 1 Tryz.underlying22 hi hz0 hz1 hz2 rfl (by decide) _ _ _ rfl (hown2.alloc _) ⟨wr.heap.size, 0, none⟩ 1 1 [_] rfl rfl (cell_one_new _ _ _) (by simp [Value.oneCell']) (by unfold maxLen; omega) (by omega) (by simp; omega) ?_))
   intro v' w2 hown3 hgrow _
   have hb3 := (nJ.alloc hzw _).grown hgrow (by simp; omega) (fun k hk => (hown2.lt k hk).1)
   go_wp2
   go_roundw
   case rel => exact ⟨m / 128, d ++ [UInt8.ofNat (m % 128 + 128)], by go_num, by omega, HL2.out, by rw [HP.out, hS.out]; simp, by rw [hx.out] at hown3; simpa [dF, aW] using hown3, hb3⟩
   case measure => exact z67
theorem z127 {p : Prop} (h : p := by
 rcases h.2 with hn | ⟨g, cap, cur, hv, hbs, rest⟩
 ·exact ⟨h.1, .inl hn⟩
 ·exact ⟨h.1, .inr ⟨g, cap, cur, hv, Nat.le_trans hb hbs, rest⟩⟩) : p := h
end Go.Proofs.YtdlmbflhbecggaaGreat
