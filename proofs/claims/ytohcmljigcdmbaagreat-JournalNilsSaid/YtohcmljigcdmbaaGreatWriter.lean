/- The writer of package pack. Conditions: at most 2^29 bytes. -/
import Derived.Test.YtohcmljigcdmbaaGreatCel
import Derived.OneCell
import Derived.Lib.AppendStr
import Derived.Lib.Zigzag
import Derived.IntWalk
import Derived.Test.YtohcmljigcdmbaaGreatDot
import Derived.Test.YtohcmljigcdmbaaGreatKit
set_option linter.unusedSimpArgs false
set_option linter.unusedVariables false
set_option linter.unnecessarySimpa false
set_option maxHeartbeats 16000000
set_option maxRecDepth 100000
namespace Go.Proofs.YtohcmljigcdmbaaGreat
open Go.RowKit
theorem grow_grow {S : Nat → Prop} {a b : World} (h : a.heap.size ≤ b.heap.size) : ∀ k, grow (grow S a) b k → grow S a k := by
 rintro k ((g | g) | g)
 ·exact Or.inl g
 ·exact Or.inr g
 ·exact Or.inr (by omega)
/-- block B holds a writer of l, whose memory lies in S -/
structure Wr (w : World) (S : Nat → Prop) (B : Nat) (l : Bytes) : Prop where
 inS : S B
 ex : ∃ v base, w.heap[B]? = some (.cells #[v] 126 (0, 0)) ∧ w.ownsRow base 5 1 v l.length (byteVals l) ∧ ∀ g, v.ownBlock = some g → S g ∧ g ≠ B
theorem Wr.mono {w : World} {S T : Nat → Prop} {B : Nat} {l : Bytes} (h : Wr w S B l) (hST : ∀ k, S k → T k) : Wr w T B l := by
 obtain ⟨h1, v, base, h2, h3, h4⟩ := h
 exact ⟨hST _ h1, v, base, h2, h3, fun g hg => ⟨hST _ (h4 g hg).1, (h4 g hg).2⟩⟩
theorem Wr.frame {w w' : World} {S T : Nat → Prop} {B : Nat} {l : Bytes} (h : Wr w S B l) (hf : Fr T w w') (hST : ∀ k, S k → ¬ T k) : Wr w' S B l := by
 obtain ⟨h1, v, base, h2, h3, h4⟩ := h
 have hk : ∀ k, k < w.heap.size → S k → w'.heap[k]? = w.heap[k]? := fun k hk hs => hf.block k hk (hST k hs)
 refine ⟨h1, v, base, ?_, ⟨h3.1, ?_⟩, h4⟩
 ·rw [hk B (lt_of_block h2) h1]; exact h2
 ·rcases h3.2 with hn | ⟨g, cap, cur, rfl, hbs, hgg, rest⟩
  ·exact .inl hn
  ·exact .inr ⟨g, cap, cur, rfl, hbs, by rw [hk g (lt_of_block hgg) (h4 g rfl).1]; exact hgg, rest⟩
/-- the bytes that a row of one's own holds, read -/
theorem own_bytes {w : World} {base : Nat} {v : Value} {l : Bytes} (h : w.ownsRow base 5 1 v l.length (byteVals l)) : ∃ a cap, v = .slice a l.length cap ∧ BytesIn w a l := by
 have hc := fun g (hg : v.ownBlock = some g) => h.cells hg
 rcases h.2 with ⟨rfl, hn⟩ | ⟨g, cap, cur, rfl, rest⟩
 ·obtain rfl : l = [] := List.length_eq_zero_iff.1 hn
  exact ⟨none, 0, rfl, Or.inl rfl⟩
 ·refine ⟨_, cap, rfl, Or.inr ⟨g, 0, rfl, fun j hj => ?_⟩⟩
  have := hc g rfl j (.int .u8 l[j].toNat) (by simp [byteVals, hj])
  rw [Addr.add_mid] at this
  exact this
/-- behind a writer's method -/
def RetWr (S : Nat → Prop) (B : Nat) (l : Bytes) (w : World) (e : Ending) (w' : World) : Prop :=
 e = .returned (.pointer (some ⟨B, 0, none⟩)) ∧ Wr w' (grow S w) B l ∧ Fr S w w'
/-- the writer's new slice is stored -/
theorem wr_store {w w1 : World} {S : Nat → Prop} {B : Nat} {v0 v : Value} {l : Bytes} (hS : S B) (h0 : w.heap[B]? = some (.cells #[v0] 126 (0, 0)))
 (hb : Below w.heap.size w w1) (hown : w1.ownsRow w.heap.size 5 1 v l.length (byteVals l)) :
 Wr (w1.setCell ⟨B, 0, none⟩ v) (grow S w) B l ∧ Fr S w (w1.setCell ⟨B, 0, none⟩ v) := by
 have hB := lt_of_block h0
 have h1 : w1.heap[B]? = some (.cells #[v0] 126 (0, 0)) := by rw [hb.block B hB]; exact h0
 refine ⟨⟨Or.inl hS, v, w.heap.size, one_setCell h1, ownsRow_setCell_below hown hB v, fun g hg => ?_⟩, ⟨hb.os, hb.tape, hb.output, ?_, ?_⟩⟩
 ·have := hown.lt g hg
  exact ⟨Or.inr this.1, by omega⟩
 ·simp only [World.setCell, Array.size_modify]; exact hb.size
 ·intro k hk hs
  rw [Below.heap_setCell _ _ _ _ (fun e => hs (by rw [e]; exact hS))]
  exact hb.block k hk
theorem Num_any (S : Nat → Prop) (B : Nat) (l : Bytes) (n : Nat) (w : World) (hl : l.length ≤ 536870912) (hn : n < 18446744073709551616) (h : Wr w S B l) :
 Calls Tryz.prog 76 #[.pointer (some ⟨B, 0, none⟩), .int .u64 n] w (RetWr S B (l ++ shortB n) w) := by
 obtain ⟨hS, v, base, h0, hown, hg⟩ := h
 obtain ⟨a, cap, rfl, hin⟩ := own_bytes hown
 have hc := cell_of_one h0
 have hP := Lib.hid (Put_any a cap l n w hl hn hin)
 have H0 := Lib.hid h0
 clear h0 hown hg hin
 go_enter Tryz.func76, Tryz.ntmps76
 go_wp2_with (go_at_call 115; refine hP.out.mono ?_; rintro e w1 ⟨v', rfl, hown1, hb⟩; obtain ⟨a1, cap1, rfl, hin1⟩ := own_bytes hown1; have hcB := kept hb hc; have hfB := (hb.frozen (p := ⟨B, 0, none⟩) (lt_of_block H0.out)).trans (free_of_one H0.out))
 go_ret
 have := wr_store hS H0.out hb hown1
 rw [List.length_append] at this
 exact ⟨rfl, this.1, this.2⟩
def flagsN : List Bool → Nat
 | [] => 0
 | b :: r => (if b then 1 else 0) + 2 * flagsN r
def BoolsAt (w : World) (b : Nat) (l : List Bool) : Prop := ∀ j (h : j < l.length), w.cell? ⟨b, j, none⟩ = some (.bool l[j])
theorem flagsN_lt : ∀ l : List Bool, flagsN l < 2 ^ l.length
 | [] => by simp [flagsN]
 | b :: r => by
   have := flagsN_lt r
   simp only [flagsN, List.length_cons, Nat.pow_succ]
   split <;> omega
theorem flagsN_snoc : ∀ (l : List Bool) (b : Bool), flagsN (l ++ [b]) = flagsN l + (if b then 2 ^ l.length else 0)
 | [], b => by cases b <;> simp [flagsN]
 | a :: r, b => by
   simp only [List.cons_append, flagsN, flagsN_snoc r b, List.length_cons, Nat.pow_succ]
   cases b <;> simp <;> omega
theorem orpow_fin : ∀ k : Fin 8, ∀ c : Fin 256, c.val < 2 ^ k.val → bits BinOp.or IntKind.u8 ((c.val : Nat) : Int) (2 ^ k.val % 256) = ((c.val + 2 ^ k.val : Nat) : Int) := by decide +kernel
theorem orpow (k c : Nat) (hk : k < 8) (hc : c < 2 ^ k) : bits BinOp.or IntKind.u8 (c : Int) (2 ^ k % 256) = ((c + 2 ^ k : Nat) : Int) := by
 have h2 : 2 ^ k ≤ 2 ^ 7 := Nat.pow_le_pow_right (by omega) (by omega)
 exact orpow_fin ⟨k, hk⟩ ⟨c, by omega⟩ hc
theorem app_frame {w w2 : World} {S : Nat → Prop} {B : Nat} {v v0 : Value} {o : Obj} {t : TypeId} (h0 : w.heap[B]? = some (.cells #[v0] t (0, 0)))
 (hg : ∀ g, v.ownBlock = some g → S g ∧ g ≠ B) (hgrow : (w.alloc o).grownBy w2 v.ownBlock) : Fr S w w2 ∧ w2.heap[B]? = some (.cells #[v0] t (0, 0)) := by
 have hb : ∀ k, k < w.heap.size → some k ≠ v.ownBlock → w2.heap[k]? = w.heap[k]? := fun k hk hne =>
  (hgrow.block k (by simp; omega) hne).trans (Below.heap_alloc w o k hk)
 refine ⟨⟨hgrow.os, hgrow.tape, hgrow.output, ?_, fun k hk hs => hb k hk (fun e => hs (hg k e.symm).1)⟩, ?_⟩
 ·have := hgrow.size; simp at this; omega
 ·rw [hb B (lt_of_block h0) (fun e => (hg B e.symm).2 rfl)]; exact h0
theorem own_rebase {w : World} {base : Nat} {e : TypeId} {size : Nat} {v : Value} {n : Nat} {xs : List Value} (h : w.ownsRow base e size v n xs) : ∃ b, b ≤ w.heap.size ∧ w.ownsRow b e size v n xs := by
 rcases h.2 with ⟨rfl, hn⟩ | ⟨g, cap, cur, rfl, hbs, hgg, rest⟩
 ·exact ⟨0, Nat.zero_le _, h.1, .inl ⟨rfl, hn⟩⟩
 ·exact ⟨g, Nat.le_of_lt (lt_of_block hgg), h.1, .inr ⟨g, cap, cur, rfl, Nat.le_refl _, hgg, rest⟩⟩
theorem wr_store2 {w w2 : World} {S : Nat → Prop} {B base n : Nat} {v0 v : Value} {l : Bytes} (hS : S B) (h2 : w2.heap[B]? = some (.cells #[v0] 126 (0, 0))) (hf : Fr S w w2)
 (hn : n = l.length) (hown : w2.ownsRow base 5 1 v n (byteVals l)) (hg : ∀ g, v.ownBlock = some g → grow S w g ∧ g ≠ B) :
 Wr (w2.setCell ⟨B, 0, none⟩ v) (grow S w) B l ∧ Fr S w (w2.setCell ⟨B, 0, none⟩ v) := by
 subst hn
 refine ⟨⟨Or.inl hS, v, base, one_setCell h2, ownsRow_setCell_other hown (fun e => (hg B e).2 rfl) v, hg⟩, ⟨hf.os, hf.tape, hf.output, ?_, ?_⟩⟩
 ·simp only [World.setCell, Array.size_modify]; exact hf.size
 ·intro k hk hs
  rw [Below.heap_setCell _ _ _ _ (fun e => hs (by rw [e]; exact hS))]
  exact hf.block k hk hs
theorem Flags_any (S : Nat → Prop) (B : Nat) (l : Bytes) (A : Nat) (fs : List Bool) (w : World) (hl : l.length ≤ 536870912) (hf : fs.length ≤ 8) (h : Wr w S B l) (hb : BoolsAt w A fs) :
 Calls Tryz.prog 117 #[.pointer (some ⟨B, 0, none⟩), .slice (some ⟨A, 0, none⟩) fs.length fs.length] w (RetWr S B (l ++ [UInt8.ofNat (flagsN fs)]) w) := by
 obtain ⟨i0, hi, hz0, hz1, hz2⟩ := info_parts Tryz.infoByte
 obtain ⟨hS, v, base0, h0, hown0, hg⟩ := h
 obtain ⟨base, hbase, hown⟩ := own_rebase hown0
 obtain ⟨a, cap, rfl, hin⟩ := own_bytes hown0
 have hc := cell_of_one h0
 have hfz := free_of_one h0
 have H0 := Lib.hid h0
 have HG := Lib.hid hg
 clear h0 hown0 hg hin
 go_enter Tryz.func117, Tryz.ntmps117
 go_wp2
 go_loop [5, 6, 7, 12] (fun c _ _ i => ∃ k : Nat, k ≤ fs.length ∧ i = .int .i64 k ∧ c = .int .u8 (flagsN (fs.take k))) (fun _ _ _ i => fs.length - (intOf i).toNat)
 case atStart => exact ⟨0, Nat.zero_le _, rfl, by simp [flagsN]⟩
 case round =>
  obtain ⟨k, hk, rfl, rfl⟩ := hrel
  by_cases hlt : k < fs.length
  ·have hcell := hb k hlt
   have hk8 : (k : Int) < 8 := by omega
   have hlt2 := flagsN_lt (fs.take k)
   rw [List.length_take, Nat.min_eq_left hk] at hlt2
   have hsn := flagsN_snoc (fs.take k) fs[k]
   rw [← List.take_succ_eq_append_getElem hlt, List.length_take, Nat.min_eq_left hk] at hsn
   have hor := orpow k (flagsN (fs.take k)) (by omega) hlt2
   cases hq : fs[k] with
   | false =>
     rw [hq] at hcell hsn
     have HS := Lib.hid hsn
     clear hsn hor hlt2
     go_wp2
     go_round
     case rel => exact ⟨k + 1, by omega, by go_num, by rw [HS.out]; simp⟩
     case measure => simp [intOf] <;> omega
   | true =>
     rw [hq] at hcell hsn
     have HS := Lib.hid hsn
     have HO := Lib.hid hor
     clear hsn hor hlt2
     go_wp2
     go_round
     case rel => exact ⟨k + 1, by omega, by go_num, by rw [HO.out, HS.out]; simp⟩
     case measure => simp [intOf] <;> omega
  ·have htk : Hid (fs.take k = fs) := List.take_of_length_le (by omega)
   rw [htk.out]
   have hfl : flagsN fs < 256 := by have h9 := flagsN_lt fs; have h2 : 2 ^ fs.length ≤ 2 ^ 8 := Nat.pow_le_pow_right (by omega) hf; omega
   go_wp2_with (at_builtin; go_loud (refine wpList_append_own_at _ rfl _ _ 82 rfl base 5 i0 (.int .u8 0) 1 1 Tryz.underlying82 hi hz0 hz1 hz2 rfl (by decide) _ _ _ rfl (hown.alloc _) ⟨w.heap.size, 0, none⟩ 1 1 [.int .u8 (flagsN fs : Int)] rfl rfl (cell_one_new _ _ _) (by simp [Value.oneCell']) (by unfold maxLen; omega) (by omega) (by simp; omega) ?_))
   intro v' w2 hown2 hgrow _ hat
   obtain ⟨hF, hB2⟩ := app_frame H0.out HG.out hgrow
   rw [show (l.length + 1) = (l ++ [UInt8.ofNat (flagsN fs)]).length by simp, show byteVals l ++ [Value.int .u8 (flagsN fs : Int)] = byteVals (l ++ [UInt8.ofNat (flagsN fs)]) by
        rw [byteVals_append]; congr 1; simp only [byteVals, List.map_cons, List.map_nil, UInt8.toNat_ofNat']; congr 3; omega] at hown2
   obtain ⟨a1, cap1, rfl, hin1⟩ := own_bytes hown2
   have hcB := cell_of_one hB2
   have hfB := free_of_one hB2
   have hgg : Hid (∀ g, (Value.slice a1 (l ++ [UInt8.ofNat (flagsN fs)]).length cap1).ownBlock = some g → grow S w g ∧ g ≠ B) := fun g e => by
        have hBl := lt_of_block H0.out
        rcases hat with hat | hat
        ·rw [hat] at e; exact ⟨Or.inl (HG.out g e).1, (HG.out g e).2⟩
        ·rw [hat] at e
         have : g = w.heap.size + 1 := by simpa using e.symm
         exact ⟨Or.inr (by omega), by omega⟩
   have hfin := Lib.hid (wr_store2 hS hB2 hF rfl hown2 hgg.out)
   clear hat hgrow hown2 hin1
   go_wp2
   go_ret
   have h9 := hfin.out
   simp only [List.length_append, List.length_cons, List.length_nil, Nat.zero_add] at h9
   exact ⟨rfl, h9.1, h9.2⟩
theorem strCells_eq (s : ByteArray) : Lib.strCells s = byteVals (bl s) := rfl
def textB (l : Bytes) : Bytes := shortB l.length ++ l
theorem Text_any (S : Nat → Prop) (B : Nat) (l : Bytes) (s : ByteArray) (w : World) (hl : l.length ≤ 268435456) (hs : s.size ≤ 268435456) (h : Wr w S B l) :
 Calls Tryz.prog 101 #[.pointer (some ⟨B, 0, none⟩), .string s] w (RetWr S B (l ++ textB (bl s)) w) := by
 obtain ⟨i0, hi, hz0, hz1, hz2⟩ := info_parts Tryz.infoByte
 obtain ⟨hS, v, base, h0, hown, hg⟩ := h
 obtain ⟨a, cap, rfl, hin⟩ := own_bytes hown
 have hc := cell_of_one h0
 have l1 := shortB_len10 s.size (by omega)
 have hP := Lib.hid (Put_any a cap l s.size w (by omega) (by omega) hin)
 have H0 := Lib.hid h0
 clear h0 hown hg hin
 go_enter Tryz.func101, Tryz.ntmps101
 go_wp2_with (first
  | (go_at_call 115; (with_reducible refine hP.out.mono ?_); rintro e w1 ⟨v', rfl, hown1, hb⟩; have hzz := hb.size)
  | (at_builtin; go_loud (refine Lib.wpList_append_own_string _ rfl _ _ 82 9 rfl w.heap.size 5 i0 Tryz.underlying82 Tryz.underlying9 hi hz0 hz1 hz2 _ _ _ rfl hown1 s rfl (by unfold maxLen; simp; omega) (by simp; omega) (by omega) ?_)))
 intro v2 w2 hown2 hgrow _
 have hb2 := hb.grown hgrow hzz (fun k hk => (hown1.lt k hk).1)
 rw [show l.length + (shortB s.size).length + s.size = (l ++ textB (bl s)).length by simp [textB, bl_length]; omega, show byteVals (l ++ shortB s.size) ++ Lib.strCells s = byteVals (l ++ textB (bl s)) by
  rw [strCells_eq, ← byteVals_append, List.append_assoc]; simp [textB, bl_length]] at hown2
 obtain ⟨a1, cap1, rfl, hin1⟩ := own_bytes hown2
 have hcB := kept hb2 hc
 have hfB := (hb2.frozen (p := ⟨B, 0, none⟩) (lt_of_block H0.out)).trans (free_of_one H0.out)
 have hfin := Lib.hid (wr_store hS H0.out hb2 hown2)
 clear hgrow hown2 hin1
 go_wp2
 go_ret
 have h9 := hfin.out
 rw [List.length_append] at h9
 exact ⟨rfl, h9.1, h9.2⟩
def zigB (n : Int) : Bytes := shortB (Lib.zigzag n)
theorem fold_pos (x : Int) (h0 : 0 ≤ x) (h1 : x ≤ 4398046511104) : bits BinOp.xor IntKind.u64 (IntKind.u64.wrap (IntKind.u64.wrap x * 2)) (IntKind.u64.wrap (x / 9223372036854775808)) = ((Lib.zigzag x : Nat) : Int) := by
 have e1 : IntKind.u64.wrap (IntKind.u64.wrap x * 2) = (((2 * x).toNat : Nat) : Int) := by
  rw [IntKind.wrap_u64, IntKind.wrap_u64]; omega
 have e2 : IntKind.u64.wrap (x / 9223372036854775808) = ((0 : Nat) : Int) := by
  rw [IntKind.wrap_u64]; omega
 rw [e1, e2, bits_xor_u64_nat _ _ (by omega) (by decide), Nat.xor_zero]
 unfold Lib.zigzag
 rw [if_pos h0]
theorem fold_neg (x : Int) (h0 : -4398046511104 ≤ x) (h1 : x < 0) : bits BinOp.xor IntKind.u64 (IntKind.u64.wrap (IntKind.u64.wrap x * 2)) (IntKind.u64.wrap (x / 9223372036854775808)) = ((Lib.zigzag x : Nat) : Int) := by
 have e1 : IntKind.u64.wrap (IntKind.u64.wrap x * 2) = (((2 * x + 18446744073709551616).toNat : Nat) : Int) := by
  rw [IntKind.wrap_u64, IntKind.wrap_u64]; omega
 have e2 : IntKind.u64.wrap (x / 9223372036854775808) = ((2 ^ 64 - 1 : Nat) : Int) := by
  rw [IntKind.wrap_u64]; omega
 rw [e1, e2, bits_xor_u64_nat _ _ (by omega) (by decide), Nat.xor_comm, Lib.xor_ones64 _ (by omega)]
 unfold Lib.zigzag
 rw [if_neg (by omega)]; omega
theorem fold_eq (x : Int) (h0 : -4398046511104 ≤ x) (h1 : x ≤ 4398046511104) : bits BinOp.xor IntKind.u64 (IntKind.u64.wrap (IntKind.u64.wrap x * 2)) (IntKind.u64.wrap (x / 9223372036854775808)) = ((Lib.zigzag x : Nat) : Int) := by
 by_cases h : 0 ≤ x
 ·exact fold_pos x h h1
 ·exact fold_neg x h0 (by omega)
theorem Fold_any (n : Int) (w : World) (h0 : -4398046511104 ≤ n) (h1 : n ≤ 4398046511104) : Calls Tryz.prog 181 #[.int .i64 n] w (fun e w' => e = .returned (.int .u64 ((Lib.zigzag n : Nat) : Int)) ∧ w = w') := by
 have HE := Lib.hid (fold_eq n h0 h1)
 generalize Lib.zigzag n = z at HE ⊢
 go_enter Tryz.func181, Tryz.ntmps181
 go_wp2
 go_ret
 exact ⟨by rw [HE.out]; rfl, rfl⟩
theorem zig_lt (n : Int) (h0 : -4398046511104 ≤ n) (h1 : n ≤ 4398046511104) : Lib.zigzag n < 17592186044416 := by
 unfold Lib.zigzag; split <;> omega
theorem PutInt_any (a : Option Addr) (cap : Nat) (l : Bytes) (n : Int) (w : World) (hl : l.length ≤ 536870912) (h0 : -4398046511104 ≤ n) (h1 : n ≤ 4398046511104) (h : BytesIn w a l) :
 Calls Tryz.prog 151 #[.slice a l.length cap, .int .i64 n] w (RetBytes (l ++ zigB n) w) := by
 have hF := Lib.hid (Fold_any n w h0 h1)
 have hz := zig_lt n h0 h1
 have hP := Lib.hid (Put_any a cap l (Lib.zigzag n) w hl (by omega) h)
 have HE : Hid (zigB n = shortB (Lib.zigzag n)) := rfl
 generalize zigB n = zb at HE ⊢
 generalize Lib.zigzag n = z at hF hz hP HE
 clear h
 go_enter Tryz.func151, Tryz.ntmps151
 go_wp2_with (first
  | (go_at_call 181; (with_reducible refine hF.out.mono ?_); rintro e w1 ⟨rfl, rfl⟩)
  | (go_at_call 115; (with_reducible refine hP.out.mono ?_); rintro e w1 ⟨v', rfl, hown1, hb⟩))
 go_ret
 exact ⟨_, rfl, by rw [HE.out]; exact hown1, hb⟩
theorem Int_any (S : Nat → Prop) (B : Nat) (l : Bytes) (n : Int) (w : World) (hl : l.length ≤ 536870912) (h0 : -4398046511104 ≤ n) (h1 : n ≤ 4398046511104) (h : Wr w S B l) :
 Calls Tryz.prog 118 #[.pointer (some ⟨B, 0, none⟩), .int .i64 n] w (RetWr S B (l ++ zigB n) w) := by
 obtain ⟨hS, v, base, h0', hown, hg⟩ := h
 obtain ⟨a, cap, rfl, hin⟩ := own_bytes hown
 have hc := cell_of_one h0'
 have hP := Lib.hid (PutInt_any a cap l n w hl h0 h1 hin)
 have H0 := Lib.hid h0'
 clear h0' hown hg hin
 go_enter Tryz.func118, Tryz.ntmps118
 go_wp2_with (go_at_call 151; refine hP.out.mono ?_; rintro e w1 ⟨v', rfl, hown1, hb⟩; obtain ⟨a1, cap1, rfl, hin1⟩ := own_bytes hown1; have hcB := kept hb hc; have hfB := (hb.frozen (p := ⟨B, 0, none⟩) (lt_of_block H0.out)).trans (free_of_one H0.out))
 go_ret
 have := wr_store hS H0.out hb hown1
 rw [List.length_append] at this
 exact ⟨rfl, this.1, this.2⟩
theorem not_grow {S : Nat → Prop} {b : Nat} {w w2 : World} (h : ¬ S b) (hs : w.heap.size ≤ w2.heap.size) (hb : b < w.heap.size) : ¬ grow S w2 b := fun g => by
 rcases g with g | g
 ·exact h g
 ·omega
def RetUnit (S : Nat → Prop) (B : Nat) (l : Bytes) (w : World) (e : Ending) (w' : World) : Prop :=
 e = .returned (.tuple #[]) ∧ Wr w' (grow S w) B l ∧ Fr S w w'
theorem WBytes_any (S : Nat → Prop) (B : Nat) (l : Bytes) (w : World) (hl : l.length ≤ 536870912) (h : Wr w S B l) :
 Calls Tryz.prog 79 #[.pointer (some ⟨B, 0, none⟩)] w (RetBytes l w) := by
 obtain ⟨hS, v, base, h0, hown, hg⟩ := h
 obtain ⟨a, cap, rfl, hin⟩ := own_bytes hown
 have hc := cell_of_one h0
 have hP := Lib.hid (CloneBytes_any a cap l w (by omega) hin)
 have H0 := Lib.hid h0
 clear h0 hown hg hin
 go_enter Tryz.func79, Tryz.ntmps79
 go_wp2_with (go_at_call 122; refine hP.out.mono ?_; rintro e w1 ⟨v', rfl, hown1, hb⟩)
 go_ret
 exact ⟨_, rfl, hown1, hb⟩
def dotB (d : Dot) : Bytes := if dotOk d = true then shortB d.a.dev.toNat ++ shortB d.a.inc.toNat ++ shortB d.seq.toNat else []
def stampB (s : Stamp) : Bytes := if stampOk s = true then shortB s.wall.toNat ++ shortB s.count.toNat ++ shortB s.dev.toNat else []
theorem dotPut_any (S : Nat → Prop) (B : Nat) (l : Bytes) (d : Dot) (w : World) (hl : l.length ≤ 536870800) (h : Wr w S B l) (hSl : ∀ k, S k → k < w.heap.size) :
 Calls Tryz.prog 116 #[.pointer (some ⟨B, 0, none⟩), .agg #[.int .i64 d.a.dev, .int .i64 d.a.inc, .int .i64 d.seq]] w (RetUnit S B (l ++ dotB d) w) := by
 have HR0 := fun (W : World) => dotRight_any d W
 cases h1 : dotOk d with
 | false =>
   have HB : Hid (l ++ dotB d = l) := by unfold Hid dotB; rw [h1]; simp
   rw [h1] at HR0
   have HR := Lib.hid HR0
   clear HR0 h1
   go_enter Tryz.func116, Tryz.ntmps116
   go_wp2_with (go_at_call 70; refine (HR.out _).mono ?_; rintro e w1 ⟨rfl, hb⟩)
   go_end0
   have hb2 := below2 ((Below.refl w.heap.size w).alloc (Nat.le_refl _) (Obj.cells #[.int .i64 d.a.dev, .int .i64 d.a.inc, .int .i64 d.seq] 25)) hb
   exact ⟨rfl, by rw [HB.out]; exact (h.frame (Fr.of_below (S := fun _ => False) hb2) (fun _ _ g => g)).mono (fun _ g => Or.inl g), Fr.of_below hb2⟩
 | true =>
   have hd : 0 ≤ d.a.dev ∧ d.a.dev < 64 ∧ 1 ≤ d.a.inc ∧ d.a.inc ≤ 1048576 ∧ 1 ≤ d.seq ∧ d.seq ≤ 4294967296 := by
    have := h1; unfold dotOk actorOk at this; simp at this; omega
   have HB : Hid (l ++ dotB d = l ++ shortB d.a.dev.toNat ++ shortB d.a.inc.toNat ++ shortB d.seq.toNat) := by unfold Hid dotB; rw [h1]; simp
   rw [h1] at HR0
   have HR := Lib.hid HR0
   obtain ⟨x, hx⟩ : ∃ x : Nat, d.a.dev = x := ⟨d.a.dev.toNat, by omega⟩
   obtain ⟨y, hy⟩ : ∃ y : Nat, d.a.inc = y := ⟨d.a.inc.toNat, by omega⟩
   obtain ⟨z, hz⟩ : ∃ z : Nat, d.seq = z := ⟨d.seq.toNat, by omega⟩
   rw [hx, hy, hz] at hd HB
   rw [hx, hy, hz] at HR ⊢
   obtain ⟨e1, e2, e3, e4, e5, e6⟩ := hd
   have l1 := shortB_len10 x (by omega)
   have l2 := shortB_len10 y (by omega)
   have l3 := shortB_len10 z (by omega)
   clear HR0 h1 hx hy hz
   go_enter Tryz.func116, Tryz.ntmps116
   go_wp2_with (go_at_call 70; refine (HR.out _).mono ?_; rintro e w1 ⟨rfl, hb⟩; have q0 := kept hb (World.cell?_alloc_new w #[.int .i64 x, .int .i64 y, .int .i64 z] 25 0); have q1 := kept hb (World.cell?_alloc_new w #[.int .i64 x, .int .i64 y, .int .i64 z] 25 1); have q2 := kept hb (World.cell?_alloc_new w #[.int .i64 x, .int .i64 y, .int .i64 z] 25 2))
   have hz1 : w.heap.size < w1.heap.size := World.block_lt_of_cell? w1 _ q0
   have hb2 := below2 ((Below.refl w.heap.size w).alloc (Nat.le_refl _) (Obj.cells #[.int .i64 (x : Int), .int .i64 (y : Int), .int .i64 (z : Int)] 25)) hb
   have hw1 : Wr w1.drew S B l := (h.frame (Fr.of_below (S := fun _ => False) hb2) (fun _ _ g => g)).frame (Fr.of_below (S := fun _ => False) (Below.refl w1.heap.size w1).drew) (fun _ _ g => g)
   have hns : ¬ S w.heap.size := fun g => by have := hSl _ g; omega
   have hns1 : ¬ grow S w1.drew w.heap.size := fun g => by rcases g with g | g; exact hns g; simp at g; omega
   have Q0 : w1.drew.cell? ⟨w.heap.size, 0, none⟩ = some (.int .i64 x) := q0
   have Q1 : w1.drew.cell? ⟨w.heap.size, 1, none⟩ = some (.int .i64 y) := q1
   have Q2 : w1.drew.cell? ⟨w.heap.size, 2, none⟩ = some (.int .i64 z) := q2
   have HN1 := Lib.hid (Num_any S B l x w1.drew (by omega) (by omega) hw1)
   have HN2 := Lib.hid (fun (W : World) (hW : Wr W (grow S w1.drew) B (l ++ shortB x)) => Num_any (grow S w1.drew) B (l ++ shortB x) y W (by simp; omega) (by omega) hW)
   have HN3 := Lib.hid (fun (T : Nat → Prop) (W : World) (hW : Wr W T B (l ++ shortB x ++ shortB y)) => Num_any T B (l ++ shortB x ++ shortB y) z W (by simp; omega) (by omega) hW)
   have hwx : IntKind.u64.wrap (x : Int) = (x : Int) := IntWalk.u64_in _ (by omega)
   have hwy : IntKind.u64.wrap (y : Int) = (y : Int) := IntWalk.u64_in _ (by omega)
   have hwz : IntKind.u64.wrap (z : Int) = (z : Int) := IntWalk.u64_in _ (by omega)
   clear q0 q1 q2
   go_region_held3 (fun w' => w'.cell? ⟨w.heap.size, 0, none⟩ = some (.int .i64 x) ∧ w'.cell? ⟨w.heap.size, 1, none⟩ = some (.int .i64 y) ∧ w'.cell? ⟨w.heap.size, 2, none⟩ = some (.int .i64 z)) (first | exact ⟨k0, k1, k2⟩ | go_keep)
    (first
        | (go_at_call 76; (with_reducible refine HN1.out.mono ?_); rintro e w2 ⟨rfl, hw2, hf2⟩; have k0 := hf2.kept Q0 hns; have k1 := hf2.kept Q1 hns; have k2 := hf2.kept Q2 hns)
        | (go_at_call 76; (with_reducible refine (HN2.out _ hw2).mono ?_); rintro e w3 ⟨rfl, hw3, hf3⟩; have k0 := hf3.kept k0 hns1; have k1 := hf3.kept k1 hns1; have k2 := hf3.kept k2 hns1)
        | (go_at_call 76; (with_reducible refine (HN3.out _ _ hw3).mono ?_); rintro e w4 ⟨rfl, hw4, hf4⟩; have hns2 := not_grow hns1 hf2.size (by simpa using hz1); have k0 := hf4.kept k0 hns2; have k1 := hf4.kept k1 hns2; have k2 := hf4.kept k2 hns2))
   go_wp2
   go_end0
   have hs12 : w1.drew.heap.size ≤ w2.heap.size := hf2.size
   refine ⟨rfl, ?_, ?_⟩
   ·rw [HB.out]
    refine hw4.mono fun k g => ?_
    have g1 := grow_grow hf3.size k g
    have g2 := grow_grow hf2.size k g1
    rcases g2 with g2 | g2
    ·exact Or.inl g2
    ·exact Or.inr (by simp at g2; omega)
   ·exact (Fr.of_below (hb2.drew)).trans (((hf2.trans (hf3.trans hf4)).mono fun k hk g => Or.inl g))
theorem clockPut_any (S : Nat → Prop) (B : Nat) (l : Bytes) (d : Stamp) (w : World) (hl : l.length ≤ 536870800) (h : Wr w S B l) (hSl : ∀ k, S k → k < w.heap.size) :
 Calls Tryz.prog 100 #[.pointer (some ⟨B, 0, none⟩), .agg #[.int .i64 d.wall, .int .i64 d.count, .int .i64 d.dev]] w (RetUnit S B (l ++ stampB d) w) := by
 have HR0 := fun (W : World) => clockRight_any d W
 cases h1 : stampOk d with
 | false =>
   have HB : Hid (l ++ stampB d = l) := by unfold Hid stampB; rw [h1]; simp
   rw [h1] at HR0
   have HR := Lib.hid HR0
   clear HR0 h1
   go_enter Tryz.func100, Tryz.ntmps100
   go_wp2_with (go_at_call 71; refine (HR.out _).mono ?_; rintro e w1 ⟨rfl, hb⟩)
   go_end0
   have hb2 := below2 ((Below.refl w.heap.size w).alloc (Nat.le_refl _) (Obj.cells #[.int .i64 d.wall, .int .i64 d.count, .int .i64 d.dev] 27)) hb
   exact ⟨rfl, by rw [HB.out]; exact (h.frame (Fr.of_below (S := fun _ => False) hb2) (fun _ _ g => g)).mono (fun _ g => Or.inl g), Fr.of_below hb2⟩
 | true =>
   have hd : 0 ≤ d.wall ∧ d.wall ≤ 4398046511104 ∧ 0 ≤ d.count ∧ d.count ≤ 65535 ∧ 0 ≤ d.dev ∧ d.dev ≤ 63 := by
    have := h1; unfold stampOk at this; simp at this; omega
   have HB : Hid (l ++ stampB d = l ++ shortB d.wall.toNat ++ shortB d.count.toNat ++ shortB d.dev.toNat) := by unfold Hid stampB; rw [h1]; simp
   rw [h1] at HR0
   have HR := Lib.hid HR0
   obtain ⟨x, hx⟩ : ∃ x : Nat, d.wall = x := ⟨d.wall.toNat, by omega⟩
   obtain ⟨y, hy⟩ : ∃ y : Nat, d.count = y := ⟨d.count.toNat, by omega⟩
   obtain ⟨z, hz⟩ : ∃ z : Nat, d.dev = z := ⟨d.dev.toNat, by omega⟩
   rw [hx, hy, hz] at hd HB
   rw [hx, hy, hz] at HR ⊢
   obtain ⟨e1, e2, e3, e4, e5, e6⟩ := hd
   have l1 := shortB_len10 x (by omega)
   have l2 := shortB_len10 y (by omega)
   have l3 := shortB_len10 z (by omega)
   clear HR0 h1 hx hy hz
   go_enter Tryz.func100, Tryz.ntmps100
   go_wp2_with (go_at_call 71; refine (HR.out _).mono ?_; rintro e w1 ⟨rfl, hb⟩; have q0 := kept hb (World.cell?_alloc_new w #[.int .i64 x, .int .i64 y, .int .i64 z] 27 0); have q1 := kept hb (World.cell?_alloc_new w #[.int .i64 x, .int .i64 y, .int .i64 z] 27 1); have q2 := kept hb (World.cell?_alloc_new w #[.int .i64 x, .int .i64 y, .int .i64 z] 27 2))
   have hz1 : w.heap.size < w1.heap.size := World.block_lt_of_cell? w1 _ q0
   have hb2 := below2 ((Below.refl w.heap.size w).alloc (Nat.le_refl _) (Obj.cells #[.int .i64 (x : Int), .int .i64 (y : Int), .int .i64 (z : Int)] 27)) hb
   have hw1 : Wr w1.drew S B l := (h.frame (Fr.of_below (S := fun _ => False) hb2) (fun _ _ g => g)).frame (Fr.of_below (S := fun _ => False) (Below.refl w1.heap.size w1).drew) (fun _ _ g => g)
   have hns : ¬ S w.heap.size := fun g => by have := hSl _ g; omega
   have hns1 : ¬ grow S w1.drew w.heap.size := fun g => by rcases g with g | g; exact hns g; simp at g; omega
   have Q0 : w1.drew.cell? ⟨w.heap.size, 0, none⟩ = some (.int .i64 x) := q0
   have Q1 : w1.drew.cell? ⟨w.heap.size, 1, none⟩ = some (.int .i64 y) := q1
   have Q2 : w1.drew.cell? ⟨w.heap.size, 2, none⟩ = some (.int .i64 z) := q2
   have HN1 := Lib.hid (Num_any S B l x w1.drew (by omega) (by omega) hw1)
   have HN2 := Lib.hid (fun (W : World) (hW : Wr W (grow S w1.drew) B (l ++ shortB x)) => Num_any (grow S w1.drew) B (l ++ shortB x) y W (by simp; omega) (by omega) hW)
   have HN3 := Lib.hid (fun (T : Nat → Prop) (W : World) (hW : Wr W T B (l ++ shortB x ++ shortB y)) => Num_any T B (l ++ shortB x ++ shortB y) z W (by simp; omega) (by omega) hW)
   have hwx : IntKind.u64.wrap (x : Int) = (x : Int) := IntWalk.u64_in _ (by omega)
   have hwy : IntKind.u64.wrap (y : Int) = (y : Int) := IntWalk.u64_in _ (by omega)
   have hwz : IntKind.u64.wrap (z : Int) = (z : Int) := IntWalk.u64_in _ (by omega)
   clear q0 q1 q2
   go_region_held3 (fun w' => w'.cell? ⟨w.heap.size, 0, none⟩ = some (.int .i64 x) ∧ w'.cell? ⟨w.heap.size, 1, none⟩ = some (.int .i64 y) ∧ w'.cell? ⟨w.heap.size, 2, none⟩ = some (.int .i64 z)) (first | exact ⟨k0, k1, k2⟩ | go_keep)
    (first
        | (go_at_call 76; (with_reducible refine HN1.out.mono ?_); rintro e w2 ⟨rfl, hw2, hf2⟩; have k0 := hf2.kept Q0 hns; have k1 := hf2.kept Q1 hns; have k2 := hf2.kept Q2 hns)
        | (go_at_call 76; (with_reducible refine (HN2.out _ hw2).mono ?_); rintro e w3 ⟨rfl, hw3, hf3⟩; have k0 := hf3.kept k0 hns1; have k1 := hf3.kept k1 hns1; have k2 := hf3.kept k2 hns1)
        | (go_at_call 76; (with_reducible refine (HN3.out _ _ hw3).mono ?_); rintro e w4 ⟨rfl, hw4, hf4⟩; have hns2 := not_grow hns1 hf2.size (by simpa using hz1); have k0 := hf4.kept k0 hns2; have k1 := hf4.kept k1 hns2; have k2 := hf4.kept k2 hns2))
   go_wp2
   go_end0
   have hs12 : w1.drew.heap.size ≤ w2.heap.size := hf2.size
   refine ⟨rfl, ?_, ?_⟩
   ·rw [HB.out]
    refine hw4.mono fun k g => ?_
    have g1 := grow_grow hf3.size k g
    have g2 := grow_grow hf2.size k g1
    rcases g2 with g2 | g2
    ·exact Or.inl g2
    ·exact Or.inr (by simp at g2; omega)
   ·exact (Fr.of_below (hb2.drew)).trans (((hf2.trans (hf3.trans hf4)).mono fun k hk g => Or.inl g))
end Go.Proofs.YtohcmljigcdmbaaGreat
