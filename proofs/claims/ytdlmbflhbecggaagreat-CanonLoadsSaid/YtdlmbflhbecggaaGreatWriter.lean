/- Memory: blocks stored whole, cells set, results that lie in blocks. Conditions: none. -/
import Derived.Test.YtdlmbflhbecggaaGreatLoad
import Derived.Test.YtdlmbflhbecggaaGreatEq
import Derived.OneCell
import Derived.Test.YtdlmbflhbecggaaGreatKit
import Derived.Lib.AppendStr
import Derived.IntWalk
import Derived.Deep.WholeRow
import Derived.Lib.Zigzag
import Derived.Test.YtdlmbflhbecggaaGreatDot
set_option linter.unusedSimpArgs false
set_option linter.unusedVariables false
set_option linter.unnecessarySimpa false
set_option maxHeartbeats 16000000
set_option maxRecDepth 100000
namespace Go.Proofs.YtdlmbflhbecggaaGreat
open Go.RowKit
/-- a function whose one result is a struct that lies in a block of its own hands back that block's cells -/
theorem dn {P : Program} {fn : Func} {R : Ending → World → Prop} {a : Act} {w : World} (p : Tmp) (ty t : TypeId) (g : Nat) (c : Array Value) (d : TypeDesc) (hr : fn.results = #[.cell p ty])
 (hp : a.tmps.getD p undef = .pointer (some ⟨g, 0, none⟩)) (hg : w.heap[g]? = some (.cells c t (0, 0))) (hu : P.underlying ty = some d) (hd : d.isRow = true) (hi : (P.info? ty).map (·.size) = some c.size)
 (hde : a.defers = []) (hR : R (.returned (.agg c)) w) : bodyPost P fn R .ret a w := by
 have h1 : w.rangeAt g 0 c.toList := fun j v hv => by
  rw [Nat.zero_add]
  simp only [World.cell?, hg]
  simpa using hv
 have h2 := run_loadVar_mid (P := P) w g 0 ty c.toList d h1 hu hd (by simpa using hi)
 refine bodyPost_ret ?_ hde hR
 have hp' : a.tmps[p]?.getD undef = .pointer (some ⟨g, 0, none⟩) := by simpa using hp
 simp [results, hr, hp', asAddr, h2, Sem.run_bind, Result.andThen]
theorem jT {w w' : World} {base : Nat} {e : TypeId} {size : Nat} {v : Value} {n : Nat} {xs : List Value} (h : w.ownsRow base e size v n xs) (hk : ∀ k, base ≤ k → w'.heap[k]? = w.heap[k]?) : w'.ownsRow base e size v n xs := by
 refine ⟨h.1, ?_⟩
 rcases h.2 with hn | ⟨g, cap, cur, hv, hbs, hg, rest⟩
 ·exact .inl hn
 ·exact .inr ⟨g, cap, cur, hv, hbs, by rw [hk g hbs]; exact hg, rest⟩
theorem lL {w : World} {base b2 : Nat} {e : TypeId} {size : Nat} {v : Value} {n : Nat} {xs : List Value} (h : w.ownsRow base e size v n xs) (hb : b2 ≤ base) : w.ownsRow b2 e size v n xs := by
 rcases h.2 with hn | ⟨g, cap, cur, hv, hbs, rest⟩
 ·exact ⟨h.1, .inl hn⟩
 ·exact ⟨h.1, .inr ⟨g, cap, cur, hv, Nat.le_trans hb hbs, rest⟩⟩
theorem below_setRow {B : Nat} {W w : World} (h : Below B W w) {g : Nat} (hg : B ≤ g) (cs : Array Value) : Below B W (w.setRow g cs) :=
 h.trans ⟨rfl, rfl, rfl, by simp [World.setRow], fun k hk => by simp [World.setRow, Array.getElem?_modify]; omega⟩
theorem Ie {w : World} {b : Nat} {e : Ev} {a a' : Option Addr} {cap cap' : Nat} (h : w.rangeAt b 0 (ag e a cap)) : (w.setCell ⟨b, 18, none⟩ (.slice a' e.over.length cap')).rangeAt b 0 (ag e a' cap') := by
 intro j v hv
 rw [Nat.zero_add]
 by_cases hj : j = 18
 ·subst hj
  simp [ag] at hv
  subst hv
  exact World.cell?_setCell_same _ _ _ (h 18 _ rfl)
 ·rw [World.cell?_setCell_other _ _ _ _ (by simp [Ne.symm hj])]
  have h1 : (ag e a cap)[j]? = some v := by
   rw [← hv]
   match j, hj with
   | 0, _ | 1, _ | 2, _ | 3, _ | 4, _ | 5, _ | 6, _ | 7, _ | 8, _ | 9, _ | 10, _ | 11, _ | 12, _ | 13, _ | 14, _ | 15, _ | 16, _ | 17, _ => rfl
   | j + 19, _ => rfl
  have := h j v h1
  rwa [Nat.zero_add] at this
theorem aN {P : Program} {ops : Array Oper} {rest : List Oper} {a : Act} {w : World} {Q : Exit → Act → World → Prop} {type : TypeId} {pos : String} {after : Array Edge} (ty : TypeId) (x y : Operand) (c c' : Array Value)
 (hx : a.eval x = .pointer (some ⟨w.heap.size, 0, none⟩)) (hy : a.eval y = .agg c') (hi : (P.info? ty).map (·.size) = some c'.size) (hold : c.size = c'.size) (h1 : c'.all (·.oneCell') = true)
 (h : wpList P ops Q rest a (w.alloc (.cells c' ty))) : wpList P ops Q (⟨none, .store ty x y, type, pos, after, none⟩ :: rest) a (w.alloc (.cells c ty)) := by
 refine wpList_store_row rfl ty x y rfl w.heap.size c' hx hy ty c (heap_alloc_last w _) hi hold h1 ?_
 rw [World.setRow_alloc_new]
 exact h
theorem dm {P : Program} {ops : Array Oper} {rest : List Oper} {a : Act} {w : World} {Q : Exit → Act → World → Prop} {type : TypeId} {pos : String} {after : Array Edge} (ty : TypeId) (x y : Operand) (c c' : Array Value) (N : Nat) (hN : w.heap.size = N)
 (hx : a.eval x = .pointer (some ⟨N, 0, none⟩)) (hy : a.eval y = .agg c') (hi : (P.info? ty).map (·.size) = some c'.size) (hold : c.size = c'.size) (h1 : c'.all (·.oneCell') = true)
 (h : wpList P ops Q rest a (w.alloc (.cells c' ty))) : wpList P ops Q (⟨none, .store ty x y, type, pos, after, none⟩ :: rest) a (w.alloc (.cells c ty)) := by
 subst hN
 exact aN ty x y c c' hx hy hi hold h1 h
theorem grow_grow {S : Nat → Prop} {a b : World} (h : a.heap.size ≤ b.heap.size) : ∀ k, grow (grow S a) b k → grow S a k := by
 rintro k ((g | g) | g)
 ·exact Or.inl g
 ·exact Or.inr g
 ·exact Or.inr (by omega)
/-- block B holds a writer of l, whose memory lies in S -/
structure Wr (w : World) (S : Nat → Prop) (B : Nat) (l : Bytes) : Prop where
 inS : S B
 ex : ∃ v base, w.heap[B]? = some (.cells #[v] 139 (0, 0)) ∧ w.ownsRow base 5 1 v l.length (bV l) ∧ ∀ g, v.ownBlock = some g → S g ∧ g ≠ B
theorem Wr.mono {w : World} {S T : Nat → Prop} {B : Nat} {l : Bytes} (h : Wr w S B l) (hST : ∀ k, S k → T k) : Wr w T B l := by
 obtain ⟨h1, v, base, h2, h3, h4⟩ := h
 exact ⟨hST _ h1, v, base, h2, h3, fun g hg => ⟨hST _ (h4 g hg).1, (h4 g hg).2⟩⟩
theorem Wr.frame {w w' : World} {S T : Nat → Prop} {B : Nat} {l : Bytes} (h : Wr w S B l) (hf : Fr T w w') (hST : ∀ k, S k → ¬ T k) : Wr w' S B l := by
 obtain ⟨h1, v, base, h2, h3, h4⟩ := h
 have hk : ∀ k, k < w.heap.size → S k → w'.heap[k]? = w.heap[k]? := fun k hk hs => hf.block k hk (hST k hs)
 refine ⟨h1, v, base, ?_, ⟨h3.1, ?_⟩, h4⟩
 ·rw [hk B (lt_of_block h2) h1]; exact h2
 ·rcases h3.2 with hn | ⟨g, cap, cur, rfl, hbs, hgg, rest⟩
  ·exact .inl hn
  ·exact .inr ⟨g, cap, cur, rfl, hbs, by rw [hk g (lt_of_block hgg) (h4 g rfl).1]; exact hgg, rest⟩
/-- the bytes that a row of one's own holds, read -/
theorem iQ {w : World} {base : Nat} {v : Value} {l : Bytes} (h : w.ownsRow base 5 1 v l.length (bV l)) : ∃ a cap, v = .slice a l.length cap ∧ BytesIn w a l := by
 have hc := fun g (hg : v.ownBlock = some g) => h.cells hg
 rcases h.2 with ⟨rfl, hn⟩ | ⟨g, cap, cur, rfl, rest⟩
 ·obtain rfl : l = [] := List.length_eq_zero_iff.1 hn
  exact ⟨none, 0, rfl, Or.inl rfl⟩
 ·refine ⟨_, cap, rfl, Or.inr ⟨g, 0, rfl, fun j hj => ?_⟩⟩
  have := hc g rfl j (.int .u8 l[j].toNat) (by simp [bV, hj])
  rw [Addr.add_mid] at this
  exact this
/-- behind a writer's method -/
def EH (S : Nat → Prop) (B : Nat) (l : Bytes) (w : World) (e : Ending) (w' : World) : Prop :=
 e = .returned (.pointer (some ⟨B, 0, none⟩)) ∧ Wr w' (grow S w) B l ∧ Fr S w w'
/-- the writer's new slice is stored -/
theorem wX {w w1 : World} {S : Nat → Prop} {B : Nat} {v0 v : Value} {l : Bytes} (hS : S B) (h0 : w.heap[B]? = some (.cells #[v0] 139 (0, 0)))
 (hb : Below w.heap.size w w1) (hown : w1.ownsRow w.heap.size 5 1 v l.length (bV l)) :
 Wr (w1.setCell ⟨B, 0, none⟩ v) (grow S w) B l ∧ Fr S w (w1.setCell ⟨B, 0, none⟩ v) := by
 have hB := lt_of_block h0
 have h1 : w1.heap[B]? = some (.cells #[v0] 139 (0, 0)) := by rw [hb.block B hB]; exact h0
 refine ⟨⟨Or.inl hS, v, w.heap.size, one_setCell h1, ownsRow_setCell_below hown hB v, fun g hg => ?_⟩, ⟨hb.os, hb.tape, hb.output, ?_, ?_⟩⟩
 ·have := hown.lt g hg
  exact ⟨Or.inr this.1, by omega⟩
 ·simp only [World.setCell, Array.size_modify]; exact hb.size
 ·intro k hk hs
  rw [Below.heap_setCell _ _ _ _ (fun e => hs (by rw [e]; exact hS))]
  exact hb.block k hk
theorem o5 (S : Nat → Prop) (B : Nat) (l : Bytes) (n : Nat) (w : World) (hl : l.length ≤ 536870912) (hn : n < 18446744073709551616) (h : Wr w S B l) :
 Calls Tryz.prog 35 #[.pointer (some ⟨B, 0, none⟩), .int .u64 n] w (EH S B (l ++ bg n) w) := by
 obtain ⟨hS, v, base, h0, hown, hg⟩ := h
 obtain ⟨a, cap, rfl, hin⟩ := iQ hown
 have hc := cell_of_one h0
 have hP := Lib.hid (CB a cap l n w hl hn hin)
 have H0 := Lib.hid h0
 clear h0 hown hg hin
 go_enter Tryz.func35, Tryz.ntmps35
 go_wp2_with (go_at_call 89; refine hP.out.mono ?_; rintro e w1 ⟨v', rfl, hown1, hb⟩; obtain ⟨a1, cap1, rfl, hin1⟩ := iQ hown1; have hcB := kept hb hc; have hfB := (hb.frozen (p := ⟨B, 0, none⟩) (lt_of_block H0.out)).trans (free_of_one H0.out))
 go_ret
 have := wX hS H0.out hb hown1
 rw [List.length_append] at this
 exact ⟨rfl, this.1, this.2⟩
def eG : List Bool → Nat
 | [] => 0
 | b :: r => (if b then 1 else 0) + 2 * eG r
def qM (w : World) (b : Nat) (l : List Bool) : Prop := ∀ j (h : j < l.length), w.cell? ⟨b, j, none⟩ = some (.bool l[j])
theorem uQ : ∀ l : List Bool, eG l < 2 ^ l.length
 | [] => by simp [eG]
 | b :: r => by
   have := uQ r
   simp only [eG, List.length_cons, Nat.pow_succ]
   split <;> omega
theorem vS : ∀ (l : List Bool) (b : Bool), eG (l ++ [b]) = eG l + (if b then 2 ^ l.length else 0)
 | [], b => by cases b <;> simp [eG]
 | a :: r, b => by
   simp only [List.cons_append, eG, vS r b, List.length_cons, Nat.pow_succ]
   cases b <;> simp <;> omega
theorem Iw : ∀ k : Fin 8, ∀ c : Fin 256, c.val < 2 ^ k.val → bits BinOp.or IntKind.u8 ((c.val : Nat) : Int) (2 ^ k.val % 256) = ((c.val + 2 ^ k.val : Nat) : Int) := by decide +kernel
theorem Ot (k c : Nat) (hk : k < 8) (hc : c < 2 ^ k) : bits BinOp.or IntKind.u8 (c : Int) (2 ^ k % 256) = ((c + 2 ^ k : Nat) : Int) := by
 have h2 : 2 ^ k ≤ 2 ^ 7 := Nat.pow_le_pow_right (by omega) (by omega)
 exact Iw ⟨k, hk⟩ ⟨c, by omega⟩ hc
theorem Jq {w w2 : World} {S : Nat → Prop} {B : Nat} {v v0 : Value} {o : Obj} {t : TypeId} (h0 : w.heap[B]? = some (.cells #[v0] t (0, 0)))
 (hg : ∀ g, v.ownBlock = some g → S g ∧ g ≠ B) (hgrow : (w.alloc o).grownBy w2 v.ownBlock) : Fr S w w2 ∧ w2.heap[B]? = some (.cells #[v0] t (0, 0)) := by
 have hb : ∀ k, k < w.heap.size → some k ≠ v.ownBlock → w2.heap[k]? = w.heap[k]? := fun k hk hne =>
  (hgrow.block k (by simp; omega) hne).trans (Below.heap_alloc w o k hk)
 refine ⟨⟨hgrow.os, hgrow.tape, hgrow.output, ?_, fun k hk hs => hb k hk (fun e => hs (hg k e.symm).1)⟩, ?_⟩
 ·have := hgrow.size; simp at this; omega
 ·rw [hb B (lt_of_block h0) (fun e => (hg B e.symm).2 rfl)]; exact h0
theorem FB {w : World} {base : Nat} {e : TypeId} {size : Nat} {v : Value} {n : Nat} {xs : List Value} (h : w.ownsRow base e size v n xs) : ∃ b, b ≤ w.heap.size ∧ w.ownsRow b e size v n xs := by
 rcases h.2 with ⟨rfl, hn⟩ | ⟨g, cap, cur, rfl, hbs, hgg, rest⟩
 ·exact ⟨0, Nat.zero_le _, h.1, .inl ⟨rfl, hn⟩⟩
 ·exact ⟨g, Nat.le_of_lt (lt_of_block hgg), h.1, .inr ⟨g, cap, cur, rfl, Nat.le_refl _, hgg, rest⟩⟩
theorem Hu {w w2 : World} {S : Nat → Prop} {B base n : Nat} {v0 v : Value} {l : Bytes} (hS : S B) (h2 : w2.heap[B]? = some (.cells #[v0] 139 (0, 0))) (hf : Fr S w w2)
 (hn : n = l.length) (hown : w2.ownsRow base 5 1 v n (bV l)) (hg : ∀ g, v.ownBlock = some g → grow S w g ∧ g ≠ B) :
 Wr (w2.setCell ⟨B, 0, none⟩ v) (grow S w) B l ∧ Fr S w (w2.setCell ⟨B, 0, none⟩ v) := by
 subst hn
 refine ⟨⟨Or.inl hS, v, base, one_setCell h2, ownsRow_setCell_other hown (fun e => (hg B e).2 rfl) v, hg⟩, ⟨hf.os, hf.tape, hf.output, ?_, ?_⟩⟩
 ·simp only [World.setCell, Array.size_modify]; exact hf.size
 ·intro k hk hs
  rw [Below.heap_setCell _ _ _ _ (fun e => hs (by rw [e]; exact hS))]
  exact hf.block k hk hs
theorem Jv (S : Nat → Prop) (B : Nat) (l : Bytes) (A : Nat) (fs : List Bool) (w : World) (hl : l.length ≤ 536870912) (hf : fs.length ≤ 8) (h : Wr w S B l) (hb : qM w A fs) :
 Calls Tryz.prog 85 #[.pointer (some ⟨B, 0, none⟩), .slice (some ⟨A, 0, none⟩) fs.length fs.length] w (EH S B (l ++ [UInt8.ofNat (eG fs)]) w) := by
 obtain ⟨i0, hi, hz0, hz1, hz2⟩ := info_parts Tryz.infoByte
 obtain ⟨hS, v, base0, h0, hown0, hg⟩ := h
 obtain ⟨base, hbase, hown⟩ := FB hown0
 obtain ⟨a, cap, rfl, hin⟩ := iQ hown0
 have hc := cell_of_one h0
 have hfz := free_of_one h0
 have H0 := Lib.hid h0
 have HG := Lib.hid hg
 clear h0 hown0 hg hin
 go_enter Tryz.func85, Tryz.ntmps85
 go_wp2
 go_loop [5, 6, 7, 12] (fun c _ _ i => ∃ k : Nat, k ≤ fs.length ∧ i = .int .i64 k ∧ c = .int .u8 (eG (fs.take k))) (fun _ _ _ i => fs.length - (intOf i).toNat)
 case atStart => exact ⟨0, Nat.zero_le _, rfl, by simp [eG]⟩
 case round =>
  obtain ⟨k, hk, rfl, rfl⟩ := hrel
  by_cases hlt : k < fs.length
  ·have hcell := hb k hlt
   have hk8 : (k : Int) < 8 := by omega
   have hlt2 := uQ (fs.take k)
   rw [List.length_take, Nat.min_eq_left hk] at hlt2
   have hsn := vS (fs.take k) fs[k]
   rw [← List.take_succ_eq_append_getElem hlt, List.length_take, Nat.min_eq_left hk] at hsn
   have hor := Ot k (eG (fs.take k)) (by omega) hlt2
   cases hq : fs[k] with
   | false =>
     rw [hq] at hcell hsn
     have HS := Lib.hid hsn
     clear hsn hor hlt2
     go_wp2
     go_round
     case rel => exact ⟨k + 1, by omega, by go_num, by rw [HS.out]; simp⟩
     case measure => simp [intOf] <;> omega
   | true =>
     rw [hq] at hcell hsn
     have HS := Lib.hid hsn
     have HO := Lib.hid hor
     clear hsn hor hlt2
     go_wp2
     go_round
     case rel => exact ⟨k + 1, by omega, by go_num, by rw [HO.out, HS.out]; simp⟩
     case measure => simp [intOf] <;> omega
  ·have htk : Hid (fs.take k = fs) := List.take_of_length_le (by omega)
   rw [htk.out]
   have hfl : eG fs < 256 := by have h9 := uQ fs; have h2 : 2 ^ fs.length ≤ 2 ^ 8 := Nat.pow_le_pow_right (by omega) hf; omega
   go_wp2_with (at_builtin; go_loud (refine wpList_append_own_at _ rfl _ _ 22 rfl base 5 i0 (.int .u8 0) 1 1 Tryz.underlying22 hi hz0 hz1 hz2 rfl (by decide) _ _ _ rfl (hown.alloc _) ⟨w.heap.size, 0, none⟩ 1 1 [.int .u8 (eG fs : Int)] rfl rfl (cell_one_new _ _ _) (by simp [Value.oneCell']) (by unfold maxLen; omega) (by omega) (by simp; omega) ?_))
   intro v' w2 hown2 hgrow _ hat
   obtain ⟨hF, hB2⟩ := Jq H0.out HG.out hgrow
   rw [show (l.length + 1) = (l ++ [UInt8.ofNat (eG fs)]).length by simp, show bV l ++ [Value.int .u8 (eG fs : Int)] = bV (l ++ [UInt8.ofNat (eG fs)]) by
        rw [iM]; congr 1; simp only [bV, List.map_cons, List.map_nil, UInt8.toNat_ofNat']; congr 3; omega] at hown2
   obtain ⟨a1, cap1, rfl, hin1⟩ := iQ hown2
   have hcB := cell_of_one hB2
   have hfB := free_of_one hB2
   have hgg : Hid (∀ g, (Value.slice a1 (l ++ [UInt8.ofNat (eG fs)]).length cap1).ownBlock = some g → grow S w g ∧ g ≠ B) := fun g e => by
        have hBl := lt_of_block H0.out
        rcases hat with hat | hat
        ·rw [hat] at e; exact ⟨Or.inl (HG.out g e).1, (HG.out g e).2⟩
        ·rw [hat] at e
         have : g = w.heap.size + 1 := by simpa using e.symm
         exact ⟨Or.inr (by omega), by omega⟩
   have hfin := Lib.hid (Hu hS hB2 hF rfl hown2 hgg.out)
   clear hat hgrow hown2 hin1
   go_wp2
   go_ret
   have h9 := hfin.out
   simp only [List.length_append, List.length_cons, List.length_nil, Nat.zero_add] at h9
   exact ⟨rfl, h9.1, h9.2⟩
theorem strCells_eq (s : ByteArray) : Lib.strCells s = bV (bl s) := rfl
def gV (l : Bytes) : Bytes := bg l.length ++ l
theorem Ld (S : Nat → Prop) (B : Nat) (l : Bytes) (s : ByteArray) (w : World) (hl : l.length ≤ 268435456) (hs : s.size ≤ 268435456) (h : Wr w S B l) :
 Calls Tryz.prog 86 #[.pointer (some ⟨B, 0, none⟩), .string s] w (EH S B (l ++ gV (bl s)) w) := by
 obtain ⟨i0, hi, hz0, hz1, hz2⟩ := info_parts Tryz.infoByte
 obtain ⟨hS, v, base, h0, hown, hg⟩ := h
 obtain ⟨a, cap, rfl, hin⟩ := iQ hown
 have hc := cell_of_one h0
 have l1 := bf s.size (by omega)
 have hP := Lib.hid (CB a cap l s.size w (by omega) (by omega) hin)
 have H0 := Lib.hid h0
 clear h0 hown hg hin
 go_enter Tryz.func86, Tryz.ntmps86
 go_wp2_with (first
  | (go_at_call 89; (with_reducible refine hP.out.mono ?_); rintro e w1 ⟨v', rfl, hown1, hb⟩; have hzz := hb.size)
  | (at_builtin; go_loud (refine Lib.wpList_append_own_string _ rfl _ _ 22 9 rfl w.heap.size 5 i0 Tryz.underlying22 Tryz.underlying9 hi hz0 hz1 hz2 _ _ _ rfl hown1 s rfl (by unfold maxLen; simp; omega) (by simp; omega) (by omega) ?_)))
 intro v2 w2 hown2 hgrow _
 have hb2 := hb.grown hgrow hzz (fun k hk => (hown1.lt k hk).1)
 rw [show l.length + (bg s.size).length + s.size = (l ++ gV (bl s)).length by simp [gV, aH]; omega, show bV (l ++ bg s.size) ++ Lib.strCells s = bV (l ++ gV (bl s)) by
  rw [strCells_eq, ← iM, List.append_assoc]; simp [gV, aH]] at hown2
 obtain ⟨a1, cap1, rfl, hin1⟩ := iQ hown2
 have hcB := kept hb2 hc
 have hfB := (hb2.frozen (p := ⟨B, 0, none⟩) (lt_of_block H0.out)).trans (free_of_one H0.out)
 have hfin := Lib.hid (wX hS H0.out hb2 hown2)
 clear hgrow hown2 hin1
 go_wp2
 go_ret
 have h9 := hfin.out
 rw [List.length_append] at h9
 exact ⟨rfl, h9.1, h9.2⟩
def wC (n : Int) : Bytes := bg (Lib.zigzag n)
theorem KN (x : Int) (h0 : 0 ≤ x) (h1 : x ≤ 4398046511104) : bits BinOp.xor IntKind.u64 (IntKind.u64.wrap (IntKind.u64.wrap x * 2)) (IntKind.u64.wrap (x / 9223372036854775808)) = ((Lib.zigzag x : Nat) : Int) := by
 have e1 : IntKind.u64.wrap (IntKind.u64.wrap x * 2) = (((2 * x).toNat : Nat) : Int) := by
  rw [IntKind.wrap_u64, IntKind.wrap_u64]; omega
 have e2 : IntKind.u64.wrap (x / 9223372036854775808) = ((0 : Nat) : Int) := by
  rw [IntKind.wrap_u64]; omega
 rw [e1, e2, bits_xor_u64_nat _ _ (by omega) (by decide), Nat.xor_zero]
 unfold Lib.zigzag
 rw [if_pos h0]
theorem KO (x : Int) (h0 : -4398046511104 ≤ x) (h1 : x < 0) : bits BinOp.xor IntKind.u64 (IntKind.u64.wrap (IntKind.u64.wrap x * 2)) (IntKind.u64.wrap (x / 9223372036854775808)) = ((Lib.zigzag x : Nat) : Int) := by
 have e1 : IntKind.u64.wrap (IntKind.u64.wrap x * 2) = (((2 * x + 18446744073709551616).toNat : Nat) : Int) := by
  rw [IntKind.wrap_u64, IntKind.wrap_u64]; omega
 have e2 : IntKind.u64.wrap (x / 9223372036854775808) = ((2 ^ 64 - 1 : Nat) : Int) := by
  rw [IntKind.wrap_u64]; omega
 rw [e1, e2, bits_xor_u64_nat _ _ (by omega) (by decide), Nat.xor_comm, Lib.xor_ones64 _ (by omega)]
 unfold Lib.zigzag
 rw [if_neg (by omega)]; omega
theorem MH (x : Int) (h0 : -4398046511104 ≤ x) (h1 : x ≤ 4398046511104) : bits BinOp.xor IntKind.u64 (IntKind.u64.wrap (IntKind.u64.wrap x * 2)) (IntKind.u64.wrap (x / 9223372036854775808)) = ((Lib.zigzag x : Nat) : Int) := by
 by_cases h : 0 ≤ x
 ·exact KN x h h1
 ·exact KO x h0 (by omega)
theorem Lm (n : Int) (w : World) (h0 : -4398046511104 ≤ n) (h1 : n ≤ 4398046511104) : Calls Tryz.prog 159 #[.int .i64 n] w (fun e w' => e = .returned (.int .u64 ((Lib.zigzag n : Nat) : Int)) ∧ w = w') := by
 have HE := Lib.hid (MH n h0 h1)
 generalize Lib.zigzag n = z at HE ⊢
 go_enter Tryz.func159, Tryz.ntmps159
 go_wp2
 go_ret
 exact ⟨by rw [HE.out]; rfl, rfl⟩
theorem Jy (n : Int) (h0 : -4398046511104 ≤ n) (h1 : n ≤ 4398046511104) : Lib.zigzag n < 17592186044416 := by
 unfold Lib.zigzag; split <;> omega
theorem GH (a : Option Addr) (cap : Nat) (l : Bytes) (n : Int) (w : World) (hl : l.length ≤ 536870912) (h0 : -4398046511104 ≤ n) (h1 : n ≤ 4398046511104) (h : BytesIn w a l) :
 Calls Tryz.prog 127 #[.slice a l.length cap, .int .i64 n] w (ql (l ++ wC n) w) := by
 have hF := Lib.hid (Lm n w h0 h1)
 have hz := Jy n h0 h1
 have hP := Lib.hid (CB a cap l (Lib.zigzag n) w hl (by omega) h)
 have HE : Hid (wC n = bg (Lib.zigzag n)) := rfl
 generalize wC n = zb at HE ⊢
 generalize Lib.zigzag n = z at hF hz hP HE
 clear h
 go_enter Tryz.func127, Tryz.ntmps127
 go_wp2_with (first
  | (go_at_call 159; (with_reducible refine hF.out.mono ?_); rintro e w1 ⟨rfl, rfl⟩)
  | (go_at_call 89; (with_reducible refine hP.out.mono ?_); rintro e w1 ⟨v', rfl, hown1, hb⟩))
 go_ret
 exact ⟨_, rfl, by rw [HE.out]; exact hown1, hb⟩
theorem MV (S : Nat → Prop) (B : Nat) (l : Bytes) (n : Int) (w : World) (hl : l.length ≤ 536870912) (h0 : -4398046511104 ≤ n) (h1 : n ≤ 4398046511104) (h : Wr w S B l) :
 Calls Tryz.prog 87 #[.pointer (some ⟨B, 0, none⟩), .int .i64 n] w (EH S B (l ++ wC n) w) := by
 obtain ⟨hS, v, base, h0', hown, hg⟩ := h
 obtain ⟨a, cap, rfl, hin⟩ := iQ hown
 have hc := cell_of_one h0'
 have hP := Lib.hid (GH a cap l n w hl h0 h1 hin)
 have H0 := Lib.hid h0'
 clear h0' hown hg hin
 go_enter Tryz.func87, Tryz.ntmps87
 go_wp2_with (go_at_call 127; refine hP.out.mono ?_; rintro e w1 ⟨v', rfl, hown1, hb⟩; obtain ⟨a1, cap1, rfl, hin1⟩ := iQ hown1; have hcB := kept hb hc; have hfB := (hb.frozen (p := ⟨B, 0, none⟩) (lt_of_block H0.out)).trans (free_of_one H0.out))
 go_ret
 have := wX hS H0.out hb hown1
 rw [List.length_append] at this
 exact ⟨rfl, this.1, this.2⟩
theorem Du {S : Nat → Prop} {b : Nat} {w w2 : World} (h : ¬ S b) (hs : w.heap.size ≤ w2.heap.size) (hb : b < w.heap.size) : ¬ grow S w2 b := fun g => by
 rcases g with g | g
 ·exact h g
 ·omega
def Hm (S : Nat → Prop) (B : Nat) (l : Bytes) (w : World) (e : Ending) (w' : World) : Prop :=
 e = .returned (.tuple #[]) ∧ Wr w' (grow S w) B l ∧ Fr S w w'
theorem Gx (S : Nat → Prop) (B : Nat) (l : Bytes) (w : World) (hl : l.length ≤ 536870912) (h : Wr w S B l) :
 Calls Tryz.prog 90 #[.pointer (some ⟨B, 0, none⟩)] w (ql l w) := by
 obtain ⟨hS, v, base, h0, hown, hg⟩ := h
 obtain ⟨a, cap, rfl, hin⟩ := iQ hown
 have hc := cell_of_one h0
 have hP := Lib.hid (qo a cap l w (by omega) hin)
 have H0 := Lib.hid h0
 clear h0 hown hg hin
 go_enter Tryz.func90, Tryz.ntmps90
 go_wp2_with (go_at_call 132; refine hP.out.mono ?_; rintro e w1 ⟨v', rfl, hown1, hb⟩)
 go_ret
 exact ⟨_, rfl, hown1, hb⟩
def oq (d : Dot) : Bytes := if bK d = true then bg d.a.dev.toNat ++ bg d.a.inc.toNat ++ bg d.seq.toNat else []
def jJ (s : Stamp) : Bytes := if iH s = true then bg s.wall.toNat ++ bg s.count.toNat ++ bg s.dev.toNat else []
theorem Gh (S : Nat → Prop) (B : Nat) (l : Bytes) (d : Dot) (w : World) (hl : l.length ≤ 536870800) (h : Wr w S B l) (hSl : ∀ k, S k → k < w.heap.size) :
 Calls Tryz.prog 36 #[.pointer (some ⟨B, 0, none⟩), .agg #[.int .i64 d.a.dev, .int .i64 d.a.inc, .int .i64 d.seq]] w (Hm S B (l ++ oq d) w) := by
 have HR0 := fun (W : World) => iK d W
 cases h1 : bK d with
 | false =>
   have HB : Hid (l ++ oq d = l) := by unfold Hid oq; rw [h1]; simp
   rw [h1] at HR0
   have HR := Lib.hid HR0
   clear HR0 h1
   go_enter Tryz.func36, Tryz.ntmps36
   go_wp2_with (go_at_call 65; refine (HR.out _).mono ?_; rintro e w1 ⟨rfl, hb⟩)
   go_end0
   have hb2 := below2 ((Below.refl w.heap.size w).alloc (Nat.le_refl _) (Obj.cells #[.int .i64 d.a.dev, .int .i64 d.a.inc, .int .i64 d.seq] 56)) hb
   exact ⟨rfl, by rw [HB.out]; exact (h.frame (Fr.of_below (S := fun _ => False) hb2) (fun _ _ g => g)).mono (fun _ g => Or.inl g), Fr.of_below hb2⟩
 | true =>
   have hd : 0 ≤ d.a.dev ∧ d.a.dev < 64 ∧ 1 ≤ d.a.inc ∧ d.a.inc ≤ 1048576 ∧ 1 ≤ d.seq ∧ d.seq ≤ 4294967296 := by
    have := h1; unfold bK iW at this; simp at this; omega
   have HB : Hid (l ++ oq d = l ++ bg d.a.dev.toNat ++ bg d.a.inc.toNat ++ bg d.seq.toNat) := by unfold Hid oq; rw [h1]; simp
   rw [h1] at HR0
   have HR := Lib.hid HR0
   obtain ⟨x, hx⟩ : ∃ x : Nat, d.a.dev = x := ⟨d.a.dev.toNat, by omega⟩
   obtain ⟨y, hy⟩ : ∃ y : Nat, d.a.inc = y := ⟨d.a.inc.toNat, by omega⟩
   obtain ⟨z, hz⟩ : ∃ z : Nat, d.seq = z := ⟨d.seq.toNat, by omega⟩
   rw [hx, hy, hz] at hd HB
   rw [hx, hy, hz] at HR ⊢
   obtain ⟨e1, e2, e3, e4, e5, e6⟩ := hd
   have l1 := bf x (by omega)
   have l2 := bf y (by omega)
   have l3 := bf z (by omega)
   clear HR0 h1 hx hy hz
   go_enter Tryz.func36, Tryz.ntmps36
   go_wp2_with (go_at_call 65; refine (HR.out _).mono ?_; rintro e w1 ⟨rfl, hb⟩; have q0 := kept hb (World.cell?_alloc_new w #[.int .i64 x, .int .i64 y, .int .i64 z] 56 0); have q1 := kept hb (World.cell?_alloc_new w #[.int .i64 x, .int .i64 y, .int .i64 z] 56 1); have q2 := kept hb (World.cell?_alloc_new w #[.int .i64 x, .int .i64 y, .int .i64 z] 56 2))
   have hz1 : w.heap.size < w1.heap.size := World.block_lt_of_cell? w1 _ q0
   have hb2 := below2 ((Below.refl w.heap.size w).alloc (Nat.le_refl _) (Obj.cells #[.int .i64 (x : Int), .int .i64 (y : Int), .int .i64 (z : Int)] 56)) hb
   have hw1 : Wr w1.drew S B l := (h.frame (Fr.of_below (S := fun _ => False) hb2) (fun _ _ g => g)).frame (Fr.of_below (S := fun _ => False) (Below.refl w1.heap.size w1).drew) (fun _ _ g => g)
   have hns : ¬ S w.heap.size := fun g => by have := hSl _ g; omega
   have dJ : ¬ grow S w1.drew w.heap.size := fun g => by rcases g with g | g; exact hns g; simp at g; omega
   have Q0 : w1.drew.cell? ⟨w.heap.size, 0, none⟩ = some (.int .i64 x) := q0
   have Q1 : w1.drew.cell? ⟨w.heap.size, 1, none⟩ = some (.int .i64 y) := q1
   have Q2 : w1.drew.cell? ⟨w.heap.size, 2, none⟩ = some (.int .i64 z) := q2
   have HN1 := Lib.hid (o5 S B l x w1.drew (by omega) (by omega) hw1)
   have HN2 := Lib.hid (fun (W : World) (hW : Wr W (grow S w1.drew) B (l ++ bg x)) => o5 (grow S w1.drew) B (l ++ bg x) y W (by simp; omega) (by omega) hW)
   have HN3 := Lib.hid (fun (T : Nat → Prop) (W : World) (hW : Wr W T B (l ++ bg x ++ bg y)) => o5 T B (l ++ bg x ++ bg y) z W (by simp; omega) (by omega) hW)
   have hwx : IntKind.u64.wrap (x : Int) = (x : Int) := IntWalk.u64_in _ (by omega)
   have hwy : IntKind.u64.wrap (y : Int) = (y : Int) := IntWalk.u64_in _ (by omega)
   have hwz : IntKind.u64.wrap (z : Int) = (z : Int) := IntWalk.u64_in _ (by omega)
   clear q0 q1 q2
   go_region_held3 (fun w' => w'.cell? ⟨w.heap.size, 0, none⟩ = some (.int .i64 x) ∧ w'.cell? ⟨w.heap.size, 1, none⟩ = some (.int .i64 y) ∧ w'.cell? ⟨w.heap.size, 2, none⟩ = some (.int .i64 z)) (first | exact ⟨k0, k1, k2⟩ | go_keep)
    (first
        | (go_at_call 35; (with_reducible refine HN1.out.mono ?_); rintro e w2 ⟨rfl, hw2, hf2⟩; have k0 := hf2.kept Q0 hns; have k1 := hf2.kept Q1 hns; have k2 := hf2.kept Q2 hns)
        | (go_at_call 35; (with_reducible refine (HN2.out _ hw2).mono ?_); rintro e w3 ⟨rfl, hw3, hf3⟩; have k0 := hf3.kept k0 dJ; have k1 := hf3.kept k1 dJ; have k2 := hf3.kept k2 dJ)
        | (go_at_call 35; (with_reducible refine (HN3.out _ _ hw3).mono ?_); rintro e w4 ⟨rfl, hw4, hf4⟩; have FT := Du dJ hf2.size (by simpa using hz1); have k0 := hf4.kept k0 FT; have k1 := hf4.kept k1 FT; have k2 := hf4.kept k2 FT))
   go_wp2
   go_end0
   have PU : w1.drew.heap.size ≤ w2.heap.size := hf2.size
   refine ⟨rfl, ?_, ?_⟩
   ·rw [HB.out]
    refine hw4.mono fun k g => ?_
    have g1 := grow_grow hf3.size k g
    have g2 := grow_grow hf2.size k g1
    rcases g2 with g2 | g2
    ·exact Or.inl g2
    ·exact Or.inr (by simp at g2; omega)
   ·exact (Fr.of_below (hb2.drew)).trans (((hf2.trans (hf3.trans hf4)).mono fun k hk g => Or.inl g))
theorem Cc (S : Nat → Prop) (B : Nat) (l : Bytes) (d : Stamp) (w : World) (hl : l.length ≤ 536870800) (h : Wr w S B l) (hSl : ∀ k, S k → k < w.heap.size) :
 Calls Tryz.prog 84 #[.pointer (some ⟨B, 0, none⟩), .agg #[.int .i64 d.wall, .int .i64 d.count, .int .i64 d.dev]] w (Hm S B (l ++ jJ d) w) := by
 have HR0 := fun (W : World) => qi d W
 cases h1 : iH d with
 | false =>
   have HB : Hid (l ++ jJ d = l) := by unfold Hid jJ; rw [h1]; simp
   rw [h1] at HR0
   have HR := Lib.hid HR0
   clear HR0 h1
   go_enter Tryz.func84, Tryz.ntmps84
   go_wp2_with (go_at_call 112; refine (HR.out _).mono ?_; rintro e w1 ⟨rfl, hb⟩)
   go_end0
   have hb2 := below2 ((Below.refl w.heap.size w).alloc (Nat.le_refl _) (Obj.cells #[.int .i64 d.wall, .int .i64 d.count, .int .i64 d.dev] 58)) hb
   exact ⟨rfl, by rw [HB.out]; exact (h.frame (Fr.of_below (S := fun _ => False) hb2) (fun _ _ g => g)).mono (fun _ g => Or.inl g), Fr.of_below hb2⟩
 | true =>
   have hd : 0 ≤ d.wall ∧ d.wall ≤ 4398046511104 ∧ 0 ≤ d.count ∧ d.count ≤ 65535 ∧ 0 ≤ d.dev ∧ d.dev ≤ 63 := by
    have := h1; unfold iH at this; simp at this; omega
   have HB : Hid (l ++ jJ d = l ++ bg d.wall.toNat ++ bg d.count.toNat ++ bg d.dev.toNat) := by unfold Hid jJ; rw [h1]; simp
   rw [h1] at HR0
   have HR := Lib.hid HR0
   obtain ⟨x, hx⟩ : ∃ x : Nat, d.wall = x := ⟨d.wall.toNat, by omega⟩
   obtain ⟨y, hy⟩ : ∃ y : Nat, d.count = y := ⟨d.count.toNat, by omega⟩
   obtain ⟨z, hz⟩ : ∃ z : Nat, d.dev = z := ⟨d.dev.toNat, by omega⟩
   rw [hx, hy, hz] at hd HB
   rw [hx, hy, hz] at HR ⊢
   obtain ⟨e1, e2, e3, e4, e5, e6⟩ := hd
   have l1 := bf x (by omega)
   have l2 := bf y (by omega)
   have l3 := bf z (by omega)
   clear HR0 h1 hx hy hz
   go_enter Tryz.func84, Tryz.ntmps84
   go_wp2_with (go_at_call 112; refine (HR.out _).mono ?_; rintro e w1 ⟨rfl, hb⟩; have q0 := kept hb (World.cell?_alloc_new w #[.int .i64 x, .int .i64 y, .int .i64 z] 58 0); have q1 := kept hb (World.cell?_alloc_new w #[.int .i64 x, .int .i64 y, .int .i64 z] 58 1); have q2 := kept hb (World.cell?_alloc_new w #[.int .i64 x, .int .i64 y, .int .i64 z] 58 2))
   have hz1 : w.heap.size < w1.heap.size := World.block_lt_of_cell? w1 _ q0
   have hb2 := below2 ((Below.refl w.heap.size w).alloc (Nat.le_refl _) (Obj.cells #[.int .i64 (x : Int), .int .i64 (y : Int), .int .i64 (z : Int)] 58)) hb
   have hw1 : Wr w1.drew S B l := (h.frame (Fr.of_below (S := fun _ => False) hb2) (fun _ _ g => g)).frame (Fr.of_below (S := fun _ => False) (Below.refl w1.heap.size w1).drew) (fun _ _ g => g)
   have hns : ¬ S w.heap.size := fun g => by have := hSl _ g; omega
   have dJ : ¬ grow S w1.drew w.heap.size := fun g => by rcases g with g | g; exact hns g; simp at g; omega
   have Q0 : w1.drew.cell? ⟨w.heap.size, 0, none⟩ = some (.int .i64 x) := q0
   have Q1 : w1.drew.cell? ⟨w.heap.size, 1, none⟩ = some (.int .i64 y) := q1
   have Q2 : w1.drew.cell? ⟨w.heap.size, 2, none⟩ = some (.int .i64 z) := q2
   have HN1 := Lib.hid (o5 S B l x w1.drew (by omega) (by omega) hw1)
   have HN2 := Lib.hid (fun (W : World) (hW : Wr W (grow S w1.drew) B (l ++ bg x)) => o5 (grow S w1.drew) B (l ++ bg x) y W (by simp; omega) (by omega) hW)
   have HN3 := Lib.hid (fun (T : Nat → Prop) (W : World) (hW : Wr W T B (l ++ bg x ++ bg y)) => o5 T B (l ++ bg x ++ bg y) z W (by simp; omega) (by omega) hW)
   have hwx : IntKind.u64.wrap (x : Int) = (x : Int) := IntWalk.u64_in _ (by omega)
   have hwy : IntKind.u64.wrap (y : Int) = (y : Int) := IntWalk.u64_in _ (by omega)
   have hwz : IntKind.u64.wrap (z : Int) = (z : Int) := IntWalk.u64_in _ (by omega)
   clear q0 q1 q2
   go_region_held3 (fun w' => w'.cell? ⟨w.heap.size, 0, none⟩ = some (.int .i64 x) ∧ w'.cell? ⟨w.heap.size, 1, none⟩ = some (.int .i64 y) ∧ w'.cell? ⟨w.heap.size, 2, none⟩ = some (.int .i64 z)) (first | exact ⟨k0, k1, k2⟩ | go_keep)
    (first
        | (go_at_call 35; (with_reducible refine HN1.out.mono ?_); rintro e w2 ⟨rfl, hw2, hf2⟩; have k0 := hf2.kept Q0 hns; have k1 := hf2.kept Q1 hns; have k2 := hf2.kept Q2 hns)
        | (go_at_call 35; (with_reducible refine (HN2.out _ hw2).mono ?_); rintro e w3 ⟨rfl, hw3, hf3⟩; have k0 := hf3.kept k0 dJ; have k1 := hf3.kept k1 dJ; have k2 := hf3.kept k2 dJ)
        | (go_at_call 35; (with_reducible refine (HN3.out _ _ hw3).mono ?_); rintro e w4 ⟨rfl, hw4, hf4⟩; have FT := Du dJ hf2.size (by simpa using hz1); have k0 := hf4.kept k0 FT; have k1 := hf4.kept k1 FT; have k2 := hf4.kept k2 FT))
   go_wp2
   go_end0
   have PU : w1.drew.heap.size ≤ w2.heap.size := hf2.size
   refine ⟨rfl, ?_, ?_⟩
   ·rw [HB.out]
    refine hw4.mono fun k g => ?_
    have g1 := grow_grow hf3.size k g
    have g2 := grow_grow hf2.size k g1
    rcases g2 with g2 | g2
    ·exact Or.inl g2
    ·exact Or.inr (by simp at g2; omega)
   ·exact (Fr.of_below (hb2.drew)).trans (((hf2.trans (hf3.trans hf4)).mono fun k hk g => Or.inl g))
end Go.Proofs.YtdlmbflhbecggaaGreat
