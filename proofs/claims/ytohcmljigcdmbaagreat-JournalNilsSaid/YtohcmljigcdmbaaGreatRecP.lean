/- Records' lines, plainly: what they are, how they are scanned, cut off anywhere. Conditions: none. -/
import Derived.Test.YtohcmljigcdmbaaGreatRec
import Derived.Test.YtohcmljigcdmbaaGreatOpen
import Derived.Test.YtohcmljigcdmbaaGreatInj
import Derived.Great.BuildSlice
set_option linter.unusedSimpArgs false
set_option linter.unusedVariables false
set_option linter.unnecessarySimpa false
set_option maxHeartbeats 16000000
set_option maxRecDepth 100000
namespace Go.Proofs.YtohcmljigcdmbaaGreat
/-! ### records -/
def recB (x : Rec) : Bytes := shortB x.kind.toNat ++ (if x.kind = 1 then shortB x.inc.toNat else evB x.e)
def recLine (x : Rec) : Bytes := frameB (recB x)
theorem recOk_cases {x : Rec} (h : recOk x = true) : (x.kind = 1 ∧ 1 ≤ x.inc ∧ x.inc ≤ 1048576 ∧ x.e = ev0) ∨ (x.kind = 2 ∧ x.inc = 0 ∧ evOk x.e = true) := by
 unfold recOk at h
 split at h
 ·simp only [Bool.and_eq_true, decide_eq_true_eq] at h
  exact Or.inl ⟨‹_›, h.1, h.2.1, h.2.2⟩
 ·split at h
  ·simp only [Bool.and_eq_true, decide_eq_true_eq] at h
   exact Or.inr ⟨‹_›, h.1, h.2⟩
  ·cases h
theorem recRead_recB {x : Rec} (h : recOk x = true) : recRead (recB x) = (x, 0) := by
 unfold recRead recB
 rcases recOk_cases h with ⟨h1, h2, h3, h4⟩ | ⟨h1, h2, h3⟩
 ·rw [if_pos h1, h1, show (1 : Int).toNat = 1 from rfl, rNum_short 4294967296 1 _ (by omega) (by omega)]
  unfold recRest
  simp only
  rw [if_pos trivial]
  have := rNum_short 1048576 x.inc.toNat [] (by omega) (by omega)
  rw [List.append_nil] at this
  rw [this]
  simp only
  rw [if_neg (by omega)]
  unfold recEnd rEnd
  simp
  obtain ⟨k, i, e⟩ := x
  simp only at h1 h2 h4
  subst h1 h4
  simp; omega
 ·rw [if_neg (by omega), h1, show (2 : Int).toNat = 2 from rfl, rNum_short 4294967296 2 _ (by omega) (by omega)]
  unfold recRest
  simp only
  rw [if_neg (by omega), if_pos trivial]
  have := rEv_ev h3 []
  rw [List.append_nil] at this
  rw [this]
  unfold recEnd rEnd
  simp
  obtain ⟨k, i, e⟩ := x
  simp only at h1 h2
  subst h1 h2
  rfl
/-- the records of bodies -/
def recScanB : List Bytes → List Rec × Nat
 | [] => ([], 0)
 | b :: r => if (recRead b).2 = 0 then ((recRead b).1 :: (recScanB r).1, sizeN b.length + (recScanB r).2) else ([], 0)
def recScan (l : Bytes) : List Rec × Nat := recScanB (frScan l).1
theorem recScan_none {l : Bytes} (h : (frGet l).2.2 ≠ 0) : recScan l = ([], 0) := by
 unfold recScan
 rw [frScan_no (m := (frGet l).1) (n := (frGet l).2.1) rfl h]
 rfl
theorem recScan_line {x : Rec} (h : recOk x = true) (hl : (recB x).length ≤ 1048576) (s : Bytes) : recScan (recLine x ++ s) = (x :: (recScan s).1, (recLine x).length + (recScan s).2) := by
 unfold recScan recLine
 rw [frScan_ok (frGet_frame (recB x) s hl)]
 have hd : (frameB (recB x) ++ s).drop (sizeN (recB x).length) = s := by rw [← frameB_len]; simp
 rw [hd]
 simp only [recScanB]
 rw [recRead_recB h, if_pos rfl, frameB_len]
def linesB (l : List Rec) : Bytes := l.flatMap recLine
theorem linesB_snoc (l : List Rec) (x : Rec) : linesB (l ++ [x]) = linesB l ++ recLine x := by simp [linesB]
def RecsOk (l : List Rec) : Prop := ∀ x ∈ l, recOk x = true ∧ (recB x).length ≤ 1048576
theorem recScan_lines : ∀ (l : List Rec) (s : Bytes), RecsOk l → recScan (linesB l ++ s) = (l ++ (recScan s).1, (linesB l).length + (recScan s).2)
 | [], s, _ => by simp [linesB]
 | x :: r, s, h => by
   have h1 := h x (by simp)
   have ih := recScan_lines r s (fun y hy => h y (by simp [hy]))
   have e : linesB (x :: r) = recLine x ++ linesB r := by simp [linesB]
   rw [e, List.append_assoc, recScan_line h1.1 h1.2, ih]
   simp [Nat.add_assoc]
theorem sizeN_pos (n : Nat) : 0 < sizeN n := by unfold sizeN; omega
end Go.Proofs.YtohcmljigcdmbaaGreat
/- Records, packed: by the reference and by the program, with the line. Conditions: at most 2^26 bytes ahead of the line. -/
namespace Go.Proofs.YtohcmljigcdmbaaGreat
open Go.RowKit
theorem recB_short {x : Rec} (h : recOk x = true) : (recB x).length ≤ 8212 := by
 unfold recB
 rcases recOk_cases h with ⟨h1, h2, h3, h4⟩ | ⟨h1, h2, h3⟩
 ·rw [if_pos h1]
  have a := shortB_len10 x.kind.toNat (by omega)
  have b := shortB_len10 x.inc.toNat (by omega)
  simp only [List.length_append]; omega
 ·rw [if_neg (by omega)]
  have a := shortB_len10 x.kind.toNat (by omega)
  have b := evB_short h3
  simp only [List.length_append]; omega
theorem recB_ne (x : Rec) : recB x ≠ [] := by
 unfold recB; intro h; exact shortB_ne _ (List.append_eq_nil_iff.1 h).1
theorem recsOk_of {l : List Rec} (h : ∀ x ∈ l, recOk x = true) : RecsOk l := fun x hx => ⟨h x hx, by have := recB_short (h x hx); omega⟩
theorem recLine_len {x : Rec} (h : recOk x = true) : (recLine x).length ≤ 8226 := by
 have := recB_short h
 unfold recLine; rw [frameB_len]; unfold sizeN
 have := shortB_len10 (recB x).length (by omega)
 omega
theorem RecLine_yes (x : Rec) (al : Option Addr) (cl : Nat) (l : Bytes) (a : Option Addr) (cap : Nat) (w : World) (hl : l.length ≤ 67108864) (hin : BytesIn w al l) (hover : DotsIn w a x.e.over)
 (hold : ∀ A off, a = some ⟨A, off, none⟩ → x.e.over ≠ [] → A < w.heap.size) (hok : recOk x = true) :
 Calls Tryz.prog 36 #[.slice al l.length cl, recVal x a cap] w (RetOk (l ++ recLine x) w) := by
 have hlen := recB_short hok
 have HF := Lib.hid (fun (W : World) (b : Option Addr) (c : Nat) (h1 : BytesIn W al l) (h : BytesIn W b (recB x)) => FramePut_any al b cl c l (recB x) W (by omega) (by omega) (recB_ne x) h1 h)
 rcases recOk_cases hok with ⟨h1, h2, h3, h4⟩ | ⟨h1, h2, h3⟩
 ·have hs : EvSmall x.e := by rw [h4]; constructor <;> exact Nat.zero_le _
  have hR0 := fun (W : World) (h : DotsIn W a x.e.over) => RecRight_any x a cap W hs h
  rw [hok] at hR0
  have HR := Lib.hid hR0
  obtain ⟨n, hn⟩ : ∃ n : Nat, x.inc = n := ⟨x.inc.toNat, by omega⟩
  have HE : Hid (recB x = shortB 1 ++ shortB n) := by unfold Hid recB; rw [if_pos h1, h1, hn]; rfl
  have hnb : n < 18446744073709551616 := by omega
  have hns : n < 9223372036854775808 := by omega
  have l1 := shortB_len10 1 (by omega)
  have l2 := shortB_len10 n hnb
  obtain ⟨K, hK⟩ : ∃ K, K = shortB 1 := ⟨_, rfl⟩
  have H1 := Lib.hid (fun (W0 W : World) (B : Nat) (h : Hold (fun k => k = B) W0 B W []) => (show Calls Tryz.prog 76 #[.pointer (some ⟨B, 0, none⟩), .int .u64 1] W (RetHold (fun k => k = B) W0 B K) by have := Num_h h 1 (by simp) (by omega); rwa [List.nil_append, ← hK] at this))
  have l3 : (K ++ shortB n).length ≤ 20 := by rw [hK, List.length_append]; omega
  have H2 := Lib.hid (fun (W0 W : World) (B : Nat) (h : Hold (fun k => k = B) W0 B W K) => Num_h h n (by rw [hK]; omega) hnb)
  rw [← hK] at HE l1
  have X1 := Lib.hid h1
  have XN := Lib.hid hn
  clear hR0 hok hK h4 h1 hn h2 h3
  go_enter Tryz.func36, Tryz.ntmps36
  go_upto_region 1 with fail
  refine wp_name (fun W hW => ?_)
  have hb0 : Below w.heap.size w W := by rw [hW.out]; go_grown
  have hC : W.rangeAt w.heap.size 0 (recCells x a cap) := by rw [hW.out]; exact recCells_box x a cap w _
  have ho := hover.kept hb0
  have hz : w.heap.size < W.heap.size := by rw [hW.out]; simp
  clear hW hover
  go_upto_region 3 with (first
   | ((with_reducible refine wpList_load_to 62 _ w.heap.size 0 (recCells x a cap) (recVal x a cap) rfl _ Tryz.underlying62 rfl (by kernel_rfl) hC ?_ rfl ?_); exact rfl)
   | (go_at_call 75; (with_reducible refine (HR.out _ ho).mono ?_); rintro e w1 ⟨rfl, hb⟩; replace hb0 := below2 hb0 hb; replace hC := rangeAt_kept hC hb; replace ho := ho.kept hb; replace hz := Nat.lt_of_lt_of_le hz hb.size))
  go_upto_region 4 with fail
  refine wp_name (fun W4 hW4 => ?_)
  have hb4 : Below w1.heap.size w1 W4 := by rw [hW4.out]; go_grown
  have hH : Hold (fun k => k = w1.heap.size) W4 w1.heap.size W4 [] := by
   refine Hold.start ⟨rfl, .slice none 0 0, 0, by rw [hW4.out]; exact Array.getElem?_push_size, World.ownsRow_nil _ _ _ _, fun g hg => by cases hg⟩
  have hlt4 : w1.heap.size < W4.heap.size := by rw [hW4.out]; simp
  replace hb0 := below2 hb0 hb4
  replace hC := rangeAt_kept hC hb4
  replace ho := ho.kept hb4
  clear hW4 hb4
  have c0 : W4.cell? ⟨w.heap.size, 0, none⟩ = some (.int .i64 1) := by have := hC 0 _ rfl; rwa [X1.out] at this
  have c1 : W4.cell? ⟨w.heap.size, 1, none⟩ = some (.int .i64 n) := by have := hC 1 _ rfl; rwa [XN.out] at this
  clear hC ho HR
  go_upto_region 5 with (go_at_call 76; (with_reducible refine (H1.out _ _ _ hH).mono ?_); rintro e w5 ⟨rfl, H5⟩)
  replace c0 := H5.kept c0 (by simp; omega)
  replace c1 := H5.kept c1 (by simp; omega)
  go_upto_region 8 with (go_at_call 76; (with_reducible refine (H2.out _ _ _ H5).mono ?_); rintro e w6 ⟨rfl, H6⟩)
  have hbt : Below w.heap.size w w6 := hb0.trans (H6.fr.below (by omega) (fun k g => by omega))
  replace hin := hin.kept hbt
  clear c0 c1 H5 hH
  rw [← HE.out] at H6
  go_wp2_with (first
   | (go_at_call 79; (with_reducible refine (WBytes_h H6 (by omega)).mono ?_); rintro e w7 ⟨v, rfl, hown, hb⟩; obtain ⟨ab, cb, rfl, hinb⟩ := own_bytes hown; replace hbt := below2 hbt hb; replace hin := hin.kept hb)
   | (go_at_call 78; (with_reducible refine (HF.out _ _ _ hin hinb).mono ?_); rintro e w8 ⟨v, rfl, hown2, hb2⟩))
  go_ret2
  exact ⟨_, rfl, own_low hown2 hbt.size, below2 hbt hb2⟩
 ·have hR0 := fun (W : World) (h : DotsIn W a x.e.over) => RecRight_any x a cap W (evOk_small h3) h
  rw [hok] at hR0
  have HR := Lib.hid hR0
  have HE : Hid (recB x = shortB 2 ++ evB x.e) := by unfold Hid recB; rw [if_neg (by omega), h1]; rfl
  have l1 := shortB_len10 2 (by omega)
  have l2 := evB_short h3
  obtain ⟨K, hK⟩ : ∃ K, K = shortB 2 := ⟨_, rfl⟩
  have H1 := Lib.hid (fun (W0 W : World) (B : Nat) (h : Hold (fun k => k = B) W0 B W []) => (show Calls Tryz.prog 76 #[.pointer (some ⟨B, 0, none⟩), .int .u64 2] W (RetHold (fun k => k = B) W0 B K) by have := Num_h h 2 (by simp) (by omega); rwa [List.nil_append, ← hK] at this))
  have l3 : (K ++ evB x.e).length ≤ 8300 := by rw [hK, List.length_append]; omega
  have H2 := Lib.hid (fun (W : World) (S : Nat → Prop) (B : Nat) (h : DotsIn W a x.e.over) (hSA : ∀ A off, a = some ⟨A, off, none⟩ → x.e.over ≠ [] → ¬ S A) (hw : Wr W S B K) => eventPut_yes S B K x.e a cap W (by rw [hK]; omega) (evOk_small h3) (evOk_short h3).tiny h hSA hw h3)
  rw [← hK] at HE l1
  have X1 := Lib.hid h1
  clear hR0 hok hK h1 h2 h3
  go_enter Tryz.func36, Tryz.ntmps36
  go_upto_region 1 with fail
  refine wp_name (fun W hW => ?_)
  have hb0 : Below w.heap.size w W := by rw [hW.out]; go_grown
  have hC : W.rangeAt w.heap.size 0 (recCells x a cap) := by rw [hW.out]; exact recCells_box x a cap w _
  have ho := hover.kept hb0
  have hz : w.heap.size < W.heap.size := by rw [hW.out]; simp
  clear hW hover
  go_upto_region 3 with (first
   | ((with_reducible refine wpList_load_to 62 _ w.heap.size 0 (recCells x a cap) (recVal x a cap) rfl _ Tryz.underlying62 rfl (by kernel_rfl) hC ?_ rfl ?_); exact rfl)
   | (go_at_call 75; (with_reducible refine (HR.out _ ho).mono ?_); rintro e w1 ⟨rfl, hb⟩; replace hb0 := below2 hb0 hb; replace hC := rangeAt_kept hC hb; replace ho := ho.kept hb; replace hz := Nat.lt_of_lt_of_le hz hb.size))
  go_upto_region 4 with fail
  refine wp_name (fun W4 hW4 => ?_)
  have hb4 : Below w1.heap.size w1 W4 := by rw [hW4.out]; go_grown
  have hH : Hold (fun k => k = w1.heap.size) W4 w1.heap.size W4 [] := by
   refine Hold.start ⟨rfl, .slice none 0 0, 0, by rw [hW4.out]; exact Array.getElem?_push_size, World.ownsRow_nil _ _ _ _, fun g hg => by cases hg⟩
  have hlt4 : w1.heap.size < W4.heap.size := by rw [hW4.out]; simp
  replace hb0 := below2 hb0 hb4
  replace hC := rangeAt_kept hC hb4
  replace ho := ho.kept hb4
  clear hW4 hb4
  have c0 : W4.cell? ⟨w.heap.size, 0, none⟩ = some (.int .i64 2) := by have := hC 0 _ rfl; rwa [X1.out] at this
  have hR := range_ev hC
  clear hC HR
  go_upto_region 5 with (go_at_call 76; (with_reducible refine (H1.out _ _ _ hH).mono ?_); rintro e w5 ⟨rfl, H5⟩)
  replace c0 := H5.kept c0 (by simp; omega)
  replace hR := H5.range hR (by omega)
  have ho5 : DotsIn w5 a x.e.over := ho.keep (fun A off h hne => H5.fr.block A (by have := hold A off h hne; omega) (by have := hold A off h hne; omega))
  have H2x := Lib.hid (H2.out w5 _ w1.heap.size ho5 (fun A off h hne g => by have := hold A off h hne; rcases g with g | g <;> omega) H5.wr)
  clear ho H2
  go_upto_region 8 with (first
   | ((with_reducible refine wpList_load_evo _ w.heap.size 2 x.e a cap hR ?_ rfl ?_); exact rfl)
   | (go_at_call 77; (with_reducible refine H2x.out.mono ?_); rintro e w6 ⟨rfl, H6⟩))
  have hF6 := H5.fr.trans (H6.fr.mono (fun k _ g => g))
  have hbt : Below w.heap.size w w6 := hb0.trans (hF6.below (by omega) (fun k g => by omega))
  replace hin := hin.kept hbt
  clear c0 hR H5 hH ho5
  rw [← HE.out] at H6
  go_wp2_with (first
   | (go_at_call 79; (with_reducible refine (WBytes_h H6 (by omega)).mono ?_); rintro e w7 ⟨v, rfl, hown, hb⟩; obtain ⟨ab, cb, rfl, hinb⟩ := own_bytes hown; replace hbt := below2 hbt hb; replace hin := hin.kept hb)
   | (go_at_call 78; (with_reducible refine (HF.out _ _ _ hin hinb).mono ?_); rintro e w8 ⟨v, rfl, hown2, hb2⟩))
  go_ret2
  exact ⟨_, rfl, own_low hown2 hbt.size, below2 hbt hb2⟩
end Go.Proofs.YtohcmljigcdmbaaGreat
/- The records at the beginning of bytes. Conditions: at most 2^30 bytes. -/
namespace Go.Proofs.YtohcmljigcdmbaaGreat
open Go.RowKit
/-- a slice of one struct, laid down -/
theorem wpList_buildOne {P : Program} {ops : Array Oper} {rest : List Oper} {o : Oper} {a : Act} {w : World} {Q : Exit → Act → World → Prop} (hg : o.guard = none) (t e : TypeId) (x : Operand) (ho : o.op = .buildSlice t 1 #[(0, x)])
 (c : Array Value) (n : Nat) (hx : a.eval x = .agg c) (hc : c.size = n) (hn : 0 < n) (hnn : n ≤ 16777216) (hu : P.underlying t = some (.slice e)) (hi : (P.info? e).map (·.size) = some n) (hz : ((P.info? e).bind (·.zero)).isSome = true)
 (h : wpList P ops Q rest (a.put o.dst (.slice (some ⟨w.heap.size, 0, none⟩) 1 1)) (w.alloc (.cells c e))) : wpList P ops Q (o :: rest) a w := by
 cases hie : P.info? e with
 | none => simp [hie] at hi
 | some ie =>
   simp only [hie, Option.map_some, Option.some.injEq, Option.bind_some] at hi hz
   obtain ⟨z, hzz⟩ := Option.isSome_iff_exists.1 hz
   refine wpList_buildSlice hg t e 1 #[(0, x)] ho c ie z hu hie hzz (by rw [hi]; omega) (by rw [hi]; omega) ?_ h
   have hcs : (Value.agg c).cells.size = ie.size := by rw [hi]; exact hc
   have h2 := Great.fill_whole (s := ie.size) (by omega) [.agg c] ((Array.range (1 * ie.size)).map (z.cells[· % z.cells.size]!)) (by simp only [List.mem_singleton, forall_eq]; exact hcs) (by simp)
   have e1 : ((#[(0, x)] : Array (Nat × Operand)).map fun (i, x) => (i, a.eval x)).toList = (([Value.agg c].zipIdx 0).map fun x => (x.2, x.1)) := by simp [hx]
   rw [e1, h2]
   simp [Value.cells]
abbrev RecIt := Rec × Option Addr × Nat
def itCells (l : List RecIt) : List Value := l.flatMap fun x => recCells x.1 x.2.1 x.2.2
theorem recCells_len (x : Rec) (a : Option Addr) (cap : Nat) : (recCells x a cap).length = 21 := rfl
theorem itCells_snoc (l : List RecIt) (x : RecIt) : itCells (l ++ [x]) = itCells l ++ recCells x.1 x.2.1 x.2.2 := by simp [itCells]
theorem recCells_one (x : Rec) (a : Option Addr) (cap : Nat) : ∀ u ∈ recCells x a cap, u.oneCell' = true := by
 intro u hu
 simp only [recCells, evCells, List.mem_cons, List.not_mem_nil, or_false] at hu
 rcases hu with rfl | rfl | rfl | rfl | rfl | rfl | rfl | rfl | rfl | rfl | rfl | rfl | rfl | rfl | rfl | rfl | rfl | rfl | rfl | rfl | rfl <;> rfl
theorem itCells_at : ∀ (l : List RecIt) (i j : Nat) (u : Value) (hi : i < l.length), (recCells l[i].1 l[i].2.1 l[i].2.2)[j]? = some u → (itCells l)[i * 21 + j]? = some u
 | [], i, _, _, hi, _ => by simp at hi
 | x :: r, i, j, u, hi, h => by
   have e : itCells (x :: r) = recCells x.1 x.2.1 x.2.2 ++ itCells r := by simp [itCells]
   have hj : j < 21 := by
     have := (List.getElem?_eq_some_iff.1 h).1
     rwa [recCells_len] at this
   rw [e]
   cases i with
   | zero =>
     rw [List.getElem?_append_left (by rw [recCells_len]; omega)]
     simpa using h
   | succ i =>
     rw [List.getElem?_append_right (by rw [recCells_len]; omega), recCells_len, show (i + 1) * 21 + j - 21 = i * 21 + j by omega]
     exact itCells_at r i j u (by simpa using hi) (by simpa using h)
theorem DotsIn.lt {w : World} {A off : Nat} {l : List Dot} (h : DotsIn w (some ⟨A, off, none⟩) l) (hl : l ≠ []) : A < w.heap.size := by
 rcases h with h | ⟨A', off', he, h⟩
 ·exact absurd h hl
 ·cases he
  exact World.block_lt_of_cell? w _ (h.dev 0 (List.length_pos_iff.2 hl))
/-- a list of records that grows, in memory of its own; the dots elsewhere -/
structure RecsOwn (w0 : World) (v : Value) (ls : List RecIt) (W : World) : Prop where
 own : W.ownsRow w0.heap.size 62 21 v ls.length (itCells ls)
 dots : ∀ x ∈ ls, DotsIn W x.2.1 x.1.e.over
 ne : ∀ x ∈ ls, ∀ A off, x.2.1 = some ⟨A, off, none⟩ → w0.heap.size ≤ A ∧ (x.1.e.over ≠ [] → v.ownBlock ≠ some A)
 bel : Below w0.heap.size w0 W
theorem RecsOwn.nil (w0 : World) : RecsOwn w0 (.slice none 0 0) [] w0 := ⟨World.ownsRow_nil _ _ _ _, fun x hx => by simp at hx, fun x hx => by simp at hx, Below.refl _ _⟩
theorem RecsOwn.step {w0 w w' : World} {v : Value} {ls : List RecIt} (h : RecsOwn w0 v ls w) (hb : Below w.heap.size w w') : RecsOwn w0 v ls w' :=
 ⟨ownsRow_below h.own hb, fun x hx => (h.dots x hx).kept hb, h.ne, h.bel.trans (hb.mono h.bel.size)⟩
theorem RecsOwn.app {w0 w w2 : World} {v v2 : Value} {ls : List RecIt} {x : RecIt} (h : RecsOwn w0 v ls w) (hown : w2.ownsRow w0.heap.size 62 21 v2 (ls.length + 1) (itCells ls ++ recCells x.1 x.2.1 x.2.2))
 (hg : w.grownBy w2 v.ownBlock) (hat : v2.ownBlock = v.ownBlock ∨ v2.ownBlock = some w.heap.size) (hd : DotsIn w x.2.1 x.1.e.over) (hx : ∀ A off, x.2.1 = some ⟨A, off, none⟩ → w0.heap.size ≤ A ∧ (x.1.e.over ≠ [] → v.ownBlock ≠ some A)) : RecsOwn w0 v2 (ls ++ [x]) w2 := by
 have hall : ∀ y ∈ ls ++ [x], DotsIn w y.2.1 y.1.e.over ∧ ∀ A off, y.2.1 = some ⟨A, off, none⟩ → w0.heap.size ≤ A ∧ (y.1.e.over ≠ [] → v.ownBlock ≠ some A) := by
  intro y hy
  rcases List.mem_append.1 hy with hy | hy
  ·exact ⟨h.dots y hy, h.ne y hy⟩
  ·simp only [List.mem_singleton] at hy; subst hy; exact ⟨hd, hx⟩
 refine ⟨by rw [itCells_snoc, List.length_append]; exact hown, fun y hy => ?_, fun y hy A off hA => ⟨((hall y hy).2 A off hA).1, fun hne => ?_⟩, h.bel.grown hg h.bel.size (fun k hk => (h.own.lt k hk).1)⟩
 ·obtain ⟨h1, h2⟩ := hall y hy
  refine h1.keep (fun A off hA hne => hg.block A ?_ (fun e => (h2 A off hA).2 hne e.symm))
  rw [hA] at h1; exact h1.lt hne
 ·obtain ⟨h1, h2⟩ := hall y hy
  rcases hat with hat | hat
  ·rw [hat]; exact (h2 A off hA).2 hne
  ·rw [hA] at h1
   have := h1.lt hne
   rw [hat]; intro e; injection e with e; omega
theorem RecsOwn.fresh {w0 w : World} {v : Value} {ls : List RecIt} (h : RecsOwn w0 v ls w) {a : Option Addr} {p : Prop} (hn : ∀ A off, a = some ⟨A, off, none⟩ → w.heap.size ≤ A) : ∀ A off, a = some ⟨A, off, none⟩ → w0.heap.size ≤ A ∧ (p → v.ownBlock ≠ some A) :=
 fun A off ha => ⟨Nat.le_trans h.bel.size (hn A off ha), fun _ e => by have := hn A off ha; have := (h.own.lt A e).2; omega⟩
/-- slices of bytes that lie in memory -/
def SlicesIn (w : World) (v : Value) (ls : List (Option Addr × Nat × Bytes)) : Prop :=
 ∃ a cap, v = .slice a ls.length cap ∧ ∀ j (h : j < ls.length), ∃ A, a = some ⟨A, 0, none⟩ ∧ w.cell? ⟨A, j, none⟩ = some (slOf ls[j]) ∧ BytesIn w ls[j].1 ls[j].2.2 ∧ ls[j].2.2.length ≤ ls[j].2.1
theorem slicesIn_own {w : World} {base b2 : Nat} {v : Value} {ls : List (Option Addr × Nat × Bytes)} (h : w.ownsRow base 82 1 v ls.length (slVals ls)) (hall : OwnAll w b2 ls) : SlicesIn w v ls := by
 have hby : ∀ j (hj : j < ls.length), BytesIn w ls[j].1 ls[j].2.2 ∧ ls[j].2.2.length ≤ ls[j].2.1 := by
  intro j hj
  have ho := hall _ (List.getElem_mem hj)
  refine ⟨?_, ?_⟩
  ·obtain ⟨a, cap, he, hb⟩ := own_bytes ho
   simp only [slOf, Value.slice.injEq] at he
   rw [he.1]; exact hb
  ·rcases ho.2 with ⟨h0, hn⟩ | ⟨g, c, cur, he, _, _, hc, _⟩
   ·omega
   ·simp only [slOf, Value.slice.injEq] at he; rw [he.2.2]; exact hc
 rcases h.2 with ⟨hv, hn⟩ | ⟨g, cap, cur, hv, rest⟩
 ·have : ls = [] := List.length_eq_zero_iff.1 hn
  subst this
  exact ⟨none, 0, hv, fun j hj => by simp at hj⟩
 ·refine ⟨some ⟨g, 0, none⟩, cap, hv, fun j hj => ⟨g, rfl, ?_, hby j hj⟩⟩
  have hc := World.ownsRow.cells (g := g) h (by rw [hv]; rfl) j (slOf ls[j]) (by simp [slVals, hj])
  rwa [Addr.add_mid, Nat.zero_add] at hc
theorem SlicesIn.kept {w w' : World} {v : Value} {ls : List (Option Addr × Nat × Bytes)} (h : SlicesIn w v ls) (hb : Below w.heap.size w w') : SlicesIn w' v ls := by
 obtain ⟨a, cap, hv, h⟩ := h
 exact ⟨a, cap, hv, fun j hj => by obtain ⟨A, h1, h2, h3, h4⟩ := h j hj; exact ⟨A, h1, Proofs.YtohcmljigcdmbaaGreat.kept hb h2, h3.kept hb, h4⟩⟩
theorem recs_new (w : World) (x : Rec) (a : Option Addr) (c : Nat) (t : TypeId) : ∀ j u, (recCells x a c)[j]? = some u → (w.alloc (Obj.cells (recCells x a c).toArray t)).cell? ((⟨w.heap.size, 0, none⟩ : Addr).add j) = some u := by
 intro j u hj
 rw [Addr.add_mid, Nat.zero_add, World.cell?_alloc_new]
 simpa using hj
def RetRecScan (r : List Rec × Nat) (w : World) (e : Ending) (w' : World) : Prop :=
 ∃ v ls w1, e = .returned (.tuple #[v, .int .i64 r.2]) ∧ Below w.heap.size w w1 ∧ RecsOwn w1 v ls w' ∧ ls.map (·.1) = r.1
theorem Tryz.infoRec : (Tryz.prog.info? 62).map (fun i => (i.zero, i.size, i.bytes)) = some (some (.agg (recCells rec0 none 0).toArray), 21, 192) := by kernel_rfl
theorem RecScan_any (a : Option Addr) (cap : Nat) (l : Bytes) (w : World) (hl : l.length ≤ 1073741824) (hcap : l.length ≤ cap) (h : BytesIn w a l) :
 Calls Tryz.prog 56 #[.slice a l.length cap] w (RetRecScan (recScan l) w) := by
 obtain ⟨i0, hi, hz0, hz1, hz2⟩ := info_parts Tryz.infoRec
 have HS := Lib.hid (fun (W : World) (h : BytesIn W a l) => FrameScan_any a cap l W hl hcap h)
 have hfit := frScan_fit _ l (Nat.le_refl _)
 have HV : Hid (recScan l = recScanB (frScan l).1) := rfl
 obtain ⟨bs, hbs⟩ : ∃ bs, bs = (frScan l).1 := ⟨_, rfl⟩
 rw [← hbs] at hfit HV
 have hbl : bs.length ≤ 1073741824 := by omega
 have HF := Lib.hid hfit.1
 have HBS := Lib.hid hbs
 clear hfit hbs
 go_enter Tryz.func56, Tryz.ntmps56
 go_upto_region 4 with (go_at_call 94; (with_reducible refine (HS.out _ h).mono ?_); rintro x W ⟨v, lb, rfl, hown, hall, hmap, hbt⟩)
 have hsl := slicesIn_own hown hall
 rw [← HBS.out] at hmap
 have hlb : lb.length = bs.length := by rw [← hmap]; simp
 have hlbn : lb.length ≤ 1073741824 := by omega
 have hlbl : lb.length ≤ bs.length := by omega
 have hlbg : bs.length ≤ lb.length := by omega
 clear hlb
 have HM := Lib.hid hmap
 obtain ⟨av, cv, rfl, hcells⟩ := hsl
 have HC := Lib.hid hcells
 clear hown hall hmap HS h hcells HBS
 go_wp2
 go_loopw [4, 5, 19] (fun out at' i wr => ∃ (k n : Nat) (ls : List RecIt), i = .int .i64 k ∧ k ≤ lb.length ∧ at' = .int .i64 n ∧ n ≤ k * 1048590 ∧ ls.length = k ∧ RecsOwn W out ls wr ∧ recScan l = (ls.map (·.1) ++ (recScanB (bs.drop k)).1, n + (recScanB (bs.drop k)).2)) (fun _ _ i _ => lb.length - (intOf i).toNat)
 case atStart => exact ⟨0, 0, [], rfl, Nat.zero_le _, rfl, Nat.le_refl _, rfl, RecsOwn.nil W, by rw [HV.out]; simp⟩
 case round =>
  obtain ⟨k, n, ls, rfl, hk, rfl, hn, hlk, hinv, hpre⟩ := hrel
  have HP := Lib.hid hpre
  clear hpre
  by_cases hlt : k < lb.length
  ·obtain ⟨A, rfl, hcell, hin, hcp⟩ := HC.out k hlt
   replace hcell := kept (hinv.bel.mono (Nat.le_refl _)) hcell
   replace hin := hin.kept hinv.bel
   have hkb : k < bs.length := by omega
   have hbk : lb[k].2.2 = bs[k] := by simp only [← HM.out]; simp
   have hsz : bs[k].length ≤ 1048576 := HF.out _ (List.getElem_mem hkb)
   have hdr : bs.drop k = bs[k] :: bs.drop (k + 1) := List.drop_eq_getElem_cons hkb
   have hsN := sizeN_le hsz
   obtain ⟨⟨ab, cb, b⟩, hb0⟩ : ∃ x, x = lb[k] := ⟨_, rfl⟩
   rw [← hb0] at hcell hin hbk hcp
   simp only [slOf] at hcell hin hbk hcp
   rw [← hbk] at hsz hdr hsN
   have HD := Lib.hid hdr
   have hR0 := fun (W : World) (h : BytesIn W ab b) => RecRead_any ab cb b W (by omega) h hcp
   obtain ⟨x, e, hx⟩ : ∃ x e, recRead b = (x, e) := ⟨_, _, rfl⟩
   unfold RetRec at hR0
   rw [hx] at hR0
   simp only at hR0
   have HR := Lib.hid hR0
   have HZ := Lib.hid (fun (W : World) => FSize_any b.length W hsz)
   clear hb0 hbk hdr hR0
   by_cases he : e = 0
   ·subst he
    have HE : Hid (recScan l = ((ls.map (·.1) ++ [x]) ++ (recScanB (bs.drop (k + 1))).1, n + sizeN b.length + (recScanB (bs.drop (k + 1))).2)) := by
     rw [Hid, HP.out, HD.out, recScanB]; simp [hx, Nat.add_assoc]
    clear hx HP HD
    have hzW := hinv.bel.size
    go_upto_region 9 with (first
     | (go_at_call 95; (with_reducible refine (HR.out _ hin).mono ?_); rintro _ w1 ⟨a1, c1, rfl, hd1, hb1, hn1⟩)
     | (refine wpList_store_new 62 _ _ _ (recCells x a1 c1).toArray rfl rfl (by kernel_rfl) rfl (by kernel_rfl) ?_))
    refine wp_name (fun W9 hW9 => ?_)
    have hb9 : Below w1.heap.size w1 W9 := by rw [hW9.out]; exact (Below.refl _ _).alloc (Nat.le_refl _) _
    have hR9 : W9.rangeAt w1.heap.size 0 (recCells x a1 c1) := by rw [hW9.out]; exact recCells_box x a1 c1 w1 _
    have hinv9 := (hinv.step hb1).step hb9
    have hd9 := hd1.kept hb9
    have hxx := hinv.fresh (p := x.e.over ≠ []) hn1
    have hz9 := hinv9.bel.size
    clear hW9 hb9 hd1 hn1 hinv hin hcell hb1
    go_upto_region 10 with (first
     | ((with_reducible refine wpList_load_to 62 _ w1.heap.size 0 (recCells x a1 c1) (recVal x a1 c1) rfl _ Tryz.underlying62 rfl (by kernel_rfl) hR9 ?_ rfl ?_); exact rfl)
     | (refine wpList_buildOne rfl 67 62 _ rfl (recCells x a1 c1).toArray 21 rfl rfl (by decide) (by decide) Tryz.underlying67 (by kernel_rfl) (by kernel_rfl) ?_)
     | (at_builtin; go_loud (refine wpList_append_own_at _ rfl _ _ 67 rfl W.heap.size 62 i0 (.agg (recCells rec0 none 0).toArray) 21 192 Tryz.underlying67 hi hz0 hz1 hz2 rfl (by decide) _ _ _ rfl (hinv9.own.alloc _) ⟨W9.heap.size, 0, none⟩ 1 1 (recCells x a1 c1) rfl rfl (recs_new W9 x a1 c1 _) (recCells_one _ _ _) (by unfold maxLen; omega) (by omega) (by simp; omega) ?_); intro v' w2 hown3 hgrow _ hat; have hinv2 := RecsOwn.app (x := (x, a1, c1)) (hinv9.step ((Below.refl _ _).alloc (Nat.le_refl _) _)) hown3 hgrow hat (hd9.kept ((Below.refl _ _).alloc (Nat.le_refl _) _)) hxx))
    clear hinv9 hown3 hgrow hat hd9 hR9 hxx
    go_wp2_with (go_at_call 96; (with_reducible refine (HZ.out _).mono ?_); rintro _ w3 ⟨rfl, rfl⟩)
    go_roundw
    case rel => exact ⟨k + 1, n + sizeN b.length, ls ++ [(x, a1, c1)], by go_num, by omega, by go_num, by omega, by simp; omega, hinv2, by rw [HE.out]; simp⟩
    case measure => simp [intOf] <;> omega
   ·have hne : (e == 0) = false := by rw [beq_eq_false_iff_ne]; omega
    have hne2 : (e != 0) = true := by rw [bne_iff_ne]; omega
    have HE : Hid (recScan l = (ls.map (·.1), n)) := by rw [Hid, HP.out, HD.out, recScanB]; simp [hx, he]
    clear hx HP HD he
    go_wp2_with (first
     | (go_at_call 95; (with_reducible refine (HR.out _ hin).mono ?_); rintro _ w1 ⟨a1, c1, rfl, hd1, hb1, hn1⟩)
     | (refine wpList_store_new 62 _ _ _ (recCells x a1 c1).toArray rfl rfl (by kernel_rfl) rfl (by kernel_rfl) ?_))
    all_goals
     try rw [Exit.noGoto_ret]
     go_ret2
     rw [HE.out]
     exact ⟨_, ls, W, rfl, hbt, (hinv.step hb1).step ((Below.refl _ _).alloc (Nat.le_refl _) _), rfl⟩
  ·have HE : Hid (recScan l = (ls.map (·.1), n)) := by rw [Hid, HP.out, List.drop_eq_nil_of_le (by omega)]; simp [recScanB]
   clear HP
   go_wp2
   go_ret2
   rw [HE.out]
   exact ⟨_, ls, W, rfl, hbt, hinv, rfl⟩
end Go.Proofs.YtohcmljigcdmbaaGreat
/- Records and lists of records that came in as arguments. Conditions: none. -/
namespace Go.Proofs.YtohcmljigcdmbaaGreat
open Go.ChangeShapes Go.WideShapes Go.ChangeAt Go.RowKit
structure RecsIn (w : World) (a : Option Addr) (ls : List RecIt) : Prop where
 rows : ls = [] ∨ ∃ A off, a = some ⟨A, off, none⟩ ∧ ∀ i (h : i < ls.length), w.rangeAt A (off + i * 21) (recCells ls[i].1 ls[i].2.1 ls[i].2.2)
 dots : ∀ x ∈ ls, DotsIn w x.2.1 x.1.e.over
theorem RecsIn.kept {w w' : World} {a : Option Addr} {ls : List RecIt} (h : RecsIn w a ls) (hb : Below w.heap.size w w') : RecsIn w' a ls :=
 ⟨h.rows.imp id fun ⟨A, off, h1, h2⟩ => ⟨A, off, h1, fun i hi => rangeAt_kept (h2 i hi) hb⟩, fun x hx => (h.dots x hx).kept hb⟩
theorem RecsIn.at {w : World} {a : Option Addr} {ls : List RecIt} (h : RecsIn w a ls) {k : Nat} (hk : k < ls.length) :
 ∃ A off, a = some ⟨A, off, none⟩ ∧ (∀ i (h : i < ls.length), w.rangeAt A (off + i * 21) (recCells ls[i].1 ls[i].2.1 ls[i].2.2)) ∧ DotsIn w ls[k].2.1 ls[k].1.e.over := by
 rcases h.rows with h1 | ⟨A, off, h1, h2⟩
 ·subst h1; simp at hk
 ·exact ⟨A, off, h1, h2, h.dots _ (List.getElem_mem hk)⟩
section
variable {H : Type} {enc : TypeId × Value → H} {w : World} {base : Nat} {spare : Nat → Bool} {held : Bool}
end
end Go.Proofs.YtohcmljigcdmbaaGreat
/- The record laws' own example. Conditions: none. -/
namespace Go.Proofs.YtohcmljigcdmbaaGreat
open Go.RowKit
end Go.Proofs.YtohcmljigcdmbaaGreat
