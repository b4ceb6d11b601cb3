/- The disk's law: are steps few and short? Conditions: as in the text. -/
import Derived.Test.YtlefejokpdjpgaaGreatRest
import Derived.Test.YtlefejokpdjpgaaGreatWalU
import Derived.Test.YtlefejokpdjpgaaGreatLoad
import Derived.Test.YtlefejokpdjpgaaGreatWalX
set_option linter.unusedSimpArgs false
set_option linter.unusedVariables false
set_option linter.unnecessarySimpa false
set_option maxHeartbeats 16000000
set_option maxRecDepth 100000
namespace Go.Proofs.YtlefejokpdjpgaaGreat
open Go.RowKit
theorem jo {P : Program} {f : FuncId} {args : Array Value} {w : World} {n : Nat} {v : Value}
 (h : Calls P f args (w.drewN n) fun e w' => e = .returned v ∧ w.drewN n = w') : Calls P f args (w.drewN n) fun e w'' => e = .returned v ∧ ∃ m, w'' = w.drewN m :=
 h.mono fun _ _ ⟨he, hm⟩ => ⟨he, n, hm.symm⟩
theorem eF {B : Nat} {w : World} (n : Nat) : Below B w (w.drewN n) := ⟨rfl, rfl, rfl, Nat.le_refl _, fun _ _ => rfl⟩
variable {F : Nat → Prop} {d : Nat} {S : DS} {b : Nat} {D : DataW Unit} {w w' : World}
theorem y37 {p q : Prop} (k : q) (h : PLift q → p := by
 intro kk
 have hgt : getF S.f l[k].f.name = some l[k].f := by rw [← hfk]; exact nZ hi.srt hks
 have hok : FOk l[k].f := by rw [← hfk]; exact hi.ok _ (List.getElem_mem hks)
 have HLT := Lib.hid hlt
 revert hgt hok HLT
 exact kk.down) : p := h ⟨k⟩
theorem y15 {p q : Prop} (k : q) (h : PLift q → p := by
 intro kk
 refine wp_name (fun Wf hWf => ?_)
 have hX : B3 Wf wr.heap.size 105 (.string f.name) (.slice ag f.b.length cg) (.int .i64 f.safe) := by rw [hWf.out]; exact aF wr _
 have hbf : Below wr.heap.size wr Wf := by rw [hWf.out]; exact (Below.refl _ _).alloc (Nat.le_refl _) _
 have hDf := (hD1.below hbr).below hbf
 have nf := kept hbf n0
 have hgf := hgo.bytes.kept hbf
 have hBf := hBr.below hbf
 have qW := hbr.trans (hbf.mono hbr.size)
 revert Wf hWf hX hbf hDf nf hgf hBf qW
 exact kk.down) : p := h ⟨k⟩
theorem vS {a : Option Addr} {cap : Nat} {l : List RF} (h : DkIn w F d S b D) (hi : DInv S) (hin : RFsIn w a l) (hl : az l = S.f) (hd : S.down = false) :
 Calls Tryz.prog 20 #[.pointer (some ⟨d, 0, none⟩), aO a l.length cap S.arm S.down] w fun e w' => e = .returned (.bool true) ∧ Below w.heap.size w w' := by
 have hll : l.length = S.f.length := by have := congrArg List.length hl; rwa [List.length_map] at this
 have h8 := hi.len
 have HN := Lib.hid (fun (X : World) (D : DataW Unit) (h : DkIn X F d S b D) => Names_srt h hi.srt hi.len)
 have HLL := Lib.hid hll
 have hlc : l.length ≤ 8 := by omega
 have HDN := Lib.hid (fun (X : World) (D : DataW Unit) (h : DkIn X F d S b D) => qh d b S.arm S.down X h.cells)
 have HSD := Lib.hid hd
 rw [hd] at HDN ⊢
 clear hll hd
 go_enter Tryz.func20, Tryz.ntmps20
 go_upto_region 1 with fail
 refine wp_name (fun W hW => ?_)
 have hb0 : Below w.heap.size w W := by rw [hW.out]; go_grown
 have hB : B3 W w.heap.size 62 (.slice a l.length cap) (.int .i64 S.arm) (.bool false) := by rw [hW.out]; exact aF w _
 clear hW
 go_upto_region 2 with (go_at_call 28; (with_reducible refine (HN.out _ _ (h.below hb0)).mono ?_); rintro e w1 ⟨an, cn, rfl, hnm, hb1⟩)
 have hD1 := (h.below hb0).below hb1
 have hB1 := hB.below hb1
 have hin1 := (hin.kept hb0).kept hb1
 have iR := below2 hb0 hb1
 have hq : ((S.f.length : Int) != (l.length : Int)) = false := by rw [bne_eq_false_iff_eq, HLL.out]
 have hq2 : ((S.f.length : Nat) != (l.length : Nat)) = false := by rw [bne_eq_false_iff_eq, HLL.out]
 have HDW := Lib.hid (fun (n : Nat) => HDN.out (w1.drewN n) D (hD1.below (eF n)))
 obtain ⟨z0, z1, z2, t0, t1, t2⟩ := hB1.cells
 go_quiet ((first | (with_reducible exact jo (HDW.out _))))
 go_wp2
 have hbn := eF (B := w1.heap.size) (w := w1) nq
 go_loopw [6] (fun i wr => ∃ k : Nat, i = .int .i64 k ∧ k ≤ l.length ∧ Below w1.heap.size w1 wr) (fun i _ => l.length - (intOf i).toNat)
 case atStart => exact ⟨0, rfl, Nat.zero_le _, hbn⟩
 case round =>
  obtain ⟨k, rfl, hk, hbr⟩ := hrel
  have hBr := hB1.below hbr
  obtain ⟨z0, z1, z2, t0, t1, t2⟩ := hBr.cells
  by_cases hlt : k < l.length
  ·have hks : k < S.f.length := by rw [← HLL.out]; exact hlt
   have hfk : S.f[k] = l[k].f := by simp only [← hl, List.getElem_map]
   obtain ⟨AN, ofn, rfl, n0⟩ := cells_at (hnm.kept hbr) (k := k) (by simpa [nameVals] using hks)
   simp only [nameVals, List.getElem_map] at n0
   rw [hfk] at n0
   obtain ⟨A, off, rfl, hra, hgo⟩ := (hin1.kept hbr).at hlt
   refine y34 ?_
   intro c0 c1 c2
   rw [Nat.add_zero] at c0
   refine y37 ?_
   intro hgt hok HLT
   clear hra hfk
   generalize l[k] = x at c0 c1 c2 n0 hgt hok hgo
   obtain ⟨f, ag, cg⟩ := x
   simp only at c0 c1 c2 n0 hgt hok
   have hns : f.name.size ≤ maxLen := by have := nameOk_size hok.name; unfold maxLen; omega
   have hfl := hok.len
   have HRD := Lib.hid (fun (X : World) (h : DkIn X F d S b D) => Read_yes (f := f) hns h hok.name hgt HSD.out (Nat.le_trans hok.len (by decide)))
   have hsf : fD S f.name = f.safe := by unfold fD; rw [if_pos hok.name, hgt]
   have HSF := Lib.hid (fun (X : World) (h : DkIn X F d S b D) => pU hns h)
   rw [hsf] at HSF
   clear hsf hgt hok hlt hks
   go_upto_region 8 with fail
   refine y15 ?_
   intro Wf hWf hX hbf hDf nf hgf hBf qW
   clear hWf c0 c1 c2 n0 z0 z1 z2 t0 t1 t2 hBr
   obtain ⟨x0, x1, x2, y0, y1, y2⟩ := hX.cells
   go_upto_region 9 with (go_at_call 30; (with_reducible refine (HRD.out _ hDf).mono ?_); rintro e w3 ⟨v, rfl, hown3, hb3⟩; obtain ⟨a3, k3, rfl, ed, hk3⟩ := own_bytesIn hown3)
   have hX3 := hX.below hb3
   have hD3 := hDf.below hb3
   have n3 := kept hb3 nf
   have hg3 := hgf.kept hb3
   have hB3 := hBf.below hb3
   have xC := qW.trans (hb3.mono qW.size)
   have HSB := Lib.hid (fun X (h1 : BytesIn X a3 f.b) (h2 : BytesIn X ag f.b) => kW a3 ag k3 cg f.b f.b X (by omega) (by omega) h1 h2)
   rw [decide_eq_true rfl] at HSB
   have HSN := Lib.hid (fun (n : Nat) => HSF.out (w3.drewN n) (hD3.below (eF n)))
   clear x0 x1 x2 y0 y1 y2 hX nf hgf hown3 hBf hDf
   obtain ⟨x0, x1, x2, y0, y1, y2⟩ := hX3.cells
   obtain ⟨z0, z1, z2, t0, t1, t2⟩ := hB3.cells
   have yH : k < l.length := HLT.out
   have hk8 : k < S.f.length := by rw [← HLL.out]; exact HLT.out
   go_quiet ((first | (with_reducible exact jo (HSN.out _))))
   have wI := eF (B := w3.heap.size) (w := w3) nq
   go_wp2_with (go_at_call 44; (refine (HSB.out _ (show BytesIn (w3.drewN nq) a3 f.b from ed) (show BytesIn (w3.drewN nq) ag f.b from hg3)).mono ?_); rintro e w4 ⟨rfl, hb4⟩)
   go_roundw
   case rel => exact ⟨k + 1, by go_num, by omega, (xC.trans (wI.mono xC.size)).trans (hb4.mono (Nat.le_trans xC.size wI.size))⟩
   case measure => exact z39
  ·go_wp2
   go_ret
   exact ⟨rfl, below2 iR hbr⟩
theorem fG (s : WSt) : (aQ s).length = 24 := by simp [aQ, cu]
abbrev wcs (ls : List WSt) : List Value := ls.flatMap aQ
theorem vW (ls : List WSt) : (wcs ls).length = ls.length * 24 := by
 induction ls with
 | nil => rfl
 | cons s r ih => unfold wcs at *; rw [List.flatMap_cons, List.length_append, ih, fG, List.length_cons]; omega
theorem oI : ∀ (l : List WSt) (k : Nat), (wcs l).drop (k * 24) = wcs (l.drop k)
 | l, 0 => by simp
 | [], k + 1 => by simp [wcs]
 | g :: l, k + 1 => by
   rw [show (k + 1) * 24 = 24 + k * 24 by omega, List.drop_succ_cons, ← oI l k]
   unfold wcs
   rw [List.flatMap_cons, ← List.drop_drop, show 24 = (aQ g).length from (fG g).symm, List.drop_left]
theorem uI {w : World} {a : Option Addr} {ls : List WSt} (h : CellsIn w a (wcs ls)) {k : Nat} (hk : k < ls.length) : ∃ A off, a = some ⟨A, off, none⟩ ∧ w.rangeAt A (off + k * 24) (aQ ls[k]) := by
 rcases h with h | ⟨A, off, h1, h2⟩
 ·have := congrArg List.length h
  rw [vW] at this
  simp at this
  omega
 ·refine ⟨A, off, h1, fun j v hv => ?_⟩
  have hj : j < 24 := by have := (List.getElem?_eq_some_iff.1 hv).1; rwa [fG] at this
  have := h2 (k * 24 + j) v (by
   rw [← List.getElem?_drop, oI, List.drop_eq_getElem_cons hk]
   unfold wcs
   rw [List.flatMap_cons, List.getElem?_append_left (by rw [fG]; exact hj)]
   exact hv)
  rwa [← Nat.add_assoc] at this
section
open Go.ChangeShapes Go.WideShapes Go.ChangeAt
variable {H : Type} {enc : TypeId × Value → H} {w : World} {base : Nat} {spare : Nat → Bool} {held : Bool}
theorem qO {fuel : Nat} {cs : List Value} {x : DataW H × List MemPlace} (hl : cs.length = 24) (h : DataW.trod enc Tryz.prog w 0 spare held fuel 67 cs = some x) : ∃ s : WSt, cs = aQ s ∧ WStIn w s ∧ iP s.n := by
 match cs, hl with
 | c0 :: c1 :: r, hl =>
   have hr : r.length = 22 := by simpa using hl
   obtain ⟨_, _, h0⟩ := aB Tryz.underlying67 h 0 _ rfl 1 (by kernel_rfl) [c0] rfl
   obtain ⟨_, _, h1⟩ := aB Tryz.underlying67 h 1 _ rfl 1 (by kernel_rfl) [c1] rfl
   obtain ⟨_, _, h2⟩ := aB Tryz.underlying67 h 2 _ rfl 21 (by kernel_rfl) (r.take 21) rfl
   obtain ⟨_, _, h3⟩ := aB Tryz.underlying67 h 3 _ rfl 1 (by kernel_rfl) (r.drop 21) (show ((c0 :: c1 :: r).drop 23).take 1 = r.drop 21 from List.take_of_length_le (by show (r.drop 21).length ≤ 1; simp; omega))
   obtain ⟨k, e0, _, w0⟩ := DataW.trod_int Tryz.underlying3 h0
   obtain ⟨n, e1, _, w1⟩ := DataW.trod_int Tryz.underlying3 h1
   obtain ⟨y, a, cap, e2, hE⟩ := uK (by simp; omega) h2
   obtain ⟨ab, b, cb, e3, hb, hbl, _, _⟩ := open_bytes h3
   simp only [List.cons.injEq, and_true] at e0 e1
   subst e0 e1
   refine ⟨⟨k, n, y, a, cap, b, ab, cb⟩, ?_, ⟨hE, hb, hbl⟩, uZ w1⟩
   show _ = .int .i64 k :: .int .i64 n :: (ah y a cap ++ [.slice ab b.length cb])
   rw [← e2, ← e3, List.take_append_drop]
theorem rF {r : Reach} {b0 : Nat} {v : Value} {d : DataW H} {p : List MemPlace} (hv : Value.okWide Tryz.prog w r b0 58 v) (h : DataW.Trod enc Tryz.prog w 0 spare held 58 v d p) :
 ∃ (a : Option Addr) (l : List WSt) (cap : Nat), v = .slice a l.length cap ∧ CellsIn w a (wcs l) ∧ (∀ s ∈ l, WStIn w s ∧ iP s.n) ∧ l.length ≤ maxLen := by
 obtain ⟨a, n, c, rfl⟩ := okWide_slice Tryz.underlying58 hv
 obtain ⟨fuel, hf⟩ := h
 obtain ⟨a', l, c', he, h1, h2, h3, _⟩ := open_list 58 67 Tryz.underlying58 24 (by decide) (by kernel_rfl) aQ (fun s => WStIn w s ∧ iP s.n) (fun m cs x hl ht => qO hl ht) hf
 simp only [Value.cells] at he
 exact ⟨a', l, c', by simpa using he, h1, h2, h3⟩
end
/-- are steps light? -/
def bf (s : WSt) : Bool := light s.x.e && decide (s.b.length ≤ 300)
def gu (ls : List WSt) (most : Nat) : Bool := decide (ls.length ≤ most) && ls.all bf
theorem ql (a : Option Addr) (cap most : Nat) (ls : List WSt) (w : World) (hl : ls.length ≤ maxLen) (hm : most ≤ 1048576) (h : CellsIn w a (wcs ls)) (hin : ∀ s ∈ ls, WStIn w s ∧ iP s.n) :
 Calls Tryz.prog 18 #[.slice a ls.length cap, .int .i64 most] w fun e w' => e = .returned (.bool (gu ls most)) ∧ Below w.heap.size w w' := by
 unfold maxLen at hl
 by_cases h0 : ls.length ≤ most
 case neg =>
  have hr : gu ls most = false := by unfold gu; rw [decide_eq_false h0]; rfl
  rw [hr]
  have h1 : (most : Int) < (ls.length : Int) := by omega
  clear hr
  go_enter Tryz.func18, Tryz.ntmps18
  go_wp2
  go_ret
  exact ⟨rfl, Below.refl _ _⟩
 case pos =>
 have HR : Hid (gu ls most = ls.all bf) := Lib.hid (by unfold gu; rw [decide_eq_true h0]; rfl)
 have h1 : ¬ (most : Int) < (ls.length : Int) := by omega
 go_enter Tryz.func18, Tryz.ntmps18
 go_wp2
 go_loopw [5] (fun i wr => ∃ k : Nat, i = .int .i64 k ∧ k ≤ ls.length ∧ ls.all bf = (ls.drop k).all bf ∧ Below w.heap.size w wr) (fun i _ => ls.length - (intOf i).toNat)
 case atStart => exact ⟨0, rfl, Nat.zero_le _, rfl, Below.refl _ _⟩
 case round =>
  obtain ⟨k, rfl, hk, hpre, hbw⟩ := hrel
  have HP := Lib.hid hpre
  clear hpre
  by_cases hlt : k < ls.length
  ·obtain ⟨A, off, rfl, hr⟩ := uI (h.kept hbw) hlt
   have r1 := tu (show wr.rangeAt A (off + k * 24 + 2) (ah ls[k].x ls[k].ax ls[k].cx) from fun j v hv => by
        have hj : j < 21 := by have := (List.getElem?_eq_some_iff.1 hv).1; rwa [cu] at this
        have := hr (2 + j) v (by
         refine y33 ?_
         exact hv)
        rwa [← Nat.add_assoc] at this)
   have r2 : wr.cell? ⟨A, off + k * 24 + 23, none⟩ = some (.slice ls[k].ab ls[k].b.length ls[k].cb) := hr 23 _ rfl
   have hE := (hin _ (List.getElem_mem hlt)).1.ev
   have HT : Hid (ls.all bf = (bf ls[k] && (ls.drop (k + 1)).all bf)) := by rw [Hid, HP.out, List.drop_eq_getElem_cons hlt, List.all_cons]
   clear hr HP
   generalize ls[k] = s at r1 r2 hE HT
   obtain ⟨kd, n, x, ax, cx, bs, ab, cb⟩ := s
   simp only at r1 r2 hE
   have hL0 := fun (W : World) => Light_any x.e ax cx W hE.over hE.name hE.domain hE.path hE.value
   have hzw := hbw.size
   cases hli : light x.e with
   | false =>
     have HE : Hid (ls.all bf = false) := by rw [Hid, HT.out]; unfold bf; simp [hli]
     rw [hli] at hL0
     have HL := Lib.hid hL0
     clear hL0 HT hli hE
     go_wp2_with (first
      | ((with_reducible refine wpList_load_evo _ A (off + k * 24 + 2 + 2) x.e ax cx r1 ?_ rfl ?_); exact rfl)
      | (go_at_call 8; (with_reducible refine (HL.out _).mono ?_); rintro v w1 ⟨rfl, hb⟩))
     go_ret
     exact ⟨ret_bool (by rw [HR.out, HE.out]), hbw.trans (hb.mono hzw)⟩
   | true =>
     rw [hli] at hL0
     have HL := Lib.hid hL0
     by_cases hb3 : bs.length ≤ 300
     ·have HE : Hid (ls.all bf = (ls.drop (k + 1)).all bf) := by rw [Hid, HT.out]; unfold bf; simp [hli, hb3]
      have g1 : ¬ (300 : Int) < (bs.length : Int) := by omega
      have g2 : ¬ 300 < bs.length := by omega
      clear hL0 HT hli hE hb3
      go_wp2_with (first
       | ((with_reducible refine wpList_load_evo _ A (off + k * 24 + 2 + 2) x.e ax cx r1 ?_ rfl ?_); exact rfl)
       | (go_at_call 8; (with_reducible refine (HL.out _).mono ?_); rintro v w1 ⟨rfl, hb⟩; replace r2 := kept hb r2))
      go_roundw
      case rel => exact ⟨k + 1, by go_num, by omega, HE.out, hbw.trans (hb.mono hzw)⟩
      case measure => exact z39
     ·have HE : Hid (ls.all bf = false) := by rw [Hid, HT.out]; unfold bf; simp [hb3]
      have g1 : (300 : Int) < (bs.length : Int) := by omega
      have g2 : 300 < bs.length := by omega
      clear hL0 HT hli hE hb3
      go_wp2_with (first
       | ((with_reducible refine wpList_load_evo _ A (off + k * 24 + 2 + 2) x.e ax cx r1 ?_ rfl ?_); exact rfl)
       | (go_at_call 8; (with_reducible refine (HL.out _).mono ?_); rintro v w1 ⟨rfl, hb⟩; replace r2 := kept hb r2))
      go_ret
      exact ⟨ret_bool (by rw [HR.out, HE.out]), hbw.trans (hb.mono hzw)⟩
  ·have HE : Hid (ls.all bf = true) := Lib.hid (by rw [HP.out, List.drop_of_length_le (by omega)]; rfl)
   go_wp2
   go_ret
   exact ⟨ret_bool (by rw [HR.out, HE.out]), hbw⟩
variable {F : Nat → Prop} {d : Nat} {S : DS} {b : Nat} {D : DataW Unit} {w w' : World}
theorem sF {a : Option Addr} {cap : Nat} {l : List RF} (h : DkIn w F d S b D) (hi : DInv S) (hin : RFsIn w a l) (hl : az l = S.f) (hd : S.down = true) :
 Calls Tryz.prog 20 #[.pointer (some ⟨d, 0, none⟩), aO a l.length cap S.arm S.down] w fun e w' => e = .returned (.bool true) ∧ Below w.heap.size w w' := by
 have hll : l.length = S.f.length := by have := congrArg List.length hl; rwa [List.length_map] at this
 have h8 := hi.len
 have HN := Lib.hid (fun (X : World) (D : DataW Unit) (h : DkIn X F d S b D) => Names_srt h hi.srt hi.len)
 have HLL := Lib.hid hll
 have hlc : l.length ≤ 8 := by omega
 have HDN := Lib.hid (fun (X : World) (D : DataW Unit) (h : DkIn X F d S b D) => qh d b S.arm S.down X h.cells)
 have HSD := Lib.hid hd
 rw [hd] at HDN ⊢
 clear hll hd
 go_enter Tryz.func20, Tryz.ntmps20
 go_upto_region 1 with fail
 refine wp_name (fun W hW => ?_)
 have hb0 : Below w.heap.size w W := by rw [hW.out]; go_grown
 have hB : B3 W w.heap.size 62 (.slice a l.length cap) (.int .i64 S.arm) (.bool true) := by rw [hW.out]; exact aF w _
 clear hW
 go_upto_region 2 with (go_at_call 28; (with_reducible refine (HN.out _ _ (h.below hb0)).mono ?_); rintro e w1 ⟨an, cn, rfl, hnm, hb1⟩)
 have hD1 := (h.below hb0).below hb1
 have hB1 := hB.below hb1
 have hin1 := (hin.kept hb0).kept hb1
 have iR := below2 hb0 hb1
 have hq : ((S.f.length : Int) != (l.length : Int)) = false := by rw [bne_eq_false_iff_eq, HLL.out]
 have hq2 : ((S.f.length : Nat) != (l.length : Nat)) = false := by rw [bne_eq_false_iff_eq, HLL.out]
 have HDW := Lib.hid (fun (n : Nat) => HDN.out (w1.drewN n) D (hD1.below (eF n)))
 obtain ⟨z0, z1, z2, t0, t1, t2⟩ := hB1.cells
 go_quiet ((first | (with_reducible exact jo (HDW.out _))))
 go_wp2
 have hbn := eF (B := w1.heap.size) (w := w1) nq
 go_loopw [6] (fun i wr => ∃ k : Nat, i = .int .i64 k ∧ k ≤ l.length ∧ Below w1.heap.size w1 wr) (fun i _ => l.length - (intOf i).toNat)
 case atStart => exact ⟨0, rfl, Nat.zero_le _, hbn⟩
 case round =>
  obtain ⟨k, rfl, hk, hbr⟩ := hrel
  have hBr := hB1.below hbr
  obtain ⟨z0, z1, z2, t0, t1, t2⟩ := hBr.cells
  by_cases hlt : k < l.length
  ·have hks : k < S.f.length := by rw [← HLL.out]; exact hlt
   have hfk : S.f[k] = l[k].f := by simp only [← hl, List.getElem_map]
   obtain ⟨AN, ofn, rfl, n0⟩ := cells_at (hnm.kept hbr) (k := k) (by simpa [nameVals] using hks)
   simp only [nameVals, List.getElem_map] at n0
   rw [hfk] at n0
   obtain ⟨A, off, rfl, hra, hgo⟩ := (hin1.kept hbr).at hlt
   refine y34 ?_
   intro c0 c1 c2
   rw [Nat.add_zero] at c0
   refine y37 ?_
   intro hgt hok HLT
   clear hra hfk
   generalize l[k] = x at c0 c1 c2 n0 hgt hok hgo
   obtain ⟨f, ag, cg⟩ := x
   simp only at c0 c1 c2 n0 hgt hok
   have hns : f.name.size ≤ maxLen := by have := nameOk_size hok.name; unfold maxLen; omega
   have hfl := hok.len
   have hre : readE S f.name = 12 := by unfold readE; rw [if_pos hok.name, hgt]; simp [HSD.out]
   have xx := fun (X : World) (h : DkIn X F d S b D) => Read_no hns h (by rw [hre]; decide)
   rw [hre] at xx
   have HRD := Lib.hid xx
   clear xx hre
   have hsf : fD S f.name = f.safe := by unfold fD; rw [if_pos hok.name, hgt]
   have HSF := Lib.hid (fun (X : World) (h : DkIn X F d S b D) => pU hns h)
   rw [hsf] at HSF
   clear hsf hgt hok hlt hks
   go_upto_region 8 with fail
   refine y15 ?_
   intro Wf hWf hX hbf hDf nf hgf hBf qW
   clear hWf c0 c1 c2 n0 z0 z1 z2 t0 t1 t2 hBr
   obtain ⟨x0, x1, x2, y0, y1, y2⟩ := hX.cells
   go_upto_region 9 with (go_at_call 30; (with_reducible refine (HRD.out _ hDf).mono ?_); rintro e w3 ⟨rfl, rfl⟩)
   have HSN := Lib.hid (fun (n : Nat) => HSF.out (Wf.drewN n) (hDf.below (eF n)))
   clear hgf hDf
   obtain ⟨z0, z1, z2, t0, t1, t2⟩ := hBf.cells
   have yH : k < l.length := HLT.out
   have hk8 : k < S.f.length := by rw [← HLL.out]; exact HLT.out
   go_quiet ((first | (with_reducible exact jo (HSN.out _))))
   have wI := eF (B := Wf.heap.size) (w := Wf) nq
   go_wp2
   go_roundw
   case rel => exact ⟨k + 1, by go_num, by omega, qW.trans (wI.mono qW.size)⟩
   case measure => exact z39
  ·go_wp2
   go_ret
   exact ⟨rfl, below2 iR hbr⟩
/-- the disk behind a step -/
def DS.wstep (S : DS) (s : WSt) : DS :=
 if s.kind = 1 then (if bH s.x = true then (S.append logS (aN s.x)).1 else S) else if s.kind = 2 then (S.sync logS).1 else if s.kind = 3 then S.recov.1 else if s.kind = 4 then (S.trunc logS 0).1
 else if s.kind = 5 then S.crash [(logS, s.n)] else if s.kind = 6 then (S.rarm s.n).1 else if s.kind = 7 then (S.append logS s.b).1 else S
theorem DInv.wstep {S : DS} (h : DInv S) (s : WSt) : DInv (S.wstep s) := by
 unfold DS.wstep
 repeat' split
 ·exact h.append _ _
 ·exact h
 ·exact h.sync _
 ·exact h.recov
 ·exact h.trunc _ _
 ·exact h.crash _
 ·exact h.arm' _
 ·exact h.append _ _
 ·exact h
variable {F : Nat → Prop} {d : Nat} {S : DS} {b : Nat} {D : DataW Unit} {w w' : World}
theorem z13 {p : Prop} (h : p := by
 rw [hW.out]
 have h1 := bn w (.cells #[.slice a l.length cap, .int .i64 S.arm, .bool S.down] 62) (.cells (ah x ax cx).toArray 41)
 intro j v hv
 rw [Nat.zero_add]
 refine ((World.cell?_of_block (w := (w.alloc (.cells #[.slice a l.length cap, .int .i64 S.arm, .bool S.down] 62)).alloc (.cells (ah x ax cx).toArray 41)) (a := ⟨w.heap.size + 1, j, none⟩) (heap_alloc_old _ _ (by simp))).trans ?_)
 simp only [World.cell?, h1]
 simpa using hv) : p := h
theorem lT {a ax : Option Addr} {cap cx : Nat} {l : List RF} {x : Rec} (hlc : l.length ≤ cap) (hl : az l = S.f) (h : RFsIn w a l) (hs : EvSmall x.e) (hov : DotsIn w ax x.e.over) (hno : bH x = false) :
 Calls Tryz.prog 34 #[aO a l.length cap S.arm S.down, aU x ax cx] w (eG S 1 w) := by
 have hR0 := fun (X : World) (h : DotsIn X ax x.e.over) => iY x ax cx X hs h
 rw [hno] at hR0
 have HR := Lib.hid hR0
 have HIN := Lib.hid h
 have HOV := Lib.hid hov
 have HLF := Lib.hid hl
 clear hR0 hno h hov hl
 go_enter Tryz.func34, Tryz.ntmps34
 go_upto_region 1 with fail
 refine wp_name (fun W hW => ?_)
 have hb0 : Below w.heap.size w W := by rw [hW.out]; go_grown
 have hD : B3 W w.heap.size 62 (.slice a l.length cap) (.int .i64 S.arm) (.bool S.down) := by
  exact z10
 have hZ : B3 W (w.heap.size + 1 + 1) 62 (.slice none 0 0) (.int .i64 0) (.bool false) := by rw [hW.out]; exact cZ w _ _ _
 have hQ : W.rangeAt (w.heap.size + 1) 0 (ah x ax cx) := by
  exact z13
 have hin := HIN.out.kept hb0
 have hd0 := HOV.out.kept hb0
 clear hW
 obtain ⟨d0, d1, d2, e0, e1, e2⟩ := hD.cells
 go_upto_region 2 with (first
  | ((with_reducible refine wpList_load_to 41 _ (w.heap.size + 1) 0 (ah x ax cx) (aU x ax cx) rfl _ Tryz.underlying41 rfl (by kernel_rfl) hQ ?_ rfl ?_); exact rfl)
  | (go_at_call 10; (with_reducible refine (HR.out _ hd0).mono ?_); rintro v w1 ⟨rfl, hb⟩))
 have hD1 := hD.below hb
 have hZ1 := hZ.below hb
 have hbw := below2 hb0 hb
 have hin1 := hin.kept hb
 clear d0 d1 d2 e0 e1 e2 hD hZ hQ hb hb0 hin
 obtain ⟨d0, d1, d2, e0, e1, e2⟩ := hD1.cells
 go_wp2_with (refine wpList_store_row rfl 62 _ _ rfl (w.heap.size + 1 + 1) #[.slice a l.length cap, .int .i64 S.arm, .bool S.down] rfl rfl 62 _ hZ1 (by kernel_rfl) rfl (by kernel_rfl) ?_)
 refine dA 4 5 62 62 (w.heap.size + 1 + 1) _ _ _ rfl rfl rfl (hZ1.row _ _ _) Tryz.underlying62 rfl (by kernel_rfl) rfl ?_
 exact ⟨a, l, cap, rfl, hin1.fr (T := isR (w.heap.size + 1 + 1)) (dw _ _ _) (fun k hk => by subst hk; exact ⟨hZ1.noByte ⟨trivial, trivial, trivial⟩, hZ1.noStr ⟨trivial, trivial, trivial⟩⟩), hlc, HLF.out, aJ hbw (by omega) _⟩
theorem kU {a ax : Option Addr} {cap cx : Nat} {l : List RF} {x : Rec} (hi : DInv S) (hlc : l.length ≤ cap) (hl : az l = S.f) (h : RFsIn w a l) (hs : EvSmall x.e) (hov : DotsIn w ax x.e.over) (hok : bH x = true) :
 Calls Tryz.prog 34 #[aO a l.length cap S.arm S.down, aU x ax cx] w (eG (S.append logS (aN x)).1 (S.append logS (aN x)).2 w) := by
 have hll : l.length ≤ 16777216 := by have := congrArg List.length hl; rw [List.length_map] at this; have := hi.len; omega
 have hrf : ∀ f, getF (az l) logS = some f → f.b.length ≤ 16777216 := fun f hf => (hi.ok f (by rw [← hl]; exact getF_mem hf)).len
 have hSl : (⟨az l, S.arm, S.down⟩ : DS) = S := by rw [hl]
 have hR0 := fun (X : World) (h : DotsIn X ax x.e.over) => iY x ax cx X hs h
 rw [hok] at hR0
 have HR := Lib.hid hR0
 have hlen := jR hok
 obtain ⟨M, hM⟩ : ∃ M, M = aN x := ⟨_, rfl⟩
 have hL0 := fun (X : World) (h : DotsIn X ax x.e.over) => nT x ax cx X hok h
 rw [← hM] at hL0 hlen ⊢
 have HLn : Hid (∀ (X : World), DotsIn X ax x.e.over → Calls Tryz.prog 65 #[.agg (ah x ax cx).toArray] X (RetBytes M X)) := Lib.hid hL0
 obtain ⟨T, c, hT⟩ : ∃ T c, S.append logS M = (T, c) := ⟨_, _, rfl⟩
 have hA0 : ∀ X am cm, RFsIn X a l → BytesIn X am M → Calls Tryz.prog 41 #[.agg #[.slice a l.length cap, .int .i64 S.arm, .bool S.down], .string ⟨#[108, 111, 103]⟩, .slice am M.length cm] X (eG T c X) := fun X am cm h1 h2 => by
  have := jW a am cap cm S.arm S.down l logS M X hll hlc hi.arm logS_size hrf (by omega) h1 h2
  rw [hSl, hT] at this
  exact this
 rw [hT]
 have HA := Lib.hid hA0
 have HIN := Lib.hid h
 have HOV := Lib.hid hov
 clear hR0 hok h hov hl hL0 hA0 hT hM hSl hrf hlen
 go_enter Tryz.func34, Tryz.ntmps34
 go_upto_region 1 with fail
 refine wp_name (fun W hW => ?_)
 have hb0 : Below w.heap.size w W := by rw [hW.out]; go_grown
 have hD : B3 W w.heap.size 62 (.slice a l.length cap) (.int .i64 S.arm) (.bool S.down) := by
  exact z10
 have hZ : B3 W (w.heap.size + 1 + 1) 62 (.slice none 0 0) (.int .i64 0) (.bool false) := by rw [hW.out]; exact cZ w _ _ _
 have hQ : W.rangeAt (w.heap.size + 1) 0 (ah x ax cx) := by
  exact z13
 have hin := HIN.out.kept hb0
 have hd0 := HOV.out.kept hb0
 clear hW
 obtain ⟨d0, d1, d2, e0, e1, e2⟩ := hD.cells
 go_upto_region 3 with (first
  | ((with_reducible refine wpList_load_to 41 _ (w.heap.size + 1) 0 (ah x ax cx) (aU x ax cx) rfl _ Tryz.underlying41 rfl (by kernel_rfl) hQ ?_ rfl ?_); exact rfl)
  | (go_at_call 10; (with_reducible refine (HR.out _ hd0).mono ?_); rintro v w1 ⟨rfl, hb⟩))
 have hDr : w1.drew.rangeAt w.heap.size 0 [.slice a l.length cap, .int .i64 S.arm, .bool S.down] := (hD.below hb).range
 have hQr : w1.drew.rangeAt (w.heap.size + 1) 0 (ah x ax cx) := rangeAt_kept hQ hb.drew
 have hZ1 : B3 w1.drew (w.heap.size + 1 + 1) 62 (.slice none 0 0) (.int .i64 0) (.bool false) := hZ.below hb.drew
 have hbw : Below w.heap.size w w1.drew := (below2 hb0 hb).drew
 have hin1 : RFsIn w1.drew a l := (hin.kept hb).kept (Below.refl _ _).drew
 have hd1 : DotsIn w1.drew ax x.e.over := (hd0.kept hb).kept (Below.refl _ _).drew
 clear d0 d1 d2 e0 e1 e2 hD hZ hQ hb hb0 hin hd0
 have hn1 : w.heap.size ≠ w.heap.size + 1 + 1 := by omega
 have hn2 : w.heap.size + 1 ≠ w.heap.size + 1 + 1 := by omega
 refine wp_region_noPanic ?_
 refine wp_region_held_drew (S := fun W' => W'.rangeAt w.heap.size 0 [.slice a l.length cap, .int .i64 S.arm, .bool S.down] ∧ W'.rangeAt (w.heap.size + 1) 0 (ah x ax cx)) (by kernel_rfl) ⟨hDr, hQr⟩ (fun hHeld => ?_)
 refine tH 0 10 rfl (yieldsIf_load_mid (by rfl) 62 _ rfl w.heap.size 0 rfl [.slice a l.length cap, .int .i64 S.arm, .bool S.down] _ (fun X h => h.1) Tryz.underlying62 rfl (by kernel_rfl)) ?_
 try simp only [pS]
 refine tH 1 11 rfl (yieldsIf_load_mid (by rfl) 41 _ rfl (w.heap.size + 1) 0 rfl (ah x ax cx) _ (fun X h => h.2) Tryz.underlying41 rfl (by kernel_rfl)) ?_
 try simp only [pS]
 refine rH 2 12 rfl fun K hK => ?_
 (go_simp; go_at_call 65; (with_reducible refine (HLn.out _ hd1).mono ?_); rintro v w2 ⟨v2, rfl, hown, hb2⟩; obtain ⟨am, cm, rfl, xY⟩ := own_bytes hown; go_wp2_with fail)
 refine hK.out _ _ ⟨rangeAt_kept hDr hb2, rangeAt_kept hQr hb2⟩ (fun ai => ?_)
 clear hK K hHeld
 have hHeld := ai
 clear ai
 try simp only [pS]
 have mf := rangeAt_kept hDr hb2
 have l9 := rangeAt_kept hQr hb2
 have hZ2 := hZ1.below hb2
 have hbw2 := below2 hbw hb2
 have hin2 := hin1.kept hb2
 clear hown hin1 hbw hZ1 hDr hQr hb2 hd1
 refine rH 3 13 rfl fun K hK => ?_
 (go_simp; go_at_call 41; (with_reducible refine (HA.out _ _ _ hin2 xY).mono ?_); rintro v w3 ⟨a3, l3, c3, rfl, ed, hc3, hl3, hb3⟩; go_wp2_with fail)
 refine hK.out _ _ ⟨rangeAt_kept mf hb3, rangeAt_kept l9 hb3⟩ (fun ai => ?_)
 clear hK K hHeld
 have hHeld := ai
 clear ai
 try simp only [pS]
 have yS := rangeAt_kept mf hb3
 have yR := rangeAt_kept l9 hb3
 have hZ3 := hZ2.below hb3
 have hbw3 := below2 hbw2 hb3
 have HL3 := Lib.hid hl3
 clear hin2 hbw2 hZ2 mf l9 hb3 xY hl3
 refine tH (v := ?_) 4 14 rfl (Or.inl ⟨by rfl, ?_⟩) ?_
 case refine_2 => exact z2
 try simp only [pS]
 refine tH (v := ?_) 5 15 rfl (Or.inl ⟨by rfl, ?_⟩) ?_
 case refine_2 => exact z2
 try simp only [pS]
 refine wpAnyH_ready (rs := [6]) (by kernel_rfl) (by simp) ?_
 refine AllReadyH.cons (o := ⟨none, _, _, _, _, _⟩) rfl (fun K hK => ?_) AllReadyH.nil
 refine aP (by rfl) 62 _ _ rfl (w.heap.size + 1 + 1) #[.slice a3 l3.length c3, .int .i64 T.arm, .bool T.down] rfl rfl 62 _ hZ3 (by kernel_rfl) rfl (by kernel_rfl) ?_
 refine hK.out _ _ ⟨bP yS hn1, bP yR hn2⟩ (fun ai => ?_)
 clear hK K hHeld
 have hHeld := ai
 clear ai
 try simp only [pS]
 refine tH (v := ?_) 7 5 rfl (Or.inl ⟨by rfl, ?_⟩) ?_
 case refine_2 => exact z2
 try simp only [pS]
 refine wpAnyH_done (by kernel_rfl) ?_ _
 refine NoPanic.normal ?_
 go_wp2
 refine dA 4 5 62 62 (w.heap.size + 1 + 1) _ _ _ rfl rfl rfl (hZ3.row _ _ _) Tryz.underlying62 rfl (by kernel_rfl) rfl ?_
 exact ⟨a3, l3, c3, rfl, ed.fr (T := isR (w.heap.size + 1 + 1)) (dw _ _ _) (fun k hk => by subst hk; exact ⟨hZ3.noByte ⟨trivial, trivial, trivial⟩, hZ3.noStr ⟨trivial, trivial, trivial⟩⟩), hc3, HL3.out, aJ hbw3 (by omega) _⟩
theorem RetDk.ofBelow {c : Int} {e : Ending} (h : DkIn w F d S b D) (he : e = .returned (.int .i64 c)) (hb : Below w.heap.size w w') : RetDk F d b S c w e w' := ⟨he, ⟨D, (h.below hb).mono fun k hk => Or.inl hk⟩, Fr.of_below hb⟩
/-- ANY STEP -/
theorem sH {a : Option Addr} {cap : Nat} {l : List RF} (s : WSt) (h : DkIn w F d S b D) (hi : DInv S) (hF : ∀ k, F k → k < w.heap.size ∧ NoByte w k ∧ NoStr w k) (hFI : ∀ k, F k → jK w k) (hin : RFsIn w a l) (hlc : l.length ≤ cap) (hl : az l = S.f)
 (hs : WStIn w s) (hn : iP s.n) (hL : bf s = true) :
 Calls Tryz.prog 19 #[.pointer (some ⟨d, 0, none⟩), aO a l.length cap S.arm S.down, jh s] w (RetStepT F d b (S.wstep s) w) := by
 have hll : l.length ≤ 16777216 := by have := congrArg List.length hl; rw [List.length_map] at this; have := hi.len; omega
 have hrf : ∀ f, getF (az l) logS = some f → f.b.length ≤ 16777216 := fun f hf => (hi.ok f (by rw [← hl]; exact getF_mem hf)).len
 have hSl : (⟨az l, S.arm, S.down⟩ : DS) = S := by rw [hl]
 obtain ⟨kd, n, x, ax, cx, bs, ab, cb⟩ := s
 obtain ⟨hev, hbs, hbl⟩ := hs
 unfold bf at hL
 simp only [Bool.and_eq_true, decide_eq_true_eq] at hL hev hbs hbl hn
 obtain ⟨hL1, hL2⟩ := hL
 have hsm := light_small hL1
 by_cases k1 : kd = 1
 ·subst k1
  by_cases hok : bH x = true
  ·have he : S.wstep ⟨1, n, x, ax, cx, bs, ab, cb⟩ = (S.append logS (aN x)).1 := by unfold DS.wstep; rw [if_pos rfl, if_pos hok]
   rw [he]
   exact jg (c := (S.append logS (aN x)).2) h hF (Lib.hid fun X hb => kU hi hlc hl (hin.kept hb) hsm (hev.dots.kept hb) hok)
        (Lib.hid fun X D hz hb hX => fJ x ax cx hX hi (hev.dots.kept hb) (fun A off h1 h2 => Nat.lt_of_lt_of_le (hev.old A off h1 h2) hb.size) hok)
  ·have he : S.wstep ⟨1, n, x, ax, cx, bs, ab, cb⟩ = S := by unfold DS.wstep; rw [if_pos rfl, if_neg hok]
   rw [he]
   have hno := Bool.eq_false_iff.2 hok
   exact jg (c := 1) h hF (Lib.hid fun X hb => lT hlc hl (hin.kept hb) hsm (hev.dots.kept hb) hno)
        (Lib.hid fun X D hz hb hX => (ny x _ ax cx X hsm (hev.dots.kept hb) hno).mono fun e w' hr => RetDk.ofBelow hX hr.1 hr.2)
 by_cases k2 : kd = 2
 ·subst k2
  have he : S.wstep ⟨2, n, x, ax, cx, bs, ab, cb⟩ = (S.sync logS).1 := by unfold DS.wstep; rw [if_neg k1, if_pos rfl]
  rw [he]
  exact qi (c := dB (S.sync logS).2) h hF (Lib.hid fun X hb => nM a cap l X hi hlc hl (hin.kept hb)) (Lib.hid fun X D hz hb hX => jM hX hi)
 by_cases k3 : kd = 3
 ·subst k3
  have he : S.wstep ⟨3, n, x, ax, cx, bs, ab, cb⟩ = S.recov.1 := by unfold DS.wstep; rw [if_neg k1, if_neg k2, if_pos rfl]
  rw [he]
  exact lJ h hi hF hFI hin hlc hl
 by_cases k4 : kd = 4
 ·subst k4
  have he : S.wstep ⟨4, n, x, ax, cx, bs, ab, cb⟩ = (S.trunc logS 0).1 := by unfold DS.wstep; rw [if_neg k1, if_neg k2, if_neg k3, if_pos rfl]
  rw [he]
  exact oG (c := dB (S.trunc logS 0).2) h hF (Lib.hid fun X hb => lS a cap l X hi hlc hl (hin.kept hb)) (Lib.hid fun X D hz hb hX => ni hX hi)
 by_cases k5 : kd = 5
 ·subst k5
  have he : S.wstep ⟨5, n, x, ax, cx, bs, ab, cb⟩ = S.crash [(logS, n)] := by unfold DS.wstep; rw [if_neg k1, if_neg k2, if_neg k3, if_neg k4, if_pos rfl]
  rw [he]
  exact oD h hi hF hin hl hn
 by_cases k6 : kd = 6
 ·subst k6
  have he : S.wstep ⟨6, n, x, ax, cx, bs, ab, cb⟩ = (S.rarm n).1 := by unfold DS.wstep; rw [if_neg k1, if_neg k2, if_neg k3, if_neg k4, if_neg k5, if_pos rfl]
  rw [he]
  exact sG (c := (S.rarm n).2) h hF (Lib.hid fun X hb => wu a cap l n hlc hl (hin.kept hb)) (Lib.hid fun X D hz hb hX => xO n hX)
 by_cases k7 : kd = 7
 ·subst k7
  have he : S.wstep ⟨7, n, x, ax, cx, bs, ab, cb⟩ = (S.append logS bs).1 := by unfold DS.wstep; rw [if_neg k1, if_neg k2, if_neg k3, if_neg k4, if_neg k5, if_neg k6, if_pos rfl]
  rw [he]
  refine oH (c := (S.append logS bs).2) h hF (Lib.hid fun X hb => ?_) (Lib.hid fun X D hz hb hX => Append_any logS_size hX hi (by omega) (hbs.kept hb))
  have := jW a ab cap cb S.arm S.down l logS bs X hll hlc hi.arm logS_size hrf (by omega) (hin.kept hb) (hbs.kept hb)
  rwa [hSl] at this
 ·have he : S.wstep ⟨kd, n, x, ax, cx, bs, ab, cb⟩ = S := by unfold DS.wstep; rw [if_neg k1, if_neg k2, if_neg k3, if_neg k4, if_neg k5, if_neg k6, if_neg k7]
  rw [he]
  exact qj h hF hin hlc hl ⟨k1, k2, k3, k4, k5, k6, k7⟩
end Go.Proofs.YtlefejokpdjpgaaGreat
