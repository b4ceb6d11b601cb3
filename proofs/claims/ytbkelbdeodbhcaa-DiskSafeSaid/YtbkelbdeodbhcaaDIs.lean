/- The disk's law: is a disk just the document's? Conditions: as in the text. -/
import Derived.Test.YtbkelbdeodbhcaaDLight
import Derived.Test.YtbkelbdeodbhcaaSameB
set_option linter.unusedSimpArgs false
set_option linter.unusedVariables false
set_option linter.unnecessarySimpa false
namespace Go.Proofs.Ytbkelbdeodbhcaa
open Go.RowKit

theorem quiet_dn {P : Program} {f : FuncId} {args : Array Value} {w : World} {n : Nat} {v : Value}
    (h : Calls P f args (w.drewN n) fun e w' => e = .returned v ∧ w.drewN n = w') : Calls P f args (w.drewN n) fun e w'' => e = .returned v ∧ ∃ m, w'' = w.drewN m :=
  h.mono fun _ _ ⟨he, hm⟩ => ⟨he, n, hm.symm⟩
theorem below_dn {B : Nat} {w : World} (n : Nat) : Below B w (w.drewN n) := ⟨rfl, rfl, rfl, Nat.le_refl _, fun _ _ => rfl⟩
variable {F : Nat → Prop} {d : Nat} {S : DS} {b : Nat} {D : DataW Unit} {w w' : World}
set_option maxRecDepth 100000 in
set_option maxHeartbeats 4000000 in
theorem Is_any {a : Option Addr} {cap : Nat} {l : List RF} (h : DkIn w F d S b D) (hi : DInv S) (hin : RFsIn w a l) (hl : rfsOf l = S.f) (hd : S.down = false) :
    Calls Try.prog 19 #[.pointer (some ⟨d, 0, none⟩), rdkVal a l.length cap S.arm S.down] w fun e w' => e = .returned (.bool true) ∧ Below w.heap.size w w' := by
  have hll : l.length = S.f.length := by have := congrArg List.length hl; rwa [List.length_map] at this
  have h8 := hi.len
  have HN := Lib.hid (fun (X : World) (D : DataW Unit) (h : DkIn X F d S b D) => Names_srt h hi.srt hi.len)
  have HLL := Lib.hid hll
  have hlc : l.length ≤ 8 := by omega
  have HDN := Lib.hid (fun (X : World) (D : DataW Unit) (h : DkIn X F d S b D) => Down_any d b S.arm S.down X h.cells)
  have HSD := Lib.hid hd
  rw [hd] at HDN ⊢
  clear hll hd
  go_enter Try.func19, Try.ntmps19
  go_upto_region 1 with fail
  refine wp_name (fun W hW => ?_)
  have hb0 : Below w.heap.size w W := by rw [hW.out]; go_grown
  have hB : B3 W w.heap.size 29 (.slice a l.length cap) (.int .i64 S.arm) (.bool false) := by rw [hW.out]; exact heap_last0 w _
  clear hW
  go_upto_region 2 with (go_at_call 26; (with_reducible refine (HN.out _ _ (h.below hb0)).mono ?_); rintro e w1 ⟨an, cn, rfl, hnm, hb1⟩)
  have hD1 := (h.below hb0).below hb1
  have hB1 := hB.below hb1
  have hin1 := (hin.kept hb0).kept hb1
  have hbw1 := below2 hb0 hb1
  have hq : ((S.f.length : Int) != (l.length : Int)) = false := by rw [bne_eq_false_iff_eq, HLL.out]
  have hq2 : ((S.f.length : Nat) != (l.length : Nat)) = false := by rw [bne_eq_false_iff_eq, HLL.out]
  have HDW := Lib.hid (fun (n : Nat) => HDN.out (w1.drewN n) D (hD1.below (below_dn n)))
  obtain ⟨z0, z1, z2, t0, t1, t2⟩ := hB1.cells
  go_quiet ((first | (with_reducible exact quiet_dn (HDW.out _))))
  go_wp2
  have hbn := below_dn (B := w1.heap.size) (w := w1) nq
  go_loopw [6] (fun i wr => ∃ k : Nat, i = .int .i64 k ∧ k ≤ l.length ∧ Below w1.heap.size w1 wr) (fun i _ => l.length - (intOf i).toNat)
  case atStart => exact ⟨0, rfl, Nat.zero_le _, hbn⟩
  case round =>
    obtain ⟨k, rfl, hk, hbr⟩ := hrel
    have hBr := hB1.below hbr
    obtain ⟨z0, z1, z2, t0, t1, t2⟩ := hBr.cells
    by_cases hlt : k < l.length
    · have hks : k < S.f.length := by rw [← HLL.out]; exact hlt
      have hfk : S.f[k] = l[k].f := by simp only [← hl, List.getElem_map]
      obtain ⟨AN, ofn, rfl, n0⟩ := cells_at (hnm.kept hbr) (k := k) (by simpa [nameVals] using hks)
      simp only [nameVals, List.getElem_map] at n0
      rw [hfk] at n0
      obtain ⟨A, off, rfl, hra, hgo⟩ := (hin1.kept hbr).at hlt
      have c0 := hra k hlt 0 _ rfl
      have c1 := hra k hlt 1 _ rfl
      have c2 := hra k hlt 2 _ rfl
      rw [Nat.add_zero] at c0
      have hgt : getF S.f l[k].f.name = some l[k].f := by rw [← hfk]; exact crashed_same hi.srt hks
      have hok : FOk l[k].f := by rw [← hfk]; exact hi.ok _ (List.getElem_mem hks)
      have HLT := Lib.hid hlt
      clear hra hfk
      generalize l[k] = x at c0 c1 c2 n0 hgt hok hgo
      obtain ⟨f, ag, cg⟩ := x
      simp only at c0 c1 c2 n0 hgt hok
      have hns : f.name.size ≤ maxLen := by have := nameOk_size hok.name; unfold maxLen; omega
      have hfl := hok.len
      have HRD := Lib.hid (fun (X : World) (h : DkIn X F d S b D) => Read_yes (f := f) hns h hok.name hgt HSD.out (Nat.le_trans hok.len (by decide)))
      have hsf : safeOf S f.name = f.safe := by unfold safeOf; rw [if_pos hok.name, hgt]
      have HSF := Lib.hid (fun (X : World) (h : DkIn X F d S b D) => Safe_any hns h)
      rw [hsf] at HSF
      clear hsf hgt hok hlt hks
      go_upto_region 8 with fail
      refine wp_name (fun Wf hWf => ?_)
      have hX : B3 Wf wr.heap.size 46 (.string f.name) (.slice ag f.b.length cg) (.int .i64 f.safe) := by rw [hWf.out]; exact heap_last0 wr _
      have hbf : Below wr.heap.size wr Wf := by rw [hWf.out]; exact (Below.refl _ _).alloc (Nat.le_refl _) _
      have hDf := (hD1.below hbr).below hbf
      have nf := kept hbf n0
      have hgf := hgo.bytes.kept hbf
      have hBf := hBr.below hbf
      have hbrf := hbr.trans (hbf.mono hbr.size)
      clear hWf c0 c1 c2 n0 z0 z1 z2 t0 t1 t2 hBr
      obtain ⟨x0, x1, x2, y0, y1, y2⟩ := hX.cells
      go_upto_region 9 with (go_at_call 10; (with_reducible refine (HRD.out _ hDf).mono ?_); rintro e w3 ⟨v, rfl, hown3, hb3⟩; obtain ⟨a3, k3, rfl, hin3, hk3⟩ := own_bytesIn hown3)
      have hX3 := hX.below hb3
      have hD3 := hDf.below hb3
      have n3 := kept hb3 nf
      have hg3 := hgf.kept hb3
      have hB3 := hBf.below hb3
      have hbr3 := hbrf.trans (hb3.mono hbrf.size)
      have HSB := Lib.hid (fun X (h1 : BytesIn X a3 f.b) (h2 : BytesIn X ag f.b) => rSameBytes_any a3 ag k3 cg f.b f.b X (by omega) (by omega) h1 h2)
      rw [decide_eq_true rfl] at HSB
      have HSN := Lib.hid (fun (n : Nat) => HSF.out (w3.drewN n) (hD3.below (below_dn n)))
      clear x0 x1 x2 y0 y1 y2 hX nf hgf hown3 hBf hDf
      obtain ⟨x0, x1, x2, y0, y1, y2⟩ := hX3.cells
      obtain ⟨z0, z1, z2, t0, t1, t2⟩ := hB3.cells
      have hk40 : k < l.length := HLT.out
      have hk8 : k < S.f.length := by rw [← HLL.out]; exact HLT.out
      go_quiet ((first | (with_reducible exact quiet_dn (HSN.out _))))
      have hbn3 := below_dn (B := w3.heap.size) (w := w3) nq
      go_wp2_with (go_at_call 16; (refine (HSB.out _ (show BytesIn (w3.drewN nq) a3 f.b from hin3) (show BytesIn (w3.drewN nq) ag f.b from hg3)).mono ?_); rintro e w4 ⟨rfl, hb4⟩)
      go_roundw
      case rel => exact ⟨k + 1, by go_num, by omega, (hbr3.trans (hbn3.mono hbr3.size)).trans (hb4.mono (Nat.le_trans hbr3.size hbn3.size))⟩
      case measure => simp [intOf] <;> omega
    · go_wp2
      go_ret
      exact ⟨rfl, below2 hbw1 hbr⟩
end Go.Proofs.Ytbkelbdeodbhcaa
