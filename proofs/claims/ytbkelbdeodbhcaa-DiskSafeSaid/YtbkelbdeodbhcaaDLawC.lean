/- The disk's law: the reference's files behind a crash. Conditions: as in the text. -/
import Derived.Test.YtbkelbdeodbhcaaCelB
import Derived.Test.YtbkelbdeodbhcaaDRefH
import Derived.Test.YtbkelbdeodbhcaaDCrash
set_option linter.unusedSimpArgs false
set_option linter.unusedVariables false
set_option linter.unnecessarySimpa false
namespace Go.Proofs.Ytbkelbdeodbhcaa
open Go.RowKit

theorem Try.infoStr30 : (Try.prog.info? 9).map (fun i => (i.zero, i.size, i.bytes)) = some (some (.string ByteArray.empty), 1, 16) := by kernel_rfl
theorem Try.infoInt30 : (Try.prog.info? 3).map (fun i => (i.zero, i.size, i.bytes)) = some (some (.int .i64 0), 1, 8) := by kernel_rfl
theorem nameCells_snoc (ks : Ks) (k : Nat) (h : k < ks.length) : nameCells (ks.take k) ++ [.string ks[k].1] = nameCells (ks.take (k + 1)) := by
  unfold nameCells; rw [List.take_succ_eq_append_getElem h, List.map_append]; rfl
theorem keepCells_snoc (ks : Ks) (k : Nat) (h : k < ks.length) : keepCells (ks.take k) ++ [.int .i64 ks[k].2] = keepCells (ks.take (k + 1)) := by
  unfold keepCells; rw [List.take_succ_eq_append_getElem h, List.map_append]; rfl

set_option maxRecDepth 100000 in
set_option maxHeartbeats 2000000 in
theorem lawCrash_any (a al : Option Addr) (cap cl arm : Nat) (down : Bool) (l : List RF) (ks : Ks) (w : World) (hl : l.length ≤ 16777216) (hkl : ks.length ≤ 1048576) (hb : ∀ g ∈ l, g.f.safe ≤ g.f.b.length ∧ g.f.b.length ≤ 1073741824)
    (h : RFsIn w a l) (hk : CellsIn w al (kcs ks)) :
    Calls Try.prog 20 #[rdkVal a l.length cap arm down, .slice al ks.length cl] w fun e w' => ∃ (a' : Option Addr) (l' : List RF) (cap' : Nat), e = .returned (rdkVal a' l'.length cap' 0 false) ∧
      RFsIn w' a' l' ∧ l'.length ≤ cap' ∧ rfsOf l' = (rfsOf l).map (crashF ks) ∧ Below w.heap.size w w' := by
  obtain ⟨i0, hi, hz0, hz1, hz2⟩ := info_parts Try.infoStr30
  obtain ⟨j0, hj, hy0, hy1, hy2⟩ := info_parts Try.infoInt30
  go_enter Try.func20, Try.ntmps20
  go_upto_region 1 with fail
  refine wp_name (fun W hW => ?_)
  have hb0 : Below w.heap.size w W := by rw [hW.out]; go_grown
  have hD : B3 W w.heap.size 29 (.slice a l.length cap) (.int .i64 arm) (.bool down) := by
    rw [hW.out]; exact (Below.refl (w.heap.size + 1) _).alloc (by simp) _ |>.block _ (by simp) |>.trans (heap_last0 w _)
  have hZ : B3 W (w.heap.size + 1) 29 (.slice none 0 0) (.int .i64 0) (.bool false) := by rw [hW.out]; exact heap_last1 w _ _
  have H0 := Lib.hid h
  replace h := h.kept hb0
  clear hW
  obtain ⟨d0, d1, d2, e0, e1, e2⟩ := hD.cells
  replace hk := hk.kept hb0
  have hownN : ((W.alloc (Obj.cells #[] 9)).alloc (Obj.cells #[] 3)).ownsRow W.heap.size 9 1 (.slice (some ⟨W.heap.size, 0, none⟩) 0 0) 0 [] := (World.ownsRow_made (base := W.heap.size) (e := 9) (size := 1) W #[] 0 (Nat.le_refl _) (by decide) rfl).alloc _
  have hownK : ((W.alloc (Obj.cells #[] 9)).alloc (Obj.cells #[] 3)).ownsRow W.heap.size 3 1 (.slice (some ⟨W.heap.size + 1, 0, none⟩) 0 0) 0 [] := by
    have := World.ownsRow_made (base := W.heap.size) (e := 3) (size := 1) (W.alloc (Obj.cells #[] 9)) #[] 0 (by simp) (by decide) rfl
    simpa using this
  go_wp2
  go_loopw [5, 6, 7] (fun vn vk i wr => ∃ k : Nat, i = .int .i64 k ∧ k ≤ ks.length ∧ wr.ownsRow W.heap.size 9 1 vn k (nameCells (ks.take k)) ∧ wr.ownsRow W.heap.size 3 1 vk k (keepCells (ks.take k)) ∧ (∀ q, vn.ownBlock = some q → vk.ownBlock ≠ some q) ∧ Below W.heap.size W wr) (fun _ _ i _ => ks.length - (intOf i).toNat)
  case atStart => exact ⟨0, rfl, Nat.zero_le _, hownN, hownK, fun q hq => by simp [Value.ownBlock] at hq ⊢; omega, ((Below.refl _ _).alloc (Nat.le_refl _) _).alloc (by simp) _⟩
  case round =>
    obtain ⟨k, rfl, hk1, hoN, hoK, hne, hbw⟩ := hrel
    have hzw := hbw.size
    by_cases hlt : k < ks.length
    · obtain ⟨A, off, rfl, c0, c1⟩ := kcs_at hk hlt
      have HN := Lib.hid (nameCells_snoc ks k hlt)
      have HK := Lib.hid (keepCells_snoc ks k hlt)
      generalize ks[k] = p at c0 c1 HN HK
      obtain ⟨pn, pk⟩ := p
      simp only at c0 c1 HN HK
      have r0 := kept hbw c0
      go_upto_region 7 with (at_builtin; go_loud (refine wpList_append_cells2 rfl _ _ 55 rfl W.heap.size 9 i0 _ 1 16 Try.underlying55 hi hz0 hz1 hz2 rfl (by decide) _ _ _ rfl (hoN.alloc _) _ 1 1 [.string pn] rfl rfl (cell1_new wr _ _) (by simp [Value.oneCell']) (by unfold maxLen; omega) (by omega) (by simp; omega) ?_); intro v' w2 hoN2 hg2 hor2)
      have hb2 : Below W.heap.size W w2 := (hbw.alloc hzw (Obj.cells #[.string pn] 9)).grown hg2 (by simp; omega) (fun q hq => (hoN.lt q hq).1)
      have hoK2 := own_grown (hoK.alloc (Obj.cells #[.string pn] 9)) hg2 (fun q hq e => hne q e hq)
      have hne2 : ∀ q, v'.ownBlock = some q → u6.ownBlock ≠ some q := fun q hq e => by
        have hlt := (hoK.lt q e).2
        rcases hor2 with h1 | h1
        · rw [h1] at hq; exact hne q hq e
        · rw [h1] at hq; simp at hq; omega
      rw [HN.out] at hoN2
      have r1 := kept hb2 c1
      clear r0
      have hz2 := hb2.size
      go_wp2_with (at_builtin; go_loud (refine wpList_append_cells2 rfl _ _ 81 rfl W.heap.size 3 j0 _ 1 8 Try.underlying81 hj hy0 hy1 hy2 rfl (by decide) _ _ _ rfl (hoK2.alloc _) _ 1 1 [.int .i64 pk] rfl rfl (cell1_new w2 _ _) (by simp [Value.oneCell']) (by unfold maxLen; omega) (by omega) (by simp; omega) ?_); intro v3 w3 hoK3 hg3 hor3)
      have hb3 : Below W.heap.size W w3 := (hb2.alloc hz2 (Obj.cells #[.int .i64 pk] 3)).grown hg3 (by simp; omega) (fun q hq => (hoK2.lt q hq).1)
      have hoN3 := own_grown (hoN2.alloc (Obj.cells #[.int .i64 pk] 3)) hg3 (fun q hq e => hne2 q hq e)
      have hne3 : ∀ q, v'.ownBlock = some q → v3.ownBlock ≠ some q := fun q hq e => by
        have hlt := (hoN2.lt q hq).2
        rcases hor3 with h1 | h1
        · rw [h1] at e; exact hne2 q hq e
        · rw [h1] at e; simp at e; omega
      rw [HK.out] at hoK3
      go_roundw
      case rel => exact ⟨k + 1, by go_num, by omega, hoN3, hoK3, hne3, hb3⟩
      case measure => simp [intOf] <;> omega
    · have hke : k = ks.length := by omega
      subst hke
      rw [List.take_length] at hoN hoK
      have hlN : (nameCells ks).length = ks.length := by simp [nameCells]
      obtain ⟨an, cn, rfl, hcn, _⟩ := own_cellsIn hoN
      obtain ⟨ak, ck, rfl, hck, _⟩ := own_cellsIn hoK
      have hD2 := hD.below hbw
      have hZ2 := hZ.below hbw
      have hb02 := below2 hb0 hbw
      have HC := Lib.hid (rCrash_any a an ak cap cn ck arm down l ks wr hl (by omega) hb (h.kept hbw) hcn hck)
      obtain ⟨d0, d1, d2, e0, e1, e2⟩ := hD2.cells
      go_wp2_with (first
        | (go_at_call 38; (with_reducible refine HC.out.mono ?_); rintro e w4 ⟨a4, l4, c4, rfl, hin4, hc4, hl4, hb4⟩; have HL4 := Lib.hid hl4; clear hl4; have hZ4 := hZ2.below hb4; have hb04 := below2 hb02 hb4)
        | (refine wpList_store_row rfl 29 _ _ rfl (w.heap.size + 1) #[.slice a4 l4.length c4, .int .i64 0, .bool false] rfl rfl 29 _ hZ4 (by kernel_rfl) rfl (by kernel_rfl) ?_)
        )
      refine ret_cell30 4 29 29 (w.heap.size + 1) _ _ rfl rfl (hZ4.row _ _ _) Try.underlying29 rfl (by kernel_rfl) rfl ?_
      refine ⟨a4, l4, c4, rfl, ?_, hc4, HL4.out, below_row hb04 (Nat.le_succ _) _⟩
      exact hin4.fr (T := isR (w.heap.size + 1)) (fr_row _ _ _) (fun k hk => by subst hk; exact ⟨hZ4.noByte ⟨trivial, trivial, trivial⟩, hZ4.noStr ⟨trivial, trivial, trivial⟩⟩)
end Go.Proofs.Ytbkelbdeodbhcaa
