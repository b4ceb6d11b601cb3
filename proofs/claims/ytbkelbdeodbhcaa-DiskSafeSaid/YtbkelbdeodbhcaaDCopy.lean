/- The disk: Copy. Conditions: as in the text. -/
import Derived.Test.YtbkelbdeodbhcaaDCrashB
import Derived.Test.YtbkelbdeodbhcaaDRefG
set_option linter.unusedSimpArgs false
set_option linter.unusedVariables false
set_option linter.unnecessarySimpa false
namespace Go.Proofs.Ytbkelbdeodbhcaa
open Go.RowKit

variable {F : Nat → Prop} {d : Nat} {S : DS} {b : Nat} {D : DataW Unit} {w w' : World}
theorem crashed_same {l : List DF} {k : Nat} (hs : Srt l) (h : k < l.length) : getF l l[k].name = some l[k] := by
  obtain ⟨f, hf⟩ := Option.isSome_iff_exists.1 (getF_some_iff.2 ⟨l[k], List.getElem_mem h, rfl⟩)
  rw [hf]
  congr 1
  exact srt_eq hs (getF_mem hf) (List.getElem_mem h) (getF_name hf)
theorem put_take {l : List DF} {k : Nat} (hs : Srt l) (h : k < l.length) : putF (l.take k) l[k] = l.take (k + 1) := by
  have hlt : ∀ x ∈ l.take k, nameLt x.name l[k].name = true := fun x hx => by
    obtain ⟨i, hi, rfl⟩ := List.mem_take_iff_getElem.1 hx
    exact List.pairwise_iff_getElem.1 hs i k (by omega) h (by omega)
  have e1 : delF (l.take k) l[k].name = l.take k := by
    unfold delF
    rw [List.filter_eq_self]
    intro x hx
    have := nameLt_ne (hlt x hx)
    simpa using this
  unfold putF
  rw [e1, List.take_succ_eq_append_getElem h]
  generalize l.take k = m at hlt
  generalize l[k] = f at hlt
  clear e1 hs h
  induction m with
  | nil => rfl
  | cons x r ih =>
    unfold insF
    rw [if_pos (hlt x (by simp)), ih (fun y hy => hlt y (List.mem_cons_of_mem _ hy))]
    rfl

theorem mapNoStr {w : World} {b n : Nat} {D : DataW Unit} (h : w.ownsMap Try.prog 9 fileR b n D) : NoStr w b := by
  obtain ⟨es, cl, hb, _⟩ := h
  intro o s e
  simp [World.cell?, hb] at e
/-- a block that is not there yet holds no file -/
theorem fresh_no {F : Nat → Prop} {d : Nat} {S : DS} {b : Nat} {D : DataW Unit} {w : World} (h : DkIn w F d S b D) {u : ByteArray} {fb : Nat} (hu : D.atKey (nk u) .nil = .lit (.int .i64 fb)) (hz : w.heap.size ≤ fb) : False := by
  cases hg : getF S.f u with
  | none => have := h.files.none u hg; rw [this] at hu; cases hu
  | some f =>
    obtain ⟨fb', _, h2, h3⟩ := h.files.some u f hg
    obtain rfl : fb' = fb := by have := h2.symm.trans hu; simp at this; omega
    obtain ⟨a, cap, h4, _⟩ := h3
    have := Fr.lt h4
    omega
set_option maxRecDepth 100000 in
set_option maxHeartbeats 2000000 in
theorem Copy_any (h : DkIn w F d S b D) (hi : DInv S) :
    Calls Try.prog 18 #[.pointer (some ⟨d, 0, none⟩)] w fun e w' => e = .returned (.pointer (some ⟨w.heap.size + 1, 0, none⟩)) ∧ (∃ D', DkIn w' (fun k => w.heap.size ≤ k) (w.heap.size + 1) S w.heap.size D') ∧ Below w.heap.size w w' := by
  have HNW := Lib.hid (New_any w)
  have hdlt : d < w.heap.size := Fr.lt h.cells
  go_enter Try.func18, Try.ntmps18
  go_wp2_with (go_at_call 8; (with_reducible refine HNW.out.mono ?_); rintro e w1 ⟨rfl, hN, hb1⟩)
  have hd1 := h.below hb1
  obtain ⟨d0, d1, d2, e0, e1, e2⟩ := three_cell hd1.cells
  obtain ⟨o0, o1, o2, p0, p1, p2⟩ := three_cell hN.cells
  have hne : d ≠ w.heap.size + 1 := by omega
  have hne' : w.heap.size + 1 ≠ d := by omega
  go_region_held3 (fun W' => W'.cell? ⟨d, 1, none⟩ = some (.int .i64 S.arm) ∧ W'.cell? ⟨d, 2, none⟩ = some (.bool S.down)) (go_keep) (fail)
  go_upto_region 5 with fail
  refine wp_name (fun W hW => ?_)
  have hbW : Below w.heap.size w W := by rw [hW.out]; exact (below_set (below_set hb1 (Nat.le_succ _) _) (Nat.le_succ _) _).drew
  have hN2 : DkIn W (fun k => w.heap.size ≤ k) (w.heap.size + 1) ⟨S.f.take 0, S.arm, S.down⟩ w.heap.size (.map []) := by
    rw [hW.out]
    exact (hN.setCells (arm := S.arm) (down := S.down) (three_set2 (three_set1 hN.cells _) _) ((fr_set _).again (fr_set _))).below (Below.refl _ _).drew
  have hDW := h.below hbW
  have HN := Lib.hid (Names_srt hDW hi.srt hi.len)
  clear hW hN hd1 d0 d1 d2 e0 e1 e2 o0 o1 o2 p0 p1 p2 hb1
  have h8 := hi.len
  go_wp2_with (go_at_call 26; (with_reducible refine HN.out.mono ?_); rintro e w4 ⟨an, cn, rfl, hnm, hb4⟩)
  have hb04 := hbW.trans (hb4.mono hbW.size)
  have hN4 := hN2.below hb4
  go_loopw [27] (fun i wr => ∃ (k : Nat) (D2 : DataW Unit), i = .int .i64 k ∧ k ≤ S.f.length ∧ DkIn wr (fun k => w.heap.size ≤ k) (w.heap.size + 1) ⟨S.f.take k, S.arm, S.down⟩ w.heap.size D2 ∧ CellsIn wr an (nameVals S.f) ∧ Below w.heap.size w wr) (fun i _ => S.f.length - (intOf i).toNat)
  case atStart => exact ⟨0, _, rfl, Nat.zero_le _, hN4, hnm, hb04⟩
  case round =>
    obtain ⟨k, D2, rfl, hk1, hNk, hnk, hbk⟩ := hrel
    by_cases hlt : k < S.f.length
    · obtain ⟨A, off, rfl, c0⟩ := cells_at hnk (k := k) (by simpa [nameVals] using hlt)
      simp only [nameVals, List.getElem_map] at c0
      have hDk := h.below hbk
      have hg0 : getF S.f S.f[k].name = some S.f[k] := by exact crashed_same hi.srt hlt
      obtain ⟨fb, hF, hat, hfa⟩ := hDk.files.some _ _ hg0
      have hok := hi.ok _ (List.getElem_mem hlt)
      have HPT := Lib.hid (put_take hi.srt hlt)
      have hns : S.f[k].name.size ≤ maxLen := by have := nameOk_size hok.name; unfold maxLen; omega
      obtain ⟨hsf, hln⟩ : S.f[k].safe ≤ S.f[k].b.length ∧ S.f[k].b.length ≤ 16777216 := ⟨hok.safe, hok.len⟩
      have HHU : Hid (Uniq (S.f.take k)) := Lib.hid (hi.srt.uniq.sublist (List.take_sublist _ _))
      have HLT := Lib.hid hlt
      clear hok hg0
      generalize S.f[k] = f at c0 hat hfa HPT hns hsf hln
      obtain ⟨v1, ps1, hrun1, hv1⟩ := hDk.own.lookup nlaw Try.underlying60 (zeroFile _) (zd := .nil) (zp := []) rfl (nk_key hns)
      rw [hat] at hv1
      obtain rfl := fileR_lit hv1
      obtain ⟨d0, d1, d2, e0, e1, e2⟩ := three_cell hDk.cells
      obtain ⟨o0, o1, o2, p0, p1, p2⟩ := three_cell hNk.cells
      obtain ⟨af, cf, x0, x1, y0, y1⟩ := hfa.cells
      have HA := Lib.hid (all_any (by omega) (show FileAt wr.drew fb f from hfa))
      clear hv1
      go_upto_region 9 with fail
      have o0d : wr.drew.cell? ⟨w.heap.size + 1, 0, none⟩ = some (.map (some w.heap.size)) := o0
      have x1d : wr.drew.cell? ⟨fb, 1, none⟩ = some (.int .i64 f.safe) := x1
      have hNd : DkIn wr.drew (fun k => w.heap.size ≤ k) (w.heap.size + 1) ⟨S.f.take k, S.arm, S.down⟩ w.heap.size D2 := hNk.below (Below.refl _ _).drew
      have hb0 : Below wr.drew.heap.size wr.drew wr.drew := Below.refl _ _
      refine wp_region_noPanic ?_
      refine wp_region_late (fun X => Below wr.drew.heap.size wr.drew X) [16] (by kernel_rfl) ?_
      refine wpAnyL_take (i := 0) (oi := ⟨some 37, _, _, _, _, _⟩) (v := ?_) rfl (by kernel_rfl) (by kernel_rfl) (by kernel_rfl) (by kernel_rfl) (by kernel_rfl) (fun _ _ _ h => h) (Or.inl ⟨by rfl, ?_⟩) (by assumption) ?_
      case refine_2 => (rintro w hSw; have s0 := kept hSw o0d; have s1 := kept hSw x1d; go_simp; try with_reducible rfl)
      try simp only [Act.put, List.setIfInBounds_toArray, List.set_cons_zero, List.set_cons_succ]
      refine wpAnyL_take (i := 1) (oi := ⟨some 38, _, _, _, _, _⟩) (v := ?_) rfl (by kernel_rfl) (by kernel_rfl) (by kernel_rfl) (by kernel_rfl) (by kernel_rfl) (fun _ _ _ h => h) (Or.inl ⟨by rfl, ?_⟩) (by assumption) ?_
      case refine_2 => (rintro w hSw; have s0 := kept hSw o0d; have s1 := kept hSw x1d; go_simp; try with_reducible rfl)
      try simp only [Act.put, List.setIfInBounds_toArray, List.set_cons_zero, List.set_cons_succ]
      refine wpAnyL_take (i := 2) (oi := ⟨some 39, _, _, _, _, _⟩) (v := ?_) rfl (by kernel_rfl) (by kernel_rfl) (by kernel_rfl) (by kernel_rfl) (by kernel_rfl) (fun _ _ _ h => h) (Or.inl ⟨by rfl, ?_⟩) (by assumption) ?_
      case refine_2 => (rintro w hSw; have s0 := kept hSw o0d; have s1 := kept hSw x1d; go_simp; try with_reducible rfl)
      try simp only [Act.put, List.setIfInBounds_toArray, List.set_cons_zero, List.set_cons_succ]
      refine wpAnyL_take (i := 3) (oi := ⟨some 40, _, _, _, _, _⟩) (v := ?_) rfl (by kernel_rfl) (by kernel_rfl) (by kernel_rfl) (by kernel_rfl) (by kernel_rfl) (fun _ _ _ h => h) (Or.inl ⟨by rfl, ?_⟩) (by assumption) ?_
      case refine_2 => (rintro w hSw; have s0 := kept hSw o0d; have s1 := kept hSw x1d; go_simp; try with_reducible rfl)
      try simp only [Act.put, List.setIfInBounds_toArray, List.set_cons_zero, List.set_cons_succ]
      refine wpAnyL_take (i := 4) (oi := ⟨some 41, _, _, _, _, _⟩) (v := ?_) rfl (by kernel_rfl) (by kernel_rfl) (by kernel_rfl) (by kernel_rfl) (by kernel_rfl) (fun _ _ _ h => h) (Or.inl ⟨by rfl, ?_⟩) (by assumption) ?_
      case refine_2 => (rintro w hSw; have s0 := kept hSw o0d; have s1 := kept hSw x1d; go_simp; try with_reducible rfl)
      try simp only [Act.put, List.setIfInBounds_toArray, List.set_cons_zero, List.set_cons_succ]
      refine wpAnyL_take (i := 5) (oi := ⟨some 42, _, _, _, _, _⟩) (v := ?_) rfl (by kernel_rfl) (by kernel_rfl) (by kernel_rfl) (by kernel_rfl) (by kernel_rfl) (fun _ _ _ h => h) (Or.inl ⟨by rfl, ?_⟩) (by assumption) ?_
      case refine_2 => (rintro w hSw; have s0 := kept hSw o0d; have s1 := kept hSw x1d; go_simp; try with_reducible rfl)
      try simp only [Act.put, List.setIfInBounds_toArray, List.set_cons_zero, List.set_cons_succ]
      refine wpAnyL_take (i := 6) (oi := ⟨some 43, _, _, _, _, _⟩) (v := ?_) rfl (by kernel_rfl) (by kernel_rfl) (by kernel_rfl) (by kernel_rfl) (by kernel_rfl) (fun _ _ _ h => h) (Or.inl ⟨by rfl, ?_⟩) (by assumption) ?_
      case refine_2 => (rintro w hSw; have s0 := kept hSw o0d; have s1 := kept hSw x1d; go_simp; try with_reducible rfl)
      try simp only [Act.put, List.setIfInBounds_toArray, List.set_cons_zero, List.set_cons_succ]
      refine wpAnyL_take (i := 7) (oi := ⟨some 44, _, _, _, _, _⟩) (v := ?_) rfl (by kernel_rfl) (by kernel_rfl) (by kernel_rfl) (by kernel_rfl) (by kernel_rfl) (fun _ _ _ h => h) (Or.inl ⟨by rfl, ?_⟩) (by assumption) ?_
      case refine_2 => (rintro w hSw; have s0 := kept hSw o0d; have s1 := kept hSw x1d; go_simp; try with_reducible rfl)
      try simp only [Act.put, List.setIfInBounds_toArray, List.set_cons_zero, List.set_cons_succ]
      refine wpAnyL_take (i := 10) (oi := ⟨some 47, _, _, _, _, _⟩) (v := ?_) rfl (by kernel_rfl) (by kernel_rfl) (by kernel_rfl) (by kernel_rfl) (by kernel_rfl) (fun _ _ _ h => h) (Or.inl ⟨by rfl, ?_⟩) (by assumption) ?_
      case refine_2 => (rintro w hSw; have s0 := kept hSw o0d; have s1 := kept hSw x1d; go_simp; try with_reducible rfl)
      try simp only [Act.put, List.setIfInBounds_toArray, List.set_cons_zero, List.set_cons_succ]
      refine wpAnyL_take (i := 11) (oi := ⟨some 48, _, _, _, _, _⟩) (v := ?_) rfl (by kernel_rfl) (by kernel_rfl) (by kernel_rfl) (by kernel_rfl) (by kernel_rfl) (fun _ _ _ h => h) (Or.inl ⟨by rfl, ?_⟩) (by assumption) ?_
      case refine_2 => (rintro w hSw; have s0 := kept hSw o0d; have s1 := kept hSw x1d; go_simp; try with_reducible rfl)
      try simp only [Act.put, List.setIfInBounds_toArray, List.set_cons_zero, List.set_cons_succ]
      refine wpAnyL_take (i := 12) (oi := ⟨some 49, _, _, _, _, _⟩) (v := ?_) rfl (by kernel_rfl) (by kernel_rfl) (by kernel_rfl) (by kernel_rfl) (by kernel_rfl) (fun _ _ _ h => h) (Or.inl ⟨by rfl, ?_⟩) (by assumption) ?_
      case refine_2 => (rintro w hSw; have s0 := kept hSw o0d; have s1 := kept hSw x1d; go_simp; try with_reducible rfl)
      try simp only [Act.put, List.setIfInBounds_toArray, List.set_cons_zero, List.set_cons_succ]
      refine wpAnyL_take (i := 13) (oi := ⟨some 50, _, _, _, _, _⟩) (v := ?_) rfl (by kernel_rfl) (by kernel_rfl) (by kernel_rfl) (by kernel_rfl) (by kernel_rfl) (fun _ _ _ h => h) (Or.inl ⟨by rfl, ?_⟩) (by assumption) ?_
      case refine_2 => (rintro w hSw; have s0 := kept hSw o0d; have s1 := kept hSw x1d; go_simp; try with_reducible rfl)
      try simp only [Act.put, List.setIfInBounds_toArray, List.set_cons_zero, List.set_cons_succ]
      refine wpAnyL_one (i := 8) (o := ⟨some 45, _, _, _, _, _⟩) (by kernel_rfl) rfl ?_
      intro K hK
      go_simp
      go_at_call 34
      (with_reducible refine HA.out.mono ?_)
      rintro e w5 ⟨v, rfl, hown, hb5⟩
      obtain ⟨a6, c6, rfl, hb6, hc6⟩ := own_bytesIn hown
      go_simp
      refine hK.out _ _ (Or.inr (hb5)) ?_
      clear hK K
      try simp only [Act.put, List.setIfInBounds_toArray, List.set_cons_zero, List.set_cons_succ]
      refine wpAnyL_take (i := 9) (oi := ⟨some 46, _, _, _, _, _⟩) (v := ?_) rfl (by kernel_rfl) (by kernel_rfl) (by kernel_rfl) (by kernel_rfl) (by kernel_rfl) (fun _ _ _ h => h) (Or.inl ⟨by rfl, ?_⟩) (by assumption) ?_
      case refine_2 => (rintro w hSw; go_simp; try with_reducible rfl)
      try simp only [Act.put, List.setIfInBounds_toArray, List.set_cons_zero, List.set_cons_succ]
      refine wpAnyL_take (i := 14) (oi := ⟨some 51, _, _, _, _, _⟩) (v := ?_) rfl (by kernel_rfl) (by kernel_rfl) (by kernel_rfl) (by kernel_rfl) (by kernel_rfl) (fun _ _ _ h => h) (Or.inl ⟨by rfl, ?_⟩) (by assumption) ?_
      case refine_2 => (rintro w hSw; go_simp; try with_reducible rfl)
      try simp only [Act.put, List.setIfInBounds_toArray, List.set_cons_zero, List.set_cons_succ]
      refine wpAnyL_one (i := 15) (o := ⟨some 52, _, _, _, _, _⟩) (by kernel_rfl) rfl ?_
      intro K hK
      go_simp
      refine hK.out _ _ (Or.inr (hb5.alloc hb5.size _)) ?_
      clear hK K
      try simp only [Act.put, List.setIfInBounds_toArray, List.set_cons_zero, List.set_cons_succ]
      have hb6w : Below wr.drew.heap.size wr.drew (w5.alloc (Obj.cells #[.slice a6 f.b.length c6, .int .i64 f.safe] 76)) := hb5.alloc hb5.size _
      obtain ⟨W6, hW6⟩ : ∃ W6, W6 = w5.alloc (Obj.cells #[.slice a6 f.b.length c6, .int .i64 f.safe] 76) := ⟨_, rfl⟩
      have hfa6 : FileAt W6 w5.heap.size f := ⟨a6, c6, by rw [hW6]; exact heap_last0 w5 _, by rw [hW6]; exact hb6.kept ((Below.refl _ _).alloc (Nat.le_refl _) _), hc6⟩
      rw [← hW6] at hb6w ⊢
      have hz5 : wr.heap.size ≤ w5.heap.size := hb5.size
      clear hW6
      have hN6 := hNd.below hb6w
      obtain ⟨w7, hrun7, hown7, hgr7⟩ := hN6.own.update nlaw Try.underlying60 (by show (S.f.take k).length < maxLen; rw [List.length_take]; unfold maxLen; omega) (nk_key hns) (show fileR (.pointer (some ⟨w5.heap.size, 0, none⟩)) = some (.lit (.int .i64 w5.heap.size), []) from rfl)
      refine wpAnyL_one (i := 16) (o := ⟨none, _, _, _, _, _⟩) (by kernel_rfl) rfl ?_
      intro K hK
      go_simp
      refine hK.out _ _ (Or.inl (by kernel_rfl)) ?_
      clear hK K
      try simp only [Act.put, List.setIfInBounds_toArray, List.set_cons_zero, List.set_cons_succ]
      refine wpAnyL_done (by kernel_rfl) ?_ _
      refine NoPanic.normal ?_
      have hbk7 : Below w.heap.size w w7 := (hbk.trans ((Below.refl wr.heap.size wr).drew.trans hb6w |>.mono hbk.size)).grown hgr7 (Nat.le_trans hbk.size hb6w.size) (fun q hq => by simp only [Option.some.injEq] at hq; omega)
      have hnk7 : CellsIn w7 (some ⟨A, off, none⟩) (nameVals S.f) := (show CellsIn W6 _ _ from hnk.kept ((Below.refl wr.heap.size wr).drew.trans hb6w)).frS (fr_map hgr7) (fun q hq => by subst hq; exact mapNoStr hN6.own) (nameVals_head _)
      have hput := DkIn.putFile (f := f) (fb := w5.heap.size) hN6 HHU.out (Nat.le_trans hbk.size hz5) hfa6 (fun u hu => by
        exfalso
        exact fresh_no hNd hu hz5) hown7 (fr_map hgr7)
      have hput2 : DkIn w7 (fun k => w.heap.size ≤ k) (w.heap.size + 1) ⟨S.f.take (k + 1), S.arm, S.down⟩ w.heap.size (D2.put (nk f.name) (.lit (.int .i64 w5.heap.size))) := by rw [← HPT.out]; exact hput
      clear hrun1 hrun7 x0 x1 y0 y1 d0 d1 d2 e0 e1 e2 c0 o0 o1 o2 p0 p1 p2 o0d x1d
      go_wp2
      go_roundw
      case rel =>
        have hlt2 := HLT.out
        exact ⟨k + 1, _, by go_num, by omega, hput2, hnk7, hbk7⟩
      case measure => have hlt2 := HLT.out; simp [intOf] <;> omega
    · have hke : k = S.f.length := by omega
      subst hke
      rw [List.take_length] at hNk
      go_wp2
      all_goals
        go_ret
        exact ⟨rfl, ⟨_, hNk⟩, hbk⟩
end Go.Proofs.Ytbkelbdeodbhcaa
