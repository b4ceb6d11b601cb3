/- The reference's disk: Without, Set. Conditions: as in the text. -/
import Derived.Test.YtbkelbdeodbhcaaDRefB
import Derived.Sort.Walk0
set_option linter.unusedSimpArgs false
set_option linter.unusedVariables false
set_option linter.unnecessarySimpa false
namespace Go.Proofs.Ytbkelbdeodbhcaa
open Go.RowKit

def delRF (l : List RF) (s : ByteArray) : List RF := l.filter fun g => !decide (g.f.name = s)
theorem rfsOf_delRF (l : List RF) (s : ByteArray) : rfsOf (delRF l s) = delF (rfsOf l) s := by
  unfold delRF delF rfsOf
  rw [List.filter_map]
  rfl
theorem delRF_len (l : List RF) (s : ByteArray) : (delRF l s).length ≤ l.length := List.length_filter_le _ _
theorem delRF_yes {l : List RF} {k : Nat} {s : ByteArray} (h : k < l.length) (he : l[k].f.name = s) : delRF (l.take (k + 1)) s = delRF (l.take k) s := by
  unfold delRF; rw [List.take_succ_eq_append_getElem h, List.filter_append]; simp [he]
theorem delRF_no {l : List RF} {k : Nat} {s : ByteArray} (h : k < l.length) (he : ¬ l[k].f.name = s) : delRF (l.take (k + 1)) s = delRF (l.take k) s ++ [l[k]] := by
  unfold delRF; rw [List.take_succ_eq_append_getElem h, List.filter_append]; simp [he]
theorem Try.infoRF : (Try.prog.info? 46).map (fun i => (i.zero, i.size, i.bytes)) = some (some (.agg #[.string ByteArray.empty, .slice none 0 0, .int .i64 0]), 3, 48) := by kernel_rfl
theorem rf_new (w : World) (g : RF) (t : TypeId) : CellsIn (w.alloc (.cells #[.string g.f.name, .slice g.a g.f.b.length g.cap, .int .i64 g.f.safe] t)) (some ⟨w.heap.size, 0, none⟩) (fcs [g]) := by
  refine Or.inr ⟨_, _, rfl, fun j v hv => ?_⟩
  rw [Nat.zero_add, World.cell?_alloc_new]
  simpa [fcs] using hv
theorem RFsIn.own {w : World} {base : Nat} {t : TypeId} {v : Value} {l : List RF} (h : w.ownsRow base t 3 v l.length (fcs l)) (hok : ∀ g ∈ l, RFOk w g) : ∃ a cap, v = .slice a l.length cap ∧ RFsIn w a l ∧ l.length ≤ cap := by
  obtain ⟨a, cap, h1, h2, h3⟩ := own_cellsIn h
  exact ⟨a, cap, h1, ⟨h2, hok⟩, h3⟩

set_option maxRecDepth 100000 in
set_option maxHeartbeats 1000000 in
theorem rWithout_any (a : Option Addr) (cap : Nat) (l : List RF) (s : ByteArray) (w : World) (hl : l.length ≤ 1073741824) (h : RFsIn w a l) :
    Calls Try.prog 45 #[.slice a l.length cap, .string s] w (RetFs (delRF l s) w) := by
  obtain ⟨i0, hi, hz0, hz1, hz2⟩ := info_parts Try.infoRF
  go_enter Try.func45, Try.ntmps45
  go_wp2
  have hown0 : (w.alloc (Obj.cells #[] 46)).ownsRow w.heap.size 46 3 (.slice (some ⟨w.heap.size, 0, none⟩) 0 0) (delRF (l.take 0) s).length (fcs (delRF (l.take 0) s)) := World.ownsRow_made _ _ _ (Nat.le_refl _) (by decide) rfl
  have hb0 : Below w.heap.size w (w.alloc (Obj.cells #[] 46)) := (Below.refl _ _).alloc (Nat.le_refl _) _
  go_loopw [5, 6] (fun out i wr => ∃ k : Nat, i = .int .i64 k ∧ k ≤ l.length ∧ wr.ownsRow w.heap.size 46 3 out (delRF (l.take k) s).length (fcs (delRF (l.take k) s)) ∧ Below w.heap.size w wr) (fun _ i _ => l.length - (intOf i).toNat)
  case atStart => exact ⟨0, rfl, Nat.zero_le _, hown0, hb0⟩
  case round =>
    obtain ⟨k, rfl, hk, hown, hbw⟩ := hrel
    have hzw := hbw.size
    by_cases hlt : k < l.length
    · obtain ⟨A, off, rfl, hra, hok⟩ := (h.kept hbw).at hlt
      have c0 := hra k hlt 0 _ rfl
      have c1 := hra k hlt 1 _ rfl
      have c2 := hra k hlt 2 _ rfl
      rw [Nat.add_zero] at c0
      have hdl : (delRF (l.take k) s).length ≤ l.length := Nat.le_trans (delRF_len _ _) (by simp; omega)
      by_cases hc : l[k].f.name = s
      · have HT := Lib.hid (delRF_yes hlt hc)
        have hq : (l[k].f.name.toList == s.toList) = true := by rw [hc]; simp
        clear hc hra hok
        generalize l[k] = x at c0 c1 c2 HT hq
        go_wp2
        go_roundw
        case rel => exact ⟨k + 1, by go_num, by omega, by rw [HT.out]; exact hown, hbw⟩
        case measure => simp [intOf] <;> omega
      · have HT := Lib.hid (delRF_no hlt hc)
        have hq : (l[k].f.name.toList == s.toList) = false := by rw [str_beq]; exact decide_eq_false fun e => hc (bl_inj e)
        clear hc hra hok
        generalize l[k] = x at c0 c1 c2 HT hq
        go_wp2_with (at_builtin; go_loud (refine wpList_append_cells rfl _ _ 27 rfl w.heap.size 46 i0 _ 3 48 Try.underlying27 hi hz0 hz1 hz2 rfl (by decide) _ _ _ rfl (hown.alloc _) _ 1 1 (fcs [x]) rfl rfl (rf_new wr x _) (fcs_one _) (by unfold maxLen; omega) (by omega) (by simp; omega) ?_); intro v' w2 hown3 hgrow)
        have hb3 := (hbw.alloc hzw (Obj.cells #[.string x.f.name, .slice x.a x.f.b.length x.cap, .int .i64 x.f.safe] 46)).grown hgrow (by simp; omega) (fun k hk => (hown.lt k hk).1)
        have hown4 : w2.ownsRow w.heap.size 46 3 v' (delRF (l.take (k + 1)) s).length (fcs (delRF (l.take (k + 1)) s)) := by rw [HT.out, fcs_append, List.length_append]; exact hown3
        go_roundw
        case rel => exact ⟨k + 1, by go_num, by omega, hown4, hb3⟩
        case measure => simp [intOf] <;> omega
    · have hke : k = l.length := by omega
      subst hke
      rw [List.take_length] at hown
      obtain ⟨a2, c2, rfl, hin, hc⟩ := RFsIn.own hown (fun g hg => (h.ok g (List.mem_filter.1 hg).1).kept hbw)
      go_wp2
      go_ret
      exact ⟨a2, c2, rfl, hin, hc, hbw⟩

/-! ### Set -/
def insRF : List RF → RF → List RF
  | [], g => [g]
  | x :: r, g => if nameLt x.f.name g.f.name then x :: insRF r g else g :: x :: r
def putRF (l : List RF) (g : RF) : List RF := insRF (delRF l g.f.name) g
theorem rfsOf_insRF (g : RF) : ∀ l : List RF, rfsOf (insRF l g) = insF (rfsOf l) g.f
  | [] => rfl
  | x :: r => by
    simp only [insRF, List.map_cons, insF]
    split
    · simp [← rfsOf_insRF g r]
    · rfl
theorem rfsOf_putRF (l : List RF) (g : RF) : rfsOf (putRF l g) = putF (rfsOf l) g.f := by
  unfold putRF putF; rw [rfsOf_insRF, rfsOf_delRF]
/-- how many files are ahead of a new one -/
def ahead (l : List RF) (g : RF) : Nat := (l.takeWhile fun x => nameLt x.f.name g.f.name).length
theorem insRF_eq (g : RF) : ∀ l : List RF, insRF l g = l.take (ahead l g) ++ g :: l.drop (ahead l g)
  | [] => rfl
  | x :: r => by
    unfold insRF ahead
    cases h : nameLt x.f.name g.f.name
    · simp [h]
    · simp only [h, if_true, List.takeWhile_cons_of_pos, List.length_cons, List.take_succ_cons, List.drop_succ_cons, List.cons_append]
      rw [insRF_eq g r]
      rfl
theorem ahead_le (l : List RF) (g : RF) : ahead l g ≤ l.length := List.Sublist.length_le (List.takeWhile_sublist _)
theorem ahead_yes {l : List RF} {g : RF} {k : Nat} (h : k < l.length) (hp : nameLt l[k].f.name g.f.name = true) : ahead (l.drop k) g = ahead (l.drop (k + 1)) g + 1 := by
  unfold ahead
  rw [List.drop_eq_getElem_cons h, List.takeWhile_cons]
  simp only [hp, if_true, List.length_cons]
theorem ahead_no {l : List RF} {g : RF} {k : Nat} (h : k < l.length) (hp : nameLt l[k].f.name g.f.name = false) : ahead (l.drop k) g = 0 := by
  unfold ahead
  rw [List.drop_eq_getElem_cons h, List.takeWhile_cons]
  simp only [hp, Bool.false_eq_true, if_false, List.length_nil]
theorem insRF_mem {l : List RF} {g x : RF} (h : x ∈ insRF l g) : x = g ∨ x ∈ l := by
  rw [insRF_eq] at h
  rcases List.mem_append.1 h with h | h
  · exact Or.inr (List.mem_of_mem_take h)
  · rcases List.mem_cons.1 h with h | h
    · exact Or.inl h
    · exact Or.inr (List.mem_of_mem_drop h)
theorem insRF_len (l : List RF) (g : RF) : (insRF l g).length = l.length + 1 := by
  rw [insRF_eq]; simp; have := ahead_le l g; omega

theorem str_less (a b : ByteArray) : Op.bytesLess a.toList b.toList = nameLt a b := by
  rw [bytesLess_eq, ByteArray.toList_eq, ByteArray.toList_eq]; rfl
set_option maxRecDepth 100000 in
set_option maxHeartbeats 1000000 in
theorem rSet_any (a : Option Addr) (cap : Nat) (l : List RF) (g : RF) (w : World) (hl : l.length ≤ 16777216) (hlc : l.length ≤ cap) (h : RFsIn w a l) (hg : RFOk w g) :
    Calls Try.prog 44 #[.slice a l.length cap, rfVal g] w (RetFs (putRF l g) w) := by
  obtain ⟨i0, hi, hz0, hz1, hz2⟩ := info_parts Try.infoRF
  have HW := Lib.hid (fun (W : World) (h : RFsIn W a l) => rWithout_any a cap l g.f.name W (by omega) h)
  have hml := delRF_len l g.f.name
  unfold putRF
  generalize delRF l g.f.name = m at *
  go_enter Try.func44, Try.ntmps44
  go_upto_region 1 with fail
  refine wp_name (fun W hW => ?_)
  have hb0 : Below w.heap.size w W := by rw [hW.out]; go_grown
  have b0 : W.cell? ⟨w.heap.size, 0, none⟩ = some (.string g.f.name) := by rw [hW.out]; go_simp
  have b1 : W.cell? ⟨w.heap.size, 1, none⟩ = some (.slice g.a g.f.b.length g.cap) := by rw [hW.out]; go_simp
  have b2 : W.cell? ⟨w.heap.size, 2, none⟩ = some (.int .i64 g.f.safe) := by rw [hW.out]; go_simp
  have hz : w.heap.size < W.heap.size := by rw [hW.out]; simp
  replace h := h.kept hb0
  replace hg := hg.kept hb0
  clear hW
  go_wp2_with (go_at_call 45; (with_reducible refine (HW.out _ h).mono ?_); rintro e w1 ⟨a1, c1, rfl, hin, hc1, hb1⟩)
  replace hb0 := below2 hb0 hb1
  replace b0 := kept hb1 b0
  replace b1 := kept hb1 b1
  replace b2 := kept hb1 b2
  replace hg := hg.kept hb1
  replace hz := Nat.lt_of_lt_of_le hz hb1.size
  clear hb1 h HW
  go_loopw [5] (fun i wr => ∃ k : Nat, i = .int .i64 k ∧ k ≤ m.length ∧ ahead m g = k + ahead (m.drop k) g ∧ Below w1.heap.size w1 wr) (fun i _ => m.length - (intOf i).toNat)
  case atStart => exact ⟨0, rfl, Nat.zero_le _, by simp, Below.refl _ _⟩
  case round =>
    obtain ⟨k, rfl, hk, hpre, hbw⟩ := hrel
    have HP := Lib.hid hpre
    clear hpre
    by_cases hlt : k < m.length
    · obtain ⟨A, off, rfl, hra, hok⟩ := (hin.kept hbw).at hlt
      have c0 := hra k hlt 0 _ rfl
      rw [Nat.add_zero] at c0
      have d0 := kept hbw b0
      by_cases hp : nameLt m[k].f.name g.f.name = true
      · have HE : Hid (ahead m g = (k + 1) + ahead (m.drop (k + 1)) g) := by rw [Hid, HP.out, ahead_yes hlt hp]; omega
        have hq := (str_less m[k].f.name g.f.name).trans hp
        clear hra hok HP hp
        generalize m[k] = x at c0 hq
        go_wp2
        go_quiet (fail)
        go_wp2
        go_roundw
        case rel => exact ⟨k + 1, by go_num, by omega, HE.out, below_drewN hbw nq⟩
        case measure => simp [intOf] <;> omega
      · have hka0 : ahead m g = k := by rw [HP.out, ahead_no hlt (Bool.eq_false_iff.2 hp)]; rfl
        have hq := (str_less m[k].f.name g.f.name).trans (Bool.eq_false_iff.2 hp)
        clear hra hok HP hp
        generalize m[k] = x at c0 hq
        go_wp2
        go_quiet (fail)
        go_wp2
        obtain ⟨a1, ha1⟩ : ∃ a1, a1 = some (⟨A, off, none⟩ : Addr) := ⟨_, rfl⟩
        rw [← ha1] at hin ⊢
        clear ha1 c0
        have hka := Lib.hid hka0
        clear hka0
        refine wp_name (fun W hW => ?_)
        have hB : Below w1.heap.size w1 W.drew := by rw [hW.out]; exact (below_drewN hbw nq).drew
        have f0 := kept hB b0
        have f1 := kept hB b1
        have f2 := kept hB b2
        have hinW := (hin.kept hB).rows
        have hgW := hg.kept hB
        clear hW d0 hbw
        have hcut : ∀ X, (Instr.sliceAt 27 (.slice a1 m.length c1) none (some (.int .i64 (k : Nat))) none).run Try.prog X = .ok (.slice a1 k c1) X := fun X => run_cut_hi X _ _ i0 a1 m.length c1 .i64 k Try.underlying27 hi (by omega)
        have hcut2 : ∀ X, (Instr.sliceAt 27 (.slice a1 m.length c1) (some (.int .i64 (k : Nat))) none none).run Try.prog X = .ok (.slice (cutA a1 c1 k 3) (m.length - k) (c1 - k)) X := fun X => run_cut_lo X _ _ i0 a1 m.length c1 .i64 k 3 Try.underlying27 hi hz1 (by omega)
        have hR1 : ∀ X, Below W.drew.heap.size W.drew X → CellsIn X a1 (fcs (m.take k)) := fun X h => by rw [← fcs_take]; exact (hinW.kept h).take _
        have hR2 : ∀ X, Below W.drew.heap.size W.drew X → CellsIn X (cutA a1 c1 k 3) (fcs (m.drop k)) := fun X h => by rw [← fcs_drop]; exact (hinW.kept h).cut (fcs_length m) hc1 k
        have l1 : (fcs (m.take k)).length = k * 3 := by rw [fcs_length, List.length_take, Nat.min_eq_left hk]
        have l2 : (fcs (m.drop k)).length = (m.length - k) * 3 := by rw [fcs_length, List.length_drop]
        have hF : ∀ X, Below W.drew.heap.size W.drew X → X.rangeAt w.heap.size 0 (rfCells g) := fun X h j v hv => by
          rw [Nat.zero_add]
          match j, hv with
          | 0, hv => simp only [List.getElem?_cons_zero, Option.some.injEq] at hv; subst hv; exact kept h f0
          | 1, hv => simp only [List.getElem?_cons_succ, List.getElem?_cons_zero, Option.some.injEq] at hv; subst hv; exact kept h f1
          | 2, hv => simp only [List.getElem?_cons_succ, List.getElem?_cons_zero, Option.some.injEq] at hv; subst hv; exact kept h f2
          | j + 3, hv => simp at hv
        go_wp2_with fail
        refine wp_region_noPanic ?_
        refine wp_region_held_drew (S := fun W' => Below W.drew.heap.size W.drew W') (by kernel_rfl) (Below.refl _ _) (fun hHeld => ?_)
        refine wpAnyH_take (i := 1) (oi := ⟨some 27, _, _, _, _, _⟩) (v := ?_) rfl (by kernel_rfl) (by kernel_rfl) (by kernel_rfl) (fun _ _ _ h => h) (Or.inl ⟨by rfl, ?_⟩) (by assumption) ?_
        case refine_2 => (intro w hSw; go_simp; try with_reducible rfl)
        try simp only [Act.put, List.setIfInBounds_toArray, List.set_cons_zero, List.set_cons_succ]
        refine wpAnyH_take (i := 2) (oi := ⟨some 28, _, _, _, _, _⟩) (v := ?_) rfl (by kernel_rfl) (by kernel_rfl) (by kernel_rfl) (fun _ _ _ h => h) (Or.inl ⟨by rfl, ?_⟩) (by assumption) ?_
        case refine_2 => (intro w hSw; go_simp; try with_reducible rfl)
        try simp only [Act.put, List.setIfInBounds_toArray, List.set_cons_zero, List.set_cons_succ]
        refine wpAnyH_take (i := 3) (oi := ⟨some 29, _, _, _, _, _⟩) rfl (by kernel_rfl) (by kernel_rfl) (by kernel_rfl) (fun _ _ _ h => h) (Or.inl ⟨by rfl, fun W hSW => exec_slice _ _ _ _ _ rfl _ (hcut W)⟩) (by assumption) ?_
        try simp only [Act.put, List.setIfInBounds_toArray, List.set_cons_zero, List.set_cons_succ]
        refine wpAnyH_take (i := 5) (oi := ⟨some 31, _, _, _, _, _⟩) rfl (by kernel_rfl) (by kernel_rfl) (by kernel_rfl) (fun _ _ _ h => h) (yieldsIf_load_mid (by rfl) 46 _ rfl w.heap.size 0 rfl (rfCells g) _ (fun X h => hF X h) Try.underlying46 rfl (by kernel_rfl)) (by assumption) ?_
        try simp only [Act.put, List.setIfInBounds_toArray, List.set_cons_zero, List.set_cons_succ]
        refine wpAnyH_take (i := 8) (oi := ⟨some 34, _, _, _, _, _⟩) (v := ?_) rfl (by kernel_rfl) (by kernel_rfl) (by kernel_rfl) (fun _ _ _ h => h) (Or.inl ⟨by rfl, ?_⟩) (by assumption) ?_
        case refine_2 => (intro w hSw; go_simp; try with_reducible rfl)
        try simp only [Act.put, List.setIfInBounds_toArray, List.set_cons_zero, List.set_cons_succ]
        refine wpAnyH_take (i := 9) (oi := ⟨some 35, _, _, _, _, _⟩) (v := ?_) rfl (by kernel_rfl) (by kernel_rfl) (by kernel_rfl) (fun _ _ _ h => h) (Or.inl ⟨by rfl, ?_⟩) (by assumption) ?_
        case refine_2 => (intro w hSw; go_simp; try with_reducible rfl)
        try simp only [Act.put, List.setIfInBounds_toArray, List.set_cons_zero, List.set_cons_succ]
        refine wpAnyH_take (i := 10) (oi := ⟨some 36, _, _, _, _, _⟩) rfl (by kernel_rfl) (by kernel_rfl) (by kernel_rfl) (fun _ _ _ h => h) (Or.inl ⟨by rfl, fun W hSW => exec_slice _ _ _ _ _ rfl _ (hcut2 W)⟩) (by assumption) ?_
        try simp only [Act.put, List.setIfInBounds_toArray, List.set_cons_zero, List.set_cons_succ]
        refine wpAnyH_ready (rs := [0, 6]) (by kernel_rfl) (by simp) ?_
        refine AllReadyH.cons (o := ⟨some 26, _, _, _, _, _⟩) rfl (fun K hK => ?_) (AllReadyH.cons (o := ⟨some 32, _, _, _, _, _⟩) rfl (fun K hK => ?_) AllReadyH.nil)
        · skip
          refine step_build_nil (by rfl) 27 46 rfl i0 _ 3 Try.underlying27 hi hz0 hz1 (by decide) ?_
          intro v0 X0 hown0 hbel0
          refine hK.out _ _ ?_ (fun hHeld2 => ?_)
          · exact hHeld.trans (hbel0.mono hHeld.size)
          clear hK K hHeld
          have hHeld := hHeld2
          clear hHeld2
          try simp only [Act.put, List.setIfInBounds_toArray, List.set_cons_zero, List.set_cons_succ]
          refine wpAnyH_ready (rs := [4, 6]) (by kernel_rfl) (by simp) ?_
          refine AllReadyH.cons (o := ⟨some 30, _, _, _, _, _⟩) rfl (fun K hK => ?_) (AllReadyH.cons (o := ⟨some 32, _, _, _, _, _⟩) rfl (fun K hK => ?_) AllReadyH.nil)
          · skip
            refine step_append_cells (by rfl) (.tmp 26) (.tmp 29) 27 rfl W.drew.heap.size 46 i0 _ 3 48 Try.underlying27 hi hz0 hz1 hz2 rfl (by decide) _ 0 _ rfl hown0 a1 k c1 (fcs (m.take k)) rfl l1 (hR1 _ hHeld) (fcs_one _) (by first | omega | (unfold maxLen; omega)) (by first | omega | (unfold maxLen; omega)) hHeld.size ?_
            intro v1 X1 hown1 hg1
            refine hK.out _ _ ?_ (fun hHeld2 => ?_)
            · exact hHeld.grown hg1 hHeld.size (fun k hk => (hown0.lt k hk).1)
            clear hK K hHeld
            have hHeld := hHeld2
            clear hHeld2
            try simp only [Act.put, List.setIfInBounds_toArray, List.set_cons_zero, List.set_cons_succ]
            refine wpAnyH_ready (rs := [6]) (by kernel_rfl) (by simp) ?_
            refine AllReadyH.cons (o := ⟨some 32, _, _, _, _, _⟩) rfl (fun K hK => ?_) AllReadyH.nil
            refine step_build_one (by rfl) 27 46 _ rfl #[.string g.f.name, .slice g.a g.f.b.length g.cap, .int .i64 g.f.safe] 3 rfl rfl (by decide) (by decide) Try.underlying27 (by kernel_rfl) (by kernel_rfl) ?_
            refine hK.out _ _ ?_ (fun hHeld2 => ?_)
            · exact hHeld.alloc hHeld.size _
            clear hK K hHeld
            have hHeld := hHeld2
            clear hHeld2
            try simp only [Act.put, List.setIfInBounds_toArray, List.set_cons_zero, List.set_cons_succ]
            have hN := (fun X => rf_new X g 46) X1
            refine wpAnyH_ready (rs := [7]) (by kernel_rfl) (by simp) ?_
            refine AllReadyH.cons (o := ⟨some 33, _, _, _, _, _⟩) rfl (fun K hK => ?_) AllReadyH.nil
            refine step_append_cells (by rfl) (.tmp 30) (.tmp 32) 27 rfl W.drew.heap.size 46 i0 _ 3 48 Try.underlying27 hi hz0 hz1 hz2 rfl (by decide) _ (0 + k) _ rfl (hown1.alloc _) (some ⟨X1.heap.size, 0, none⟩) 1 1 (fcs [g]) rfl rfl hN (fcs_one _) (by first | omega | (unfold maxLen; omega)) (by first | omega | (unfold maxLen; omega)) hHeld.size ?_
            intro v2 X2 hown2 hg2
            refine hK.out _ _ ?_ (fun hHeld2 => ?_)
            · exact hHeld.grown hg2 hHeld.size (fun k hk => (hown1.lt k hk).1)
            clear hK K hHeld
            have hHeld := hHeld2
            clear hHeld2
            try simp only [Act.put, List.setIfInBounds_toArray, List.set_cons_zero, List.set_cons_succ]
            refine wpAnyH_ready (rs := [11]) (by kernel_rfl) (by simp) ?_
            refine AllReadyH.cons (o := ⟨some 37, _, _, _, _, _⟩) rfl (fun K hK => ?_) AllReadyH.nil
            refine step_append_cells (by rfl) (.tmp 33) (.tmp 36) 27 rfl W.drew.heap.size 46 i0 _ 3 48 Try.underlying27 hi hz0 hz1 hz2 rfl (by decide) _ (0 + k + 1) _ rfl hown2 (cutA a1 c1 k 3) (m.length - k) (c1 - k) (fcs (m.drop k)) rfl l2 (hR2 _ hHeld) (fcs_one _) (by first | omega | (unfold maxLen; omega)) (by first | omega | (unfold maxLen; omega)) hHeld.size ?_
            intro v3 X3 hown3 hg3
            refine hK.out _ _ ?_ (fun hHeld2 => ?_)
            · exact hHeld.grown hg3 hHeld.size (fun k hk => (hown2.lt k hk).1)
            clear hK K hHeld
            have hHeld := hHeld2
            clear hHeld2
            try simp only [Act.put, List.setIfInBounds_toArray, List.set_cons_zero, List.set_cons_succ]
            refine wpAnyH_take (i := 12) (oi := ⟨some 4, _, _, _, _, _⟩) (v := ?_) rfl (by kernel_rfl) (by kernel_rfl) (by kernel_rfl) (fun _ _ _ h => h) (Or.inl ⟨by rfl, ?_⟩) (by assumption) ?_
            case refine_2 => (intro w hSw; go_simp; try with_reducible rfl)
            try simp only [Act.put, List.setIfInBounds_toArray, List.set_cons_zero, List.set_cons_succ]
            refine wpAnyH_done (by kernel_rfl) ?_ _
            refine NoPanic.normal ?_
            have e1 : [] ++ fcs (m.take k) ++ fcs [g] ++ fcs (m.drop k) = fcs (insRF m g) := by rw [insRF_eq, hka.out, fcs_append]; simp [fcs, List.append_assoc]
            have e2 : 0 + k + 1 + (m.length - k) = (insRF m g).length := by rw [insRF_len]; omega
            rw [e1, e2] at hown3
            clear e1 e2 hR1 hR2 l1 l2 hF hcut hcut2
            obtain ⟨a2, c2, rfl, hin2, hc2⟩ := RFsIn.own hown3 (fun x hx => by
              rcases insRF_mem hx with rfl | h
              · exact hgW.kept hHeld
              · exact (hin.ok x h).kept (below2 hB hHeld))
            clear hown3
            go_wp2
            go_ret
            exact ⟨a2, c2, rfl, hin2, hc2, below2 (below2 hb0 hB) hHeld⟩
          · skip
            refine step_build_one (by rfl) 27 46 _ rfl #[.string g.f.name, .slice g.a g.f.b.length g.cap, .int .i64 g.f.safe] 3 rfl rfl (by decide) (by decide) Try.underlying27 (by kernel_rfl) (by kernel_rfl) ?_
            refine hK.out _ _ ?_ (fun hHeld2 => ?_)
            · exact hHeld.alloc hHeld.size _
            clear hK K hHeld
            have hHeld := hHeld2
            clear hHeld2
            try simp only [Act.put, List.setIfInBounds_toArray, List.set_cons_zero, List.set_cons_succ]
            have hN := (fun X => rf_new X g 46) X0
            refine wpAnyH_ready (rs := [4]) (by kernel_rfl) (by simp) ?_
            refine AllReadyH.cons (o := ⟨some 30, _, _, _, _, _⟩) rfl (fun K hK => ?_) AllReadyH.nil
            refine step_append_cells (by rfl) (.tmp 26) (.tmp 29) 27 rfl W.drew.heap.size 46 i0 _ 3 48 Try.underlying27 hi hz0 hz1 hz2 rfl (by decide) _ 0 _ rfl (hown0.alloc _) a1 k c1 (fcs (m.take k)) rfl l1 (hR1 _ hHeld) (fcs_one _) (by first | omega | (unfold maxLen; omega)) (by first | omega | (unfold maxLen; omega)) hHeld.size ?_
            intro v1 X1 hown1 hg1
            refine hK.out _ _ ?_ (fun hHeld2 => ?_)
            · exact hHeld.grown hg1 hHeld.size (fun k hk => (hown0.lt k hk).1)
            clear hK K hHeld
            have hHeld := hHeld2
            clear hHeld2
            try simp only [Act.put, List.setIfInBounds_toArray, List.set_cons_zero, List.set_cons_succ]
            replace hN := hN.grown hg1 (fun q hq e => by have := (hown0.lt _ e).2; simp only [Option.some.injEq] at hq; subst hq; simp only at this; omega)
            refine wpAnyH_ready (rs := [7]) (by kernel_rfl) (by simp) ?_
            refine AllReadyH.cons (o := ⟨some 33, _, _, _, _, _⟩) rfl (fun K hK => ?_) AllReadyH.nil
            refine step_append_cells (by rfl) (.tmp 30) (.tmp 32) 27 rfl W.drew.heap.size 46 i0 _ 3 48 Try.underlying27 hi hz0 hz1 hz2 rfl (by decide) _ (0 + k) _ rfl hown1 (some ⟨X0.heap.size, 0, none⟩) 1 1 (fcs [g]) rfl rfl hN (fcs_one _) (by first | omega | (unfold maxLen; omega)) (by first | omega | (unfold maxLen; omega)) hHeld.size ?_
            intro v2 X2 hown2 hg2
            refine hK.out _ _ ?_ (fun hHeld2 => ?_)
            · exact hHeld.grown hg2 hHeld.size (fun k hk => (hown1.lt k hk).1)
            clear hK K hHeld
            have hHeld := hHeld2
            clear hHeld2
            try simp only [Act.put, List.setIfInBounds_toArray, List.set_cons_zero, List.set_cons_succ]
            refine wpAnyH_ready (rs := [11]) (by kernel_rfl) (by simp) ?_
            refine AllReadyH.cons (o := ⟨some 37, _, _, _, _, _⟩) rfl (fun K hK => ?_) AllReadyH.nil
            refine step_append_cells (by rfl) (.tmp 33) (.tmp 36) 27 rfl W.drew.heap.size 46 i0 _ 3 48 Try.underlying27 hi hz0 hz1 hz2 rfl (by decide) _ (0 + k + 1) _ rfl hown2 (cutA a1 c1 k 3) (m.length - k) (c1 - k) (fcs (m.drop k)) rfl l2 (hR2 _ hHeld) (fcs_one _) (by first | omega | (unfold maxLen; omega)) (by first | omega | (unfold maxLen; omega)) hHeld.size ?_
            intro v3 X3 hown3 hg3
            refine hK.out _ _ ?_ (fun hHeld2 => ?_)
            · exact hHeld.grown hg3 hHeld.size (fun k hk => (hown2.lt k hk).1)
            clear hK K hHeld
            have hHeld := hHeld2
            clear hHeld2
            try simp only [Act.put, List.setIfInBounds_toArray, List.set_cons_zero, List.set_cons_succ]
            refine wpAnyH_take (i := 12) (oi := ⟨some 4, _, _, _, _, _⟩) (v := ?_) rfl (by kernel_rfl) (by kernel_rfl) (by kernel_rfl) (fun _ _ _ h => h) (Or.inl ⟨by rfl, ?_⟩) (by assumption) ?_
            case refine_2 => (intro w hSw; go_simp; try with_reducible rfl)
            try simp only [Act.put, List.setIfInBounds_toArray, List.set_cons_zero, List.set_cons_succ]
            refine wpAnyH_done (by kernel_rfl) ?_ _
            refine NoPanic.normal ?_
            have e1 : [] ++ fcs (m.take k) ++ fcs [g] ++ fcs (m.drop k) = fcs (insRF m g) := by rw [insRF_eq, hka.out, fcs_append]; simp [fcs, List.append_assoc]
            have e2 : 0 + k + 1 + (m.length - k) = (insRF m g).length := by rw [insRF_len]; omega
            rw [e1, e2] at hown3
            clear e1 e2 hR1 hR2 l1 l2 hF hcut hcut2
            obtain ⟨a2, c2, rfl, hin2, hc2⟩ := RFsIn.own hown3 (fun x hx => by
              rcases insRF_mem hx with rfl | h
              · exact hgW.kept hHeld
              · exact (hin.ok x h).kept (below2 hB hHeld))
            clear hown3
            go_wp2
            go_ret
            exact ⟨a2, c2, rfl, hin2, hc2, below2 (below2 hb0 hB) hHeld⟩
        · skip
          refine step_build_one (by rfl) 27 46 _ rfl #[.string g.f.name, .slice g.a g.f.b.length g.cap, .int .i64 g.f.safe] 3 rfl rfl (by decide) (by decide) Try.underlying27 (by kernel_rfl) (by kernel_rfl) ?_
          refine hK.out _ _ ?_ (fun hHeld2 => ?_)
          · exact hHeld.alloc hHeld.size _
          clear hK K hHeld
          have hHeld := hHeld2
          clear hHeld2
          try simp only [Act.put, List.setIfInBounds_toArray, List.set_cons_zero, List.set_cons_succ]
          have hN := (fun X => rf_new X g 46) W.drew
          refine wpAnyH_ready (rs := [0]) (by kernel_rfl) (by simp) ?_
          refine AllReadyH.cons (o := ⟨some 26, _, _, _, _, _⟩) rfl (fun K hK => ?_) AllReadyH.nil
          refine step_build_nil (by rfl) 27 46 rfl i0 _ 3 Try.underlying27 hi hz0 hz1 (by decide) ?_
          intro v0 X0 hown0 hbel0
          refine hK.out _ _ ?_ (fun hHeld2 => ?_)
          · exact hHeld.trans (hbel0.mono hHeld.size)
          clear hK K hHeld
          have hHeld := hHeld2
          clear hHeld2
          try simp only [Act.put, List.setIfInBounds_toArray, List.set_cons_zero, List.set_cons_succ]
          replace hN := hN.kept hbel0
          have hownB := hown0
          replace hown0 := own_base hown0 (b2 := W.drew.heap.size) (by first | exact Nat.le_refl _ | simp)
          refine wpAnyH_ready (rs := [4]) (by kernel_rfl) (by simp) ?_
          refine AllReadyH.cons (o := ⟨some 30, _, _, _, _, _⟩) rfl (fun K hK => ?_) AllReadyH.nil
          refine step_append_cells (by rfl) (.tmp 26) (.tmp 29) 27 rfl W.drew.heap.size 46 i0 _ 3 48 Try.underlying27 hi hz0 hz1 hz2 rfl (by decide) _ 0 _ rfl hown0 a1 k c1 (fcs (m.take k)) rfl l1 (hR1 _ hHeld) (fcs_one _) (by first | omega | (unfold maxLen; omega)) (by first | omega | (unfold maxLen; omega)) hHeld.size ?_
          intro v1 X1 hown1 hg1
          refine hK.out _ _ ?_ (fun hHeld2 => ?_)
          · exact hHeld.grown hg1 hHeld.size (fun k hk => (hown0.lt k hk).1)
          clear hK K hHeld
          have hHeld := hHeld2
          clear hHeld2
          try simp only [Act.put, List.setIfInBounds_toArray, List.set_cons_zero, List.set_cons_succ]
          replace hN := hN.grown hg1 (fun q hq e => by have := (hownB.lt _ e).1; simp only [Option.some.injEq] at hq; subst hq; simp at this; omega)
          refine wpAnyH_ready (rs := [7]) (by kernel_rfl) (by simp) ?_
          refine AllReadyH.cons (o := ⟨some 33, _, _, _, _, _⟩) rfl (fun K hK => ?_) AllReadyH.nil
          refine step_append_cells (by rfl) (.tmp 30) (.tmp 32) 27 rfl W.drew.heap.size 46 i0 _ 3 48 Try.underlying27 hi hz0 hz1 hz2 rfl (by decide) _ (0 + k) _ rfl hown1 (some ⟨W.drew.heap.size, 0, none⟩) 1 1 (fcs [g]) rfl rfl hN (fcs_one _) (by first | omega | (unfold maxLen; omega)) (by first | omega | (unfold maxLen; omega)) hHeld.size ?_
          intro v2 X2 hown2 hg2
          refine hK.out _ _ ?_ (fun hHeld2 => ?_)
          · exact hHeld.grown hg2 hHeld.size (fun k hk => (hown1.lt k hk).1)
          clear hK K hHeld
          have hHeld := hHeld2
          clear hHeld2
          try simp only [Act.put, List.setIfInBounds_toArray, List.set_cons_zero, List.set_cons_succ]
          refine wpAnyH_ready (rs := [11]) (by kernel_rfl) (by simp) ?_
          refine AllReadyH.cons (o := ⟨some 37, _, _, _, _, _⟩) rfl (fun K hK => ?_) AllReadyH.nil
          refine step_append_cells (by rfl) (.tmp 33) (.tmp 36) 27 rfl W.drew.heap.size 46 i0 _ 3 48 Try.underlying27 hi hz0 hz1 hz2 rfl (by decide) _ (0 + k + 1) _ rfl hown2 (cutA a1 c1 k 3) (m.length - k) (c1 - k) (fcs (m.drop k)) rfl l2 (hR2 _ hHeld) (fcs_one _) (by first | omega | (unfold maxLen; omega)) (by first | omega | (unfold maxLen; omega)) hHeld.size ?_
          intro v3 X3 hown3 hg3
          refine hK.out _ _ ?_ (fun hHeld2 => ?_)
          · exact hHeld.grown hg3 hHeld.size (fun k hk => (hown2.lt k hk).1)
          clear hK K hHeld
          have hHeld := hHeld2
          clear hHeld2
          try simp only [Act.put, List.setIfInBounds_toArray, List.set_cons_zero, List.set_cons_succ]
          refine wpAnyH_take (i := 12) (oi := ⟨some 4, _, _, _, _, _⟩) (v := ?_) rfl (by kernel_rfl) (by kernel_rfl) (by kernel_rfl) (fun _ _ _ h => h) (Or.inl ⟨by rfl, ?_⟩) (by assumption) ?_
          case refine_2 => (intro w hSw; go_simp; try with_reducible rfl)
          try simp only [Act.put, List.setIfInBounds_toArray, List.set_cons_zero, List.set_cons_succ]
          refine wpAnyH_done (by kernel_rfl) ?_ _
          refine NoPanic.normal ?_
          have e1 : [] ++ fcs (m.take k) ++ fcs [g] ++ fcs (m.drop k) = fcs (insRF m g) := by rw [insRF_eq, hka.out, fcs_append]; simp [fcs, List.append_assoc]
          have e2 : 0 + k + 1 + (m.length - k) = (insRF m g).length := by rw [insRF_len]; omega
          rw [e1, e2] at hown3
          clear e1 e2 hR1 hR2 l1 l2 hF hcut hcut2
          obtain ⟨a2, c2, rfl, hin2, hc2⟩ := RFsIn.own hown3 (fun x hx => by
            rcases insRF_mem hx with rfl | h
            · exact hgW.kept hHeld
            · exact (hin.ok x h).kept (below2 hB hHeld))
          clear hown3
          go_wp2
          go_ret
          exact ⟨a2, c2, rfl, hin2, hc2, below2 (below2 hb0 hB) hHeld⟩
    · have hka0 : ahead m g = k := by
        have : k = m.length := by omega
        rw [HP.out, this, List.drop_length]; rfl
      go_wp2
      go_quiet (fail)
      go_wp2
      have hka := Lib.hid hka0
      clear hka0
      refine wp_name (fun W hW => ?_)
      have hB : Below w1.heap.size w1 W.drew := by rw [hW.out]; exact (below_drewN hbw nq).drew
      have f0 := kept hB b0
      have f1 := kept hB b1
      have f2 := kept hB b2
      have hinW := (hin.kept hB).rows
      have hgW := hg.kept hB
      clear hW hbw
      have hcut : ∀ X, (Instr.sliceAt 27 (.slice a1 m.length c1) none (some (.int .i64 (k : Nat))) none).run Try.prog X = .ok (.slice a1 k c1) X := fun X => run_cut_hi X _ _ i0 a1 m.length c1 .i64 k Try.underlying27 hi (by omega)
      have hcut2 : ∀ X, (Instr.sliceAt 27 (.slice a1 m.length c1) (some (.int .i64 (k : Nat))) none none).run Try.prog X = .ok (.slice (cutA a1 c1 k 3) (m.length - k) (c1 - k)) X := fun X => run_cut_lo X _ _ i0 a1 m.length c1 .i64 k 3 Try.underlying27 hi hz1 (by omega)
      have hR1 : ∀ X, Below W.drew.heap.size W.drew X → CellsIn X a1 (fcs (m.take k)) := fun X h => by rw [← fcs_take]; exact (hinW.kept h).take _
      have hR2 : ∀ X, Below W.drew.heap.size W.drew X → CellsIn X (cutA a1 c1 k 3) (fcs (m.drop k)) := fun X h => by rw [← fcs_drop]; exact (hinW.kept h).cut (fcs_length m) hc1 k
      have l1 : (fcs (m.take k)).length = k * 3 := by rw [fcs_length, List.length_take, Nat.min_eq_left hk]
      have l2 : (fcs (m.drop k)).length = (m.length - k) * 3 := by rw [fcs_length, List.length_drop]
      have hF : ∀ X, Below W.drew.heap.size W.drew X → X.rangeAt w.heap.size 0 (rfCells g) := fun X h j v hv => by
        rw [Nat.zero_add]
        match j, hv with
        | 0, hv => simp only [List.getElem?_cons_zero, Option.some.injEq] at hv; subst hv; exact kept h f0
        | 1, hv => simp only [List.getElem?_cons_succ, List.getElem?_cons_zero, Option.some.injEq] at hv; subst hv; exact kept h f1
        | 2, hv => simp only [List.getElem?_cons_succ, List.getElem?_cons_zero, Option.some.injEq] at hv; subst hv; exact kept h f2
        | j + 3, hv => simp at hv
      go_wp2_with fail
      refine wp_region_noPanic ?_
      refine wp_region_held_drew (S := fun W' => Below W.drew.heap.size W.drew W') (by kernel_rfl) (Below.refl _ _) (fun hHeld => ?_)
      refine wpAnyH_take (i := 1) (oi := ⟨some 27, _, _, _, _, _⟩) (v := ?_) rfl (by kernel_rfl) (by kernel_rfl) (by kernel_rfl) (fun _ _ _ h => h) (Or.inl ⟨by rfl, ?_⟩) (by assumption) ?_
      case refine_2 => (intro w hSw; go_simp; try with_reducible rfl)
      try simp only [Act.put, List.setIfInBounds_toArray, List.set_cons_zero, List.set_cons_succ]
      refine wpAnyH_take (i := 2) (oi := ⟨some 28, _, _, _, _, _⟩) (v := ?_) rfl (by kernel_rfl) (by kernel_rfl) (by kernel_rfl) (fun _ _ _ h => h) (Or.inl ⟨by rfl, ?_⟩) (by assumption) ?_
      case refine_2 => (intro w hSw; go_simp; try with_reducible rfl)
      try simp only [Act.put, List.setIfInBounds_toArray, List.set_cons_zero, List.set_cons_succ]
      refine wpAnyH_take (i := 3) (oi := ⟨some 29, _, _, _, _, _⟩) rfl (by kernel_rfl) (by kernel_rfl) (by kernel_rfl) (fun _ _ _ h => h) (Or.inl ⟨by rfl, fun W hSW => exec_slice _ _ _ _ _ rfl _ (hcut W)⟩) (by assumption) ?_
      try simp only [Act.put, List.setIfInBounds_toArray, List.set_cons_zero, List.set_cons_succ]
      refine wpAnyH_take (i := 5) (oi := ⟨some 31, _, _, _, _, _⟩) rfl (by kernel_rfl) (by kernel_rfl) (by kernel_rfl) (fun _ _ _ h => h) (yieldsIf_load_mid (by rfl) 46 _ rfl w.heap.size 0 rfl (rfCells g) _ (fun X h => hF X h) Try.underlying46 rfl (by kernel_rfl)) (by assumption) ?_
      try simp only [Act.put, List.setIfInBounds_toArray, List.set_cons_zero, List.set_cons_succ]
      refine wpAnyH_take (i := 8) (oi := ⟨some 34, _, _, _, _, _⟩) (v := ?_) rfl (by kernel_rfl) (by kernel_rfl) (by kernel_rfl) (fun _ _ _ h => h) (Or.inl ⟨by rfl, ?_⟩) (by assumption) ?_
      case refine_2 => (intro w hSw; go_simp; try with_reducible rfl)
      try simp only [Act.put, List.setIfInBounds_toArray, List.set_cons_zero, List.set_cons_succ]
      refine wpAnyH_take (i := 9) (oi := ⟨some 35, _, _, _, _, _⟩) (v := ?_) rfl (by kernel_rfl) (by kernel_rfl) (by kernel_rfl) (fun _ _ _ h => h) (Or.inl ⟨by rfl, ?_⟩) (by assumption) ?_
      case refine_2 => (intro w hSw; go_simp; try with_reducible rfl)
      try simp only [Act.put, List.setIfInBounds_toArray, List.set_cons_zero, List.set_cons_succ]
      refine wpAnyH_take (i := 10) (oi := ⟨some 36, _, _, _, _, _⟩) rfl (by kernel_rfl) (by kernel_rfl) (by kernel_rfl) (fun _ _ _ h => h) (Or.inl ⟨by rfl, fun W hSW => exec_slice _ _ _ _ _ rfl _ (hcut2 W)⟩) (by assumption) ?_
      try simp only [Act.put, List.setIfInBounds_toArray, List.set_cons_zero, List.set_cons_succ]
      refine wpAnyH_ready (rs := [0, 6]) (by kernel_rfl) (by simp) ?_
      refine AllReadyH.cons (o := ⟨some 26, _, _, _, _, _⟩) rfl (fun K hK => ?_) (AllReadyH.cons (o := ⟨some 32, _, _, _, _, _⟩) rfl (fun K hK => ?_) AllReadyH.nil)
      · skip
        refine step_build_nil (by rfl) 27 46 rfl i0 _ 3 Try.underlying27 hi hz0 hz1 (by decide) ?_
        intro v0 X0 hown0 hbel0
        refine hK.out _ _ ?_ (fun hHeld2 => ?_)
        · exact hHeld.trans (hbel0.mono hHeld.size)
        clear hK K hHeld
        have hHeld := hHeld2
        clear hHeld2
        try simp only [Act.put, List.setIfInBounds_toArray, List.set_cons_zero, List.set_cons_succ]
        refine wpAnyH_ready (rs := [4, 6]) (by kernel_rfl) (by simp) ?_
        refine AllReadyH.cons (o := ⟨some 30, _, _, _, _, _⟩) rfl (fun K hK => ?_) (AllReadyH.cons (o := ⟨some 32, _, _, _, _, _⟩) rfl (fun K hK => ?_) AllReadyH.nil)
        · skip
          refine step_append_cells (by rfl) (.tmp 26) (.tmp 29) 27 rfl W.drew.heap.size 46 i0 _ 3 48 Try.underlying27 hi hz0 hz1 hz2 rfl (by decide) _ 0 _ rfl hown0 a1 k c1 (fcs (m.take k)) rfl l1 (hR1 _ hHeld) (fcs_one _) (by first | omega | (unfold maxLen; omega)) (by first | omega | (unfold maxLen; omega)) hHeld.size ?_
          intro v1 X1 hown1 hg1
          refine hK.out _ _ ?_ (fun hHeld2 => ?_)
          · exact hHeld.grown hg1 hHeld.size (fun k hk => (hown0.lt k hk).1)
          clear hK K hHeld
          have hHeld := hHeld2
          clear hHeld2
          try simp only [Act.put, List.setIfInBounds_toArray, List.set_cons_zero, List.set_cons_succ]
          refine wpAnyH_ready (rs := [6]) (by kernel_rfl) (by simp) ?_
          refine AllReadyH.cons (o := ⟨some 32, _, _, _, _, _⟩) rfl (fun K hK => ?_) AllReadyH.nil
          refine step_build_one (by rfl) 27 46 _ rfl #[.string g.f.name, .slice g.a g.f.b.length g.cap, .int .i64 g.f.safe] 3 rfl rfl (by decide) (by decide) Try.underlying27 (by kernel_rfl) (by kernel_rfl) ?_
          refine hK.out _ _ ?_ (fun hHeld2 => ?_)
          · exact hHeld.alloc hHeld.size _
          clear hK K hHeld
          have hHeld := hHeld2
          clear hHeld2
          try simp only [Act.put, List.setIfInBounds_toArray, List.set_cons_zero, List.set_cons_succ]
          have hN := (fun X => rf_new X g 46) X1
          refine wpAnyH_ready (rs := [7]) (by kernel_rfl) (by simp) ?_
          refine AllReadyH.cons (o := ⟨some 33, _, _, _, _, _⟩) rfl (fun K hK => ?_) AllReadyH.nil
          refine step_append_cells (by rfl) (.tmp 30) (.tmp 32) 27 rfl W.drew.heap.size 46 i0 _ 3 48 Try.underlying27 hi hz0 hz1 hz2 rfl (by decide) _ (0 + k) _ rfl (hown1.alloc _) (some ⟨X1.heap.size, 0, none⟩) 1 1 (fcs [g]) rfl rfl hN (fcs_one _) (by first | omega | (unfold maxLen; omega)) (by first | omega | (unfold maxLen; omega)) hHeld.size ?_
          intro v2 X2 hown2 hg2
          refine hK.out _ _ ?_ (fun hHeld2 => ?_)
          · exact hHeld.grown hg2 hHeld.size (fun k hk => (hown1.lt k hk).1)
          clear hK K hHeld
          have hHeld := hHeld2
          clear hHeld2
          try simp only [Act.put, List.setIfInBounds_toArray, List.set_cons_zero, List.set_cons_succ]
          refine wpAnyH_ready (rs := [11]) (by kernel_rfl) (by simp) ?_
          refine AllReadyH.cons (o := ⟨some 37, _, _, _, _, _⟩) rfl (fun K hK => ?_) AllReadyH.nil
          refine step_append_cells (by rfl) (.tmp 33) (.tmp 36) 27 rfl W.drew.heap.size 46 i0 _ 3 48 Try.underlying27 hi hz0 hz1 hz2 rfl (by decide) _ (0 + k + 1) _ rfl hown2 (cutA a1 c1 k 3) (m.length - k) (c1 - k) (fcs (m.drop k)) rfl l2 (hR2 _ hHeld) (fcs_one _) (by first | omega | (unfold maxLen; omega)) (by first | omega | (unfold maxLen; omega)) hHeld.size ?_
          intro v3 X3 hown3 hg3
          refine hK.out _ _ ?_ (fun hHeld2 => ?_)
          · exact hHeld.grown hg3 hHeld.size (fun k hk => (hown2.lt k hk).1)
          clear hK K hHeld
          have hHeld := hHeld2
          clear hHeld2
          try simp only [Act.put, List.setIfInBounds_toArray, List.set_cons_zero, List.set_cons_succ]
          refine wpAnyH_take (i := 12) (oi := ⟨some 4, _, _, _, _, _⟩) (v := ?_) rfl (by kernel_rfl) (by kernel_rfl) (by kernel_rfl) (fun _ _ _ h => h) (Or.inl ⟨by rfl, ?_⟩) (by assumption) ?_
          case refine_2 => (intro w hSw; go_simp; try with_reducible rfl)
          try simp only [Act.put, List.setIfInBounds_toArray, List.set_cons_zero, List.set_cons_succ]
          refine wpAnyH_done (by kernel_rfl) ?_ _
          refine NoPanic.normal ?_
          have e1 : [] ++ fcs (m.take k) ++ fcs [g] ++ fcs (m.drop k) = fcs (insRF m g) := by rw [insRF_eq, hka.out, fcs_append]; simp [fcs, List.append_assoc]
          have e2 : 0 + k + 1 + (m.length - k) = (insRF m g).length := by rw [insRF_len]; omega
          rw [e1, e2] at hown3
          clear e1 e2 hR1 hR2 l1 l2 hF hcut hcut2
          obtain ⟨a2, c2, rfl, hin2, hc2⟩ := RFsIn.own hown3 (fun x hx => by
            rcases insRF_mem hx with rfl | h
            · exact hgW.kept hHeld
            · exact (hin.ok x h).kept (below2 hB hHeld))
          clear hown3
          go_wp2
          go_ret
          exact ⟨a2, c2, rfl, hin2, hc2, below2 (below2 hb0 hB) hHeld⟩
        · skip
          refine step_build_one (by rfl) 27 46 _ rfl #[.string g.f.name, .slice g.a g.f.b.length g.cap, .int .i64 g.f.safe] 3 rfl rfl (by decide) (by decide) Try.underlying27 (by kernel_rfl) (by kernel_rfl) ?_
          refine hK.out _ _ ?_ (fun hHeld2 => ?_)
          · exact hHeld.alloc hHeld.size _
          clear hK K hHeld
          have hHeld := hHeld2
          clear hHeld2
          try simp only [Act.put, List.setIfInBounds_toArray, List.set_cons_zero, List.set_cons_succ]
          have hN := (fun X => rf_new X g 46) X0
          refine wpAnyH_ready (rs := [4]) (by kernel_rfl) (by simp) ?_
          refine AllReadyH.cons (o := ⟨some 30, _, _, _, _, _⟩) rfl (fun K hK => ?_) AllReadyH.nil
          refine step_append_cells (by rfl) (.tmp 26) (.tmp 29) 27 rfl W.drew.heap.size 46 i0 _ 3 48 Try.underlying27 hi hz0 hz1 hz2 rfl (by decide) _ 0 _ rfl (hown0.alloc _) a1 k c1 (fcs (m.take k)) rfl l1 (hR1 _ hHeld) (fcs_one _) (by first | omega | (unfold maxLen; omega)) (by first | omega | (unfold maxLen; omega)) hHeld.size ?_
          intro v1 X1 hown1 hg1
          refine hK.out _ _ ?_ (fun hHeld2 => ?_)
          · exact hHeld.grown hg1 hHeld.size (fun k hk => (hown0.lt k hk).1)
          clear hK K hHeld
          have hHeld := hHeld2
          clear hHeld2
          try simp only [Act.put, List.setIfInBounds_toArray, List.set_cons_zero, List.set_cons_succ]
          replace hN := hN.grown hg1 (fun q hq e => by have := (hown0.lt _ e).2; simp only [Option.some.injEq] at hq; subst hq; simp only at this; omega)
          refine wpAnyH_ready (rs := [7]) (by kernel_rfl) (by simp) ?_
          refine AllReadyH.cons (o := ⟨some 33, _, _, _, _, _⟩) rfl (fun K hK => ?_) AllReadyH.nil
          refine step_append_cells (by rfl) (.tmp 30) (.tmp 32) 27 rfl W.drew.heap.size 46 i0 _ 3 48 Try.underlying27 hi hz0 hz1 hz2 rfl (by decide) _ (0 + k) _ rfl hown1 (some ⟨X0.heap.size, 0, none⟩) 1 1 (fcs [g]) rfl rfl hN (fcs_one _) (by first | omega | (unfold maxLen; omega)) (by first | omega | (unfold maxLen; omega)) hHeld.size ?_
          intro v2 X2 hown2 hg2
          refine hK.out _ _ ?_ (fun hHeld2 => ?_)
          · exact hHeld.grown hg2 hHeld.size (fun k hk => (hown1.lt k hk).1)
          clear hK K hHeld
          have hHeld := hHeld2
          clear hHeld2
          try simp only [Act.put, List.setIfInBounds_toArray, List.set_cons_zero, List.set_cons_succ]
          refine wpAnyH_ready (rs := [11]) (by kernel_rfl) (by simp) ?_
          refine AllReadyH.cons (o := ⟨some 37, _, _, _, _, _⟩) rfl (fun K hK => ?_) AllReadyH.nil
          refine step_append_cells (by rfl) (.tmp 33) (.tmp 36) 27 rfl W.drew.heap.size 46 i0 _ 3 48 Try.underlying27 hi hz0 hz1 hz2 rfl (by decide) _ (0 + k + 1) _ rfl hown2 (cutA a1 c1 k 3) (m.length - k) (c1 - k) (fcs (m.drop k)) rfl l2 (hR2 _ hHeld) (fcs_one _) (by first | omega | (unfold maxLen; omega)) (by first | omega | (unfold maxLen; omega)) hHeld.size ?_
          intro v3 X3 hown3 hg3
          refine hK.out _ _ ?_ (fun hHeld2 => ?_)
          · exact hHeld.grown hg3 hHeld.size (fun k hk => (hown2.lt k hk).1)
          clear hK K hHeld
          have hHeld := hHeld2
          clear hHeld2
          try simp only [Act.put, List.setIfInBounds_toArray, List.set_cons_zero, List.set_cons_succ]
          refine wpAnyH_take (i := 12) (oi := ⟨some 4, _, _, _, _, _⟩) (v := ?_) rfl (by kernel_rfl) (by kernel_rfl) (by kernel_rfl) (fun _ _ _ h => h) (Or.inl ⟨by rfl, ?_⟩) (by assumption) ?_
          case refine_2 => (intro w hSw; go_simp; try with_reducible rfl)
          try simp only [Act.put, List.setIfInBounds_toArray, List.set_cons_zero, List.set_cons_succ]
          refine wpAnyH_done (by kernel_rfl) ?_ _
          refine NoPanic.normal ?_
          have e1 : [] ++ fcs (m.take k) ++ fcs [g] ++ fcs (m.drop k) = fcs (insRF m g) := by rw [insRF_eq, hka.out, fcs_append]; simp [fcs, List.append_assoc]
          have e2 : 0 + k + 1 + (m.length - k) = (insRF m g).length := by rw [insRF_len]; omega
          rw [e1, e2] at hown3
          clear e1 e2 hR1 hR2 l1 l2 hF hcut hcut2
          obtain ⟨a2, c2, rfl, hin2, hc2⟩ := RFsIn.own hown3 (fun x hx => by
            rcases insRF_mem hx with rfl | h
            · exact hgW.kept hHeld
            · exact (hin.ok x h).kept (below2 hB hHeld))
          clear hown3
          go_wp2
          go_ret
          exact ⟨a2, c2, rfl, hin2, hc2, below2 (below2 hb0 hB) hHeld⟩
      · skip
        refine step_build_one (by rfl) 27 46 _ rfl #[.string g.f.name, .slice g.a g.f.b.length g.cap, .int .i64 g.f.safe] 3 rfl rfl (by decide) (by decide) Try.underlying27 (by kernel_rfl) (by kernel_rfl) ?_
        refine hK.out _ _ ?_ (fun hHeld2 => ?_)
        · exact hHeld.alloc hHeld.size _
        clear hK K hHeld
        have hHeld := hHeld2
        clear hHeld2
        try simp only [Act.put, List.setIfInBounds_toArray, List.set_cons_zero, List.set_cons_succ]
        have hN := (fun X => rf_new X g 46) W.drew
        refine wpAnyH_ready (rs := [0]) (by kernel_rfl) (by simp) ?_
        refine AllReadyH.cons (o := ⟨some 26, _, _, _, _, _⟩) rfl (fun K hK => ?_) AllReadyH.nil
        refine step_build_nil (by rfl) 27 46 rfl i0 _ 3 Try.underlying27 hi hz0 hz1 (by decide) ?_
        intro v0 X0 hown0 hbel0
        refine hK.out _ _ ?_ (fun hHeld2 => ?_)
        · exact hHeld.trans (hbel0.mono hHeld.size)
        clear hK K hHeld
        have hHeld := hHeld2
        clear hHeld2
        try simp only [Act.put, List.setIfInBounds_toArray, List.set_cons_zero, List.set_cons_succ]
        replace hN := hN.kept hbel0
        have hownB := hown0
        replace hown0 := own_base hown0 (b2 := W.drew.heap.size) (by first | exact Nat.le_refl _ | simp)
        refine wpAnyH_ready (rs := [4]) (by kernel_rfl) (by simp) ?_
        refine AllReadyH.cons (o := ⟨some 30, _, _, _, _, _⟩) rfl (fun K hK => ?_) AllReadyH.nil
        refine step_append_cells (by rfl) (.tmp 26) (.tmp 29) 27 rfl W.drew.heap.size 46 i0 _ 3 48 Try.underlying27 hi hz0 hz1 hz2 rfl (by decide) _ 0 _ rfl hown0 a1 k c1 (fcs (m.take k)) rfl l1 (hR1 _ hHeld) (fcs_one _) (by first | omega | (unfold maxLen; omega)) (by first | omega | (unfold maxLen; omega)) hHeld.size ?_
        intro v1 X1 hown1 hg1
        refine hK.out _ _ ?_ (fun hHeld2 => ?_)
        · exact hHeld.grown hg1 hHeld.size (fun k hk => (hown0.lt k hk).1)
        clear hK K hHeld
        have hHeld := hHeld2
        clear hHeld2
        try simp only [Act.put, List.setIfInBounds_toArray, List.set_cons_zero, List.set_cons_succ]
        replace hN := hN.grown hg1 (fun q hq e => by have := (hownB.lt _ e).1; simp only [Option.some.injEq] at hq; subst hq; simp at this; omega)
        refine wpAnyH_ready (rs := [7]) (by kernel_rfl) (by simp) ?_
        refine AllReadyH.cons (o := ⟨some 33, _, _, _, _, _⟩) rfl (fun K hK => ?_) AllReadyH.nil
        refine step_append_cells (by rfl) (.tmp 30) (.tmp 32) 27 rfl W.drew.heap.size 46 i0 _ 3 48 Try.underlying27 hi hz0 hz1 hz2 rfl (by decide) _ (0 + k) _ rfl hown1 (some ⟨W.drew.heap.size, 0, none⟩) 1 1 (fcs [g]) rfl rfl hN (fcs_one _) (by first | omega | (unfold maxLen; omega)) (by first | omega | (unfold maxLen; omega)) hHeld.size ?_
        intro v2 X2 hown2 hg2
        refine hK.out _ _ ?_ (fun hHeld2 => ?_)
        · exact hHeld.grown hg2 hHeld.size (fun k hk => (hown1.lt k hk).1)
        clear hK K hHeld
        have hHeld := hHeld2
        clear hHeld2
        try simp only [Act.put, List.setIfInBounds_toArray, List.set_cons_zero, List.set_cons_succ]
        refine wpAnyH_ready (rs := [11]) (by kernel_rfl) (by simp) ?_
        refine AllReadyH.cons (o := ⟨some 37, _, _, _, _, _⟩) rfl (fun K hK => ?_) AllReadyH.nil
        refine step_append_cells (by rfl) (.tmp 33) (.tmp 36) 27 rfl W.drew.heap.size 46 i0 _ 3 48 Try.underlying27 hi hz0 hz1 hz2 rfl (by decide) _ (0 + k + 1) _ rfl hown2 (cutA a1 c1 k 3) (m.length - k) (c1 - k) (fcs (m.drop k)) rfl l2 (hR2 _ hHeld) (fcs_one _) (by first | omega | (unfold maxLen; omega)) (by first | omega | (unfold maxLen; omega)) hHeld.size ?_
        intro v3 X3 hown3 hg3
        refine hK.out _ _ ?_ (fun hHeld2 => ?_)
        · exact hHeld.grown hg3 hHeld.size (fun k hk => (hown2.lt k hk).1)
        clear hK K hHeld
        have hHeld := hHeld2
        clear hHeld2
        try simp only [Act.put, List.setIfInBounds_toArray, List.set_cons_zero, List.set_cons_succ]
        refine wpAnyH_take (i := 12) (oi := ⟨some 4, _, _, _, _, _⟩) (v := ?_) rfl (by kernel_rfl) (by kernel_rfl) (by kernel_rfl) (fun _ _ _ h => h) (Or.inl ⟨by rfl, ?_⟩) (by assumption) ?_
        case refine_2 => (intro w hSw; go_simp; try with_reducible rfl)
        try simp only [Act.put, List.setIfInBounds_toArray, List.set_cons_zero, List.set_cons_succ]
        refine wpAnyH_done (by kernel_rfl) ?_ _
        refine NoPanic.normal ?_
        have e1 : [] ++ fcs (m.take k) ++ fcs [g] ++ fcs (m.drop k) = fcs (insRF m g) := by rw [insRF_eq, hka.out, fcs_append]; simp [fcs, List.append_assoc]
        have e2 : 0 + k + 1 + (m.length - k) = (insRF m g).length := by rw [insRF_len]; omega
        rw [e1, e2] at hown3
        clear e1 e2 hR1 hR2 l1 l2 hF hcut hcut2
        obtain ⟨a2, c2, rfl, hin2, hc2⟩ := RFsIn.own hown3 (fun x hx => by
          rcases insRF_mem hx with rfl | h
          · exact hgW.kept hHeld
          · exact (hin.ok x h).kept (below2 hB hHeld))
        clear hown3
        go_wp2
        go_ret
        exact ⟨a2, c2, rfl, hin2, hc2, below2 (below2 hb0 hB) hHeld⟩
end Go.Proofs.Ytbkelbdeodbhcaa
