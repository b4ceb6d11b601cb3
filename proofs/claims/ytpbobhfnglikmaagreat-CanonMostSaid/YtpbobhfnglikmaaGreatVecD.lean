/- The vector of marks: its actors. Conditions: at most 2^30 marks. -/
import Derived.Test.YtpbobhfnglikmaaGreatSrtK
import Derived.Test.YtpbobhfnglikmaaGreatVec
import Derived.Test.YtpbobhfnglikmaaGreatOrmH
import Derived.Test.YtpbobhfnglikmaaGreatOrmP
set_option linter.unusedSimpArgs false
set_option linter.unusedVariables false
set_option linter.unnecessarySimpa false
set_option maxHeartbeats 16000000
set_option maxRecDepth 100000
namespace Go.Proofs.YtpbobhfnglikmaaGreat
open Go.RowKit
theorem srtA_ext : ∀ {l m : List Actor}, (l.Pairwise fun x y => actorLt x y = true) → (m.Pairwise fun x y => actorLt x y = true) → l.Perm m → l = m
 | [], m, _, _, h => h.nil_eq
 | x :: l, [], _, _, h => by have := h.length_eq; simp at this
 | x :: l, y :: m, hl, hm, h => by
   obtain ⟨hx, hl2⟩ := List.pairwise_cons.1 hl
   obtain ⟨hy, hm2⟩ := List.pairwise_cons.1 hm
   have hxy : x = y := by
     rcases List.mem_cons.1 (h.mem_iff.1 (List.mem_cons_self : x ∈ x :: l)) with e | h1
     ·exact e
     ·rcases List.mem_cons.1 (h.mem_iff.2 (List.mem_cons_self : y ∈ y :: m)) with e | h2
      ·exact e.symm
      ·have h3 := actorLt_trans (hx y h2) (hy x h1)
       rw [actorLt_irrefl] at h3
       cases h3
   subst hxy
   rw [srtA_ext hl2 hm2 h.cons_inv]
theorem ents_actors (l : List Dot) : (ents l).map (·.1) = l.map (·.a) := by simp [ents]
theorem vActors_any {v b : Nat} {l : List Dot} (w : World) (h : VecIn w v b l) (hs : SrtM l) (hl : l.length ≤ 1073741824) :
 Calls Tryz.prog 145 #[.pointer (some ⟨v, 0, none⟩)] w fun e w' => ∃ x : Value, e = .returned x ∧ w'.ownsRow w.heap.size 33 2 x l.length (actVals (l.map (·.a))) ∧ (x = .slice none 0 0 ↔ l = []) ∧ Below w.heap.size w w' := by
 have c0 : w.cell? ⟨v, 0, none⟩ = some (.map (some b)) := by simp [World.cell?, h.cell]
 have HK := Lib.hid (keysActor_any (some b) w)
 have hal := (Below.refl _ w).alloc (Nat.le_refl _) (.cells #[.map (some b)] 168)
 have HS := Lib.hid (sortedActor_any w.heap.size b (ents l) (w.alloc (.cells #[.map (some b)] 168)) (by simp) (Boxed.new w _ _).cell (h.tab.kept hal) (by unfold ents; rw [List.length_map]; exact hl))
 have HA := Lib.hid hs
 clear h hs hl
 go_enter Tryz.func145, Tryz.ntmps145
 go_wp2_with (first
  | (go_at_call 193; (with_reducible refine HK.out.mono ?_); rintro e w1 ⟨rfl, rfl⟩)
  | (go_at_call 192; (with_reducible refine HS.out.mono ?_); rintro e w2 ⟨x, ts, rfl, hp, hsr, hown, hnil, hb2⟩))
 go_ret
 have hsa : (l.map (·.a)).Pairwise fun x y => actorLt x y = true := List.pairwise_map.2 HA.out
 obtain rfl : ts = l.map (·.a) := srtA_ext hsr hsa (by rw [← ents_actors]; exact hp)
 rw [List.length_map] at hown
 exact ⟨x, rfl, own_low hown (by simp), by rw [hnil, List.map_eq_nil_iff], hal.trans (hb2.mono (by simp))⟩
theorem Tryz.infoMark : (Tryz.prog.info? 127).map (fun i => (i.zero, i.size, i.bytes)) = some (some (.agg #[.int .i64 0, .int .i64 0, .int .i64 0]), 3, 24) := by kernel_rfl
theorem actVals_get : ∀ (l : List Actor) (i : Nat) (h : i < l.length), (actVals l)[i * 2]? = some (.int .i64 l[i].dev) ∧ (actVals l)[i * 2 + 1]? = some (.int .i64 l[i].inc)
 | [], i, h => by simp at h
 | d :: l, 0, _ => by simp [actVals]
 | d :: l, i + 1, h => by
   have ih := actVals_get l i (by simpa using h)
   have e : actVals (d :: l) = [.int .i64 d.dev, .int .i64 d.inc] ++ actVals l := rfl
   rw [e, List.getElem?_append_right (by simp; omega), List.getElem?_append_right (by simp; omega)]
   simp only [List.length_cons, List.length_nil, List.getElem_cons_succ]
   rw [show (i + 1) * 2 - (0 + 1 + 1) = i * 2 by omega, show (i + 1) * 2 + 1 - (0 + 1 + 1) = i * 2 + 1 by omega]
   exact ih
theorem own_acts {w : World} {base n : Nat} {v : Value} {l : List Actor} (hn : n = l.length) (h : w.ownsRow base 33 2 v n (actVals l)) : ∃ a cap, v = .slice a n cap ∧ (l = [] ∨ ∃ g, a = some ⟨g, 0, none⟩ ∧ ∀ i (h : i < l.length), w.cell? ⟨g, i * 2, none⟩ = some (.int .i64 l[i].dev) ∧ w.cell? ⟨g, i * 2 + 1, none⟩ = some (.int .i64 l[i].inc)) := by
 subst hn
 rcases h.2 with ⟨rfl, h0⟩ | ⟨g, cap, cur, rfl, _, hg, hn, _, hsz, htk⟩
 ·exact ⟨none, 0, by rw [h0], Or.inl (List.length_eq_zero_iff.1 h0)⟩
 ·have hcell : ∀ j u, (actVals l)[j]? = some u → w.cell? ⟨g, j, none⟩ = some u := by
   intro j u hj
   rw [← htk, List.getElem?_take] at hj
   split at hj
   ·simp only [World.cell?, hg]
    simpa using hj
   ·cases hj
  exact ⟨_, cap, rfl, Or.inr ⟨g, rfl, fun i hi => ⟨hcell _ _ (actVals_get l i hi).1, hcell _ _ (actVals_get l i hi).2⟩⟩⟩
theorem vMarks_any {v b : Nat} {l : List Dot} (w : World) (h : VecIn w v b l) (hs : SrtM l) (hl : l.length ≤ 1073741824) :
 Calls Tryz.prog 91 #[.pointer (some ⟨v, 0, none⟩)] w fun e w' => ∃ x : Value, e = .returned x ∧ w'.ownsRow w.heap.size 127 3 x l.length (dotVals l) ∧ Below w.heap.size w w' := by
 obtain ⟨i0, hi, hz0, hz1, hz2⟩ := info_parts Tryz.infoMark
 have HA := Lib.hid (vActors_any w h hs hl)
 clear hs
 go_enter Tryz.func91, Tryz.ntmps91
 go_wp2_with (go_at_call 145; (with_reducible refine HA.out.mono ?_); rintro e w1 ⟨x1, rfl, hown, hnil, hb1⟩; obtain ⟨aL, cL, rfl, hcs⟩ := own_acts (by rw [List.length_map]) hown)
 have h1 := h.kept hb1
 clear hown hnil HA h
 go_loopw [9, 3] (fun i x wr => ∃ k : Nat, i = .int .i64 k ∧ k ≤ l.length ∧ wr.ownsRow w1.heap.size 127 3 x k (dotVals (l.take k)) ∧ Below w1.heap.size w1 wr) (fun i _ _ => l.length - (intOf i).toNat)
 case atStart => exact ⟨0, rfl, Nat.zero_le _, World.ownsRow_nil _ _ _ _, Below.refl _ _⟩
 case round =>
  obtain ⟨k, rfl, hk, hgr, hbr⟩ := hrel
  by_cases hlt : k < l.length
  ·obtain ⟨A, rfl, hc⟩ : ∃ g, aL = some ⟨g, 0, none⟩ ∧ ∀ i (h : i < (List.map (fun x : Dot => x.a) l).length), w1.cell? ⟨g, i * 2, none⟩ = some (.int .i64 (List.map (fun x : Dot => x.a) l)[i].dev) ∧ w1.cell? ⟨g, i * 2 + 1, none⟩ = some (.int .i64 (List.map (fun x : Dot => x.a) l)[i].inc) := by
        rcases hcs with h0 | h0
        ·have := congrArg List.length h0
         rw [List.length_map] at this
         simp at this
         subst this
         simp at hlt
        ·exact h0
   obtain ⟨c0, c1⟩ := hc k (by rw [List.length_map]; exact hlt)
   rw [List.getElem_map] at c0 c1
   replace c0 := kept hbr c0
   replace c1 := kept hbr c1
   have hr := h1.kept hbr
   have hzr := hbr.size
   have HT : Hid (l.take (k + 1) = l.take k ++ [l[k]]) := by
        unfold Hid
        rw [List.take_add_one, List.getElem?_eq_getElem hlt]
        rfl
   have hmem : l[k] ∈ l := List.getElem_mem hlt
   have hTl : (l.take k).length = k := by rw [List.length_take]; omega
   have HLT := Lib.hid hlt
   generalize l[k] = d at *
   generalize l.take k = T at hgr HT hTl
   clear hlt
   go_upto_region 5 with fail
   refine wp_name (fun W hW => ?_)
   have hbW : Below wr.heap.size wr W.drew := by rw [hW.out]; go_grown
   have y0 : W.drew.cell? ⟨wr.heap.size, 0, none⟩ = some (.int .i64 d.a.dev) := by rw [hW.out]; go_simp
   have y1 : W.drew.cell? ⟨wr.heap.size, 1, none⟩ = some (.int .i64 d.a.inc) := by rw [hW.out]; go_simp
   have h2 := hr.kept hbW
   have ym : W.drew.cell? ⟨v, 0, none⟩ = some (.map (some b)) := by simp [World.cell?, h2.cell]
   have hgrW := ownsRow_below hgr hbW
   have hlook : ∀ X : World, Tab Tryz.prog 33 actVal ActW intVal X b (ents l) → (Instr.lookup 168 (.map (some b)) (actVal d.a) false).run Tryz.prog X = .ok (.int .i64 d.seq) X := fun X hX => hX.look_hit kActor Tryz.underlying168 (z := .int .i64 0) (by kernel_rfl) (p := (d.a, d.seq)) (List.mem_map.2 ⟨d, hmem, rfl⟩) false
   have hbT : Below w1.heap.size w1 W.drew := hbr.trans (hbW.mono hzr)
   clear hW c0 c1 hr hgr hc
   have hb0 : Below W.drew.heap.size W.drew W.drew := Below.refl _ _
   refine wp_region_noPanic ?_
   refine wp_region_late (fun X => Below W.drew.heap.size W.drew X) [10] (by kernel_rfl) ?_
   refine wpAnyL_take (i := 0) (oi := ⟨some 13, _, _, _, _, _⟩) (v := ?_) rfl (by kernel_rfl) (by kernel_rfl) (by kernel_rfl) (by kernel_rfl) (by kernel_rfl) (fun _ _ _ h => h) (Or.inl ⟨by rfl, ?_⟩) (by assumption) ?_
   case refine_2 => (rintro w hSw; have s0 := kept hSw y0; have s1 := kept hSw y1; have sm := kept hSw ym; have sl := hlook w (h2.tab.kept hSw); go_simp; try with_reducible rfl)
   try simp only [pS]
   refine wpAnyL_take (i := 1) (oi := ⟨some 14, _, _, _, _, _⟩) (v := ?_) rfl (by kernel_rfl) (by kernel_rfl) (by kernel_rfl) (by kernel_rfl) (by kernel_rfl) (fun _ _ _ h => h) (Or.inl ⟨by rfl, ?_⟩) (by assumption) ?_
   case refine_2 => (rintro w hSw; have s0 := kept hSw y0; have s1 := kept hSw y1; have sm := kept hSw ym; have sl := hlook w (h2.tab.kept hSw); go_simp; try with_reducible rfl)
   try simp only [pS]
   refine wpAnyL_take (i := 2) (oi := ⟨some 15, _, _, _, _, _⟩) (v := ?_) rfl (by kernel_rfl) (by kernel_rfl) (by kernel_rfl) (by kernel_rfl) (by kernel_rfl) (fun _ _ _ h => h) (Or.inl ⟨by rfl, ?_⟩) (by assumption) ?_
   case refine_2 => (rintro w hSw; have s0 := kept hSw y0; have s1 := kept hSw y1; have sm := kept hSw ym; have sl := hlook w (h2.tab.kept hSw); go_simp; try with_reducible rfl)
   try simp only [pS]
   refine wpAnyL_take (i := 3) (oi := ⟨some 16, _, _, _, _, _⟩) (v := ?_) rfl (by kernel_rfl) (by kernel_rfl) (by kernel_rfl) (by kernel_rfl) (by kernel_rfl) (fun _ _ _ h => h) (Or.inl ⟨by rfl, ?_⟩) (by assumption) ?_
   case refine_2 => (rintro w hSw; have s0 := kept hSw y0; have s1 := kept hSw y1; have sm := kept hSw ym; have sl := hlook w (h2.tab.kept hSw); go_simp; try with_reducible rfl)
   try simp only [pS]
   refine wpAnyL_take (i := 4) (oi := ⟨some 17, _, _, _, _, _⟩) (v := ?_) rfl (by kernel_rfl) (by kernel_rfl) (by kernel_rfl) (by kernel_rfl) (by kernel_rfl) (fun _ _ _ h => h) (Or.inl ⟨by rfl, ?_⟩) (by assumption) ?_
   case refine_2 => (rintro w hSw; have s0 := kept hSw y0; have s1 := kept hSw y1; have sm := kept hSw ym; have sl := hlook w (h2.tab.kept hSw); go_simp; try with_reducible rfl)
   try simp only [pS]
   refine wpAnyL_take (i := 5) (oi := ⟨some 18, _, _, _, _, _⟩) (v := ?_) rfl (by kernel_rfl) (by kernel_rfl) (by kernel_rfl) (by kernel_rfl) (by kernel_rfl) (fun _ _ _ h => h) (Or.inl ⟨by rfl, ?_⟩) (by assumption) ?_
   case refine_2 => (rintro w hSw; have s0 := kept hSw y0; have s1 := kept hSw y1; have sm := kept hSw ym; have sl := hlook w (h2.tab.kept hSw); go_simp; try with_reducible rfl)
   try simp only [pS]
   refine wpAnyL_take (i := 6) (oi := ⟨some 19, _, _, _, _, _⟩) (v := ?_) rfl (by kernel_rfl) (by kernel_rfl) (by kernel_rfl) (by kernel_rfl) (by kernel_rfl) (fun _ _ _ h => h) (Or.inl ⟨by rfl, ?_⟩) (by assumption) ?_
   case refine_2 => (rintro w hSw; have s0 := kept hSw y0; have s1 := kept hSw y1; have sm := kept hSw ym; have sl := hlook w (h2.tab.kept hSw); go_simp; try with_reducible rfl)
   try simp only [pS]
   refine wpAnyL_take (i := 7) (oi := ⟨some 20, _, _, _, _, _⟩) (v := ?_) rfl (by kernel_rfl) (by kernel_rfl) (by kernel_rfl) (by kernel_rfl) (by kernel_rfl) (fun _ _ _ h => h) (Or.inl ⟨by rfl, ?_⟩) (by assumption) ?_
   case refine_2 => (rintro w hSw; have s0 := kept hSw y0; have s1 := kept hSw y1; have sm := kept hSw ym; have sl := hlook w (h2.tab.kept hSw); go_simp; try with_reducible rfl)
   try simp only [pS]
   refine wpAnyL_take (i := 8) (oi := ⟨some 21, _, _, _, _, _⟩) (v := ?_) rfl (by kernel_rfl) (by kernel_rfl) (by kernel_rfl) (by kernel_rfl) (by kernel_rfl) (fun _ _ _ h => h) (Or.inl ⟨by rfl, ?_⟩) (by assumption) ?_
   case refine_2 => (rintro w hSw; have s0 := kept hSw y0; have s1 := kept hSw y1; have sm := kept hSw ym; have sl := hlook w (h2.tab.kept hSw); go_simp; try with_reducible rfl)
   try simp only [pS]
   have hbA : Below W.drew.heap.size W.drew (W.drew.alloc (.cells #[.int .i64 d.a.dev, .int .i64 d.a.inc, .int .i64 d.seq] 127)) := hb0.alloc hb0.size _
   have hinA : CellsIn (W.drew.alloc (.cells #[.int .i64 d.a.dev, .int .i64 d.a.inc, .int .i64 d.seq] 127)) (some ⟨W.drew.heap.size, 0, none⟩) [.int .i64 d.a.dev, .int .i64 d.a.inc, .int .i64 d.seq] := Or.inr ⟨_, _, rfl, fun j u hj => by have := cells_new W.drew [.int .i64 d.a.dev, .int .i64 d.a.inc, .int .i64 d.seq] 127 j u hj; rw [Addr.add_mid] at this; exact this⟩
   refine wpAnyL_one (i := 9) (o := ⟨some 22, _, _, _, _, _⟩) (by kernel_rfl) rfl ?_
   intro K hK
   refine step_build_one (by rfl) 27 127 _ rfl #[.int .i64 d.a.dev, .int .i64 d.a.inc, .int .i64 d.seq] 3 rfl rfl (by decide) (by decide) Tryz.underlying27 (by kernel_rfl) (by kernel_rfl) ?_
   refine hK.out _ _ (Or.inr (hbA)) ?_
   clear hK K
   try simp only [pS]
   refine wpAnyL_one (i := 10) (o := ⟨some 23, _, _, _, _, _⟩) (by kernel_rfl) rfl ?_
   intro K hK
   refine step_append_cells (by rfl) (.tmp 13) (.tmp 22) 27 rfl w1.heap.size 127 i0 _ 3 24 Tryz.underlying27 hi hz0 hz1 hz2 rfl (by decide) _ k (dotVals T) rfl (hgrW.alloc _) (some ⟨W.drew.heap.size, 0, none⟩) 1 1 [.int .i64 d.a.dev, .int .i64 d.a.inc, .int .i64 d.seq] rfl rfl hinA (by simp [Value.oneCell']) (by unfold maxLen; omega) (by omega) (by have := hbT.size; have := hbA.size; omega) ?_
   intro v6 w6 hown6 hg6
   refine hK.out _ _ (Or.inl (by kernel_rfl)) ?_
   clear hK K
   try simp only [pS]
   refine wpAnyL_one (i := 11) (o := ⟨some 3, _, _, _, _, _⟩) (by kernel_rfl) rfl ?_
   intro K hK
   go_simp
   refine hK.out _ _ (Or.inl (by kernel_rfl)) ?_
   clear hK K
   try simp only [pS]
   refine wpAnyL_done (by kernel_rfl) ?_ _
   refine NoPanic.normal ?_
   have hzT := hbT.size
   have hzA := hbA.size
   have hb6 : Below w1.heap.size w1 w6 := (hbT.trans (hbA.mono hzT)).grown hg6 (by omega) (fun j hj => (hgrW.lt j hj).1)
   have HZ := Lib.hid (And.intro (show w6.ownsRow w1.heap.size 127 3 v6 (k + 1) (dotVals (l.take (k + 1))) by rw [HT.out, dotVals_snoc]; exact hown6) hb6)
   clear hb6 hown6 hg6 hinA hbA y0 y1 ym hlook hgrW hb0 h2 hTl HT
   go_wp2
   go_roundw
   case rel => exact ⟨k + 1, by go_num, HLT.out, HZ.out.1, HZ.out.2⟩
   case measure => have := HLT.out; simp [intOf] <;> omega
  ·obtain rfl : k = l.length := by omega
   rw [List.take_length] at hgr
   go_wp2
   go_ret
   exact ⟨_, rfl, own_low hgr hb1.size, hb1.trans (hbr.mono hb1.size)⟩
/-! ### Of -/
/-! ### Covers -/
theorem own_marks {w : World} {base : Nat} {t : TypeId} {v : Value} {l : List Dot} (h : w.ownsRow base t 3 v l.length (dotVals l)) : ∃ a cap, v = .slice a l.length cap ∧ DotsIn w a l := by
 rcases h.2 with ⟨rfl, hn⟩ | ⟨g, cap, cur, rfl, _, hg, hn, _, hsz, htk⟩
 ·exact ⟨none, 0, by rw [hn], Or.inl (List.length_eq_zero_iff.1 hn)⟩
 ·have hcell : ∀ j u, (dotVals l)[j]? = some u → w.cell? ⟨g, j, none⟩ = some u := by
   intro j u hj
   rw [← htk, List.getElem?_take] at hj
   split at hj
   ·simp only [World.cell?, hg]
    simpa using hj
   ·cases hj
  have hv := fun (i : Nat) (hi : i < l.length) => dotVals_get l i hi
  exact ⟨_, cap, rfl, Or.inr ⟨g, 0, rfl, ⟨fun i hi => by rw [Nat.zero_add]; exact hcell _ _ (hv i hi).1, fun i hi => by rw [Nat.zero_add]; exact hcell _ _ (hv i hi).2.1, fun i hi => by rw [Nat.zero_add]; exact hcell _ _ (hv i hi).2.2⟩⟩⟩
theorem mContext_any {m : Nat} {b : MB} {s : MS} (w : World) (h : MpIn w m b s) (hs : SrtM s.ctx) (hl : s.ctx.length ≤ 1073741824) :
 Calls Tryz.prog 32 #[.pointer (some ⟨m, 0, none⟩)] w fun e w' => ∃ x : Value, e = .returned x ∧ w'.ownsRow w.heap.size 127 3 x s.ctx.length (dotVals s.ctx) ∧ Below w.heap.size w w' := by
 have c3 := (four_cells h.cell).2.2.2
 have HM := Lib.hid (vMarks_any w h.vec hs hl)
 clear h hs hl
 go_enter Tryz.func32, Tryz.ntmps32
 go_wp2_with (go_at_call 91; (with_reducible refine HM.out.mono ?_); rintro e w1 ⟨x, rfl, hown, hb⟩)
 go_ret
 exact ⟨x, rfl, hown, hb⟩
end Go.Proofs.YtpbobhfnglikmaaGreat
