/- The vector of marks: its actors. Conditions: at most 2^30 marks. -/
import Derived.Test.YtohcmljigcdmbaaGreatSrtK
import Derived.Test.YtohcmljigcdmbaaGreatVec
import Derived.Test.YtohcmljigcdmbaaGreatOrmH
import Derived.Test.YtohcmljigcdmbaaGreatOrmP
set_option linter.unusedSimpArgs false
set_option linter.unusedVariables false
set_option linter.unnecessarySimpa false
set_option maxHeartbeats 16000000
set_option maxRecDepth 100000
namespace Go.Proofs.YtohcmljigcdmbaaGreat
open Go.RowKit
theorem srtA_ext : ∀ {l m : List Actor}, (l.Pairwise fun x y => actorLt x y = true) → (m.Pairwise fun x y => actorLt x y = true) → l.Perm m → l = m
 | [], m, _, _, h => h.nil_eq
 | x :: l, [], _, _, h => by have := h.length_eq; simp at this
 | x :: l, y :: m, hl, hm, h => by
   obtain ⟨hx, hl2⟩ := List.pairwise_cons.1 hl
   obtain ⟨hy, hm2⟩ := List.pairwise_cons.1 hm
   have hxy : x = y := by
     rcases List.mem_cons.1 (h.mem_iff.1 (List.mem_cons_self : x ∈ x :: l)) with e | h1
     ·exact e
     ·rcases List.mem_cons.1 (h.mem_iff.2 (List.mem_cons_self : y ∈ y :: m)) with e | h2
      ·exact e.symm
      ·have h3 := actorLt_trans (hx y h2) (hy x h1)
       rw [actorLt_irrefl] at h3
       cases h3
   subst hxy
   rw [srtA_ext hl2 hm2 h.cons_inv]
theorem ents_actors (l : List Dot) : (ents l).map (·.1) = l.map (·.a) := by simp [ents]
theorem vActors_any {v b : Nat} {l : List Dot} (w : World) (h : VecIn w v b l) (hs : SrtM l) (hl : l.length ≤ 1073741824) :
 Calls Tryz.prog 69 #[.pointer (some ⟨v, 0, none⟩)] w fun e w' => ∃ x : Value, e = .returned x ∧ w'.ownsRow w.heap.size 23 2 x l.length (actVals (l.map (·.a))) ∧ (x = .slice none 0 0 ↔ l = []) ∧ Below w.heap.size w w' := by
 have c0 : w.cell? ⟨v, 0, none⟩ = some (.map (some b)) := by simp [World.cell?, h.cell]
 have HK := Lib.hid (keysActor_any (some b) w)
 have hal := (Below.refl _ w).alloc (Nat.le_refl _) (.cells #[.map (some b)] 113)
 have HS := Lib.hid (sortedActor_any w.heap.size b (ents l) (w.alloc (.cells #[.map (some b)] 113)) (by simp) (Boxed.new w _ _).cell (h.tab.kept hal) (by unfold ents; rw [List.length_map]; exact hl))
 have HA := Lib.hid hs
 clear h hs hl
 go_enter Tryz.func69, Tryz.ntmps69
 go_wp2_with (first
  | (go_at_call 106; (with_reducible refine HK.out.mono ?_); rintro e w1 ⟨rfl, rfl⟩)
  | (go_at_call 105; (with_reducible refine HS.out.mono ?_); rintro e w2 ⟨x, ts, rfl, hp, hsr, hown, hnil, hb2⟩))
 go_ret
 have hsa : (l.map (·.a)).Pairwise fun x y => actorLt x y = true := List.pairwise_map.2 HA.out
 obtain rfl : ts = l.map (·.a) := srtA_ext hsr hsa (by rw [← ents_actors]; exact hp)
 rw [List.length_map] at hown
 exact ⟨x, rfl, own_low hown (by simp), by rw [hnil, List.map_eq_nil_iff], hal.trans (hb2.mono (by simp))⟩
theorem Tryz.infoMark : (Tryz.prog.info? 112).map (fun i => (i.zero, i.size, i.bytes)) = some (some (.agg #[.int .i64 0, .int .i64 0, .int .i64 0]), 3, 24) := by kernel_rfl
theorem actVals_get : ∀ (l : List Actor) (i : Nat) (h : i < l.length), (actVals l)[i * 2]? = some (.int .i64 l[i].dev) ∧ (actVals l)[i * 2 + 1]? = some (.int .i64 l[i].inc)
 | [], i, h => by simp at h
 | d :: l, 0, _ => by simp [actVals]
 | d :: l, i + 1, h => by
   have ih := actVals_get l i (by simpa using h)
   have e : actVals (d :: l) = [.int .i64 d.dev, .int .i64 d.inc] ++ actVals l := rfl
   rw [e, List.getElem?_append_right (by simp; omega), List.getElem?_append_right (by simp; omega)]
   simp only [List.length_cons, List.length_nil, List.getElem_cons_succ]
   rw [show (i + 1) * 2 - (0 + 1 + 1) = i * 2 by omega, show (i + 1) * 2 + 1 - (0 + 1 + 1) = i * 2 + 1 by omega]
   exact ih
theorem own_acts {w : World} {base n : Nat} {v : Value} {l : List Actor} (hn : n = l.length) (h : w.ownsRow base 23 2 v n (actVals l)) : ∃ a cap, v = .slice a n cap ∧ (l = [] ∨ ∃ g, a = some ⟨g, 0, none⟩ ∧ ∀ i (h : i < l.length), w.cell? ⟨g, i * 2, none⟩ = some (.int .i64 l[i].dev) ∧ w.cell? ⟨g, i * 2 + 1, none⟩ = some (.int .i64 l[i].inc)) := by
 subst hn
 rcases h.2 with ⟨rfl, h0⟩ | ⟨g, cap, cur, rfl, _, hg, hn, _, hsz, htk⟩
 ·exact ⟨none, 0, by rw [h0], Or.inl (List.length_eq_zero_iff.1 h0)⟩
 ·have hcell : ∀ j u, (actVals l)[j]? = some u → w.cell? ⟨g, j, none⟩ = some u := by
   intro j u hj
   rw [← htk, List.getElem?_take] at hj
   split at hj
   ·simp only [World.cell?, hg]
    simpa using hj
   ·cases hj
  exact ⟨_, cap, rfl, Or.inr ⟨g, rfl, fun i hi => ⟨hcell _ _ (actVals_get l i hi).1, hcell _ _ (actVals_get l i hi).2⟩⟩⟩
theorem vMarks_any {v b : Nat} {l : List Dot} (w : World) (h : VecIn w v b l) (hs : SrtM l) (hl : l.length ≤ 1073741824) :
 Calls Tryz.prog 59 #[.pointer (some ⟨v, 0, none⟩)] w fun e w' => ∃ x : Value, e = .returned x ∧ w'.ownsRow w.heap.size 112 3 x l.length (dotVals l) ∧ Below w.heap.size w w' := by
 obtain ⟨i0, hi, hz0, hz1, hz2⟩ := info_parts Tryz.infoMark
 have HA := Lib.hid (vActors_any w h hs hl)
 clear hs
 go_enter Tryz.func59, Tryz.ntmps59
 go_wp2_with (go_at_call 69; (with_reducible refine HA.out.mono ?_); rintro e w1 ⟨x1, rfl, hown, hnil, hb1⟩; obtain ⟨aL, cL, rfl, hcs⟩ := own_acts (by rw [List.length_map]) hown)
 have h1 := h.kept hb1
 clear hown hnil HA h
 go_loopw [9, 3] (fun i x wr => ∃ k : Nat, i = .int .i64 k ∧ k ≤ l.length ∧ wr.ownsRow w1.heap.size 112 3 x k (dotVals (l.take k)) ∧ Below w1.heap.size w1 wr) (fun i _ _ => l.length - (intOf i).toNat)
 case atStart => exact ⟨0, rfl, Nat.zero_le _, World.ownsRow_nil _ _ _ _, Below.refl _ _⟩
 case round =>
  obtain ⟨k, rfl, hk, hgr, hbr⟩ := hrel
  by_cases hlt : k < l.length
  ·obtain ⟨A, rfl, hc⟩ : ∃ g, aL = some ⟨g, 0, none⟩ ∧ ∀ i (h : i < (List.map (fun x : Dot => x.a) l).length), w1.cell? ⟨g, i * 2, none⟩ = some (.int .i64 (List.map (fun x : Dot => x.a) l)[i].dev) ∧ w1.cell? ⟨g, i * 2 + 1, none⟩ = some (.int .i64 (List.map (fun x : Dot => x.a) l)[i].inc) := by
        rcases hcs with h0 | h0
        ·have := congrArg List.length h0
         rw [List.length_map] at this
         simp at this
         subst this
         simp at hlt
        ·exact h0
   obtain ⟨c0, c1⟩ := hc k (by rw [List.length_map]; exact hlt)
   rw [List.getElem_map] at c0 c1
   replace c0 := kept hbr c0
   replace c1 := kept hbr c1
   have hr := h1.kept hbr
   have hzr := hbr.size
   have HT : Hid (l.take (k + 1) = l.take k ++ [l[k]]) := by
        unfold Hid
        rw [List.take_add_one, List.getElem?_eq_getElem hlt]
        rfl
   have hmem : l[k] ∈ l := List.getElem_mem hlt
   have hTl : (l.take k).length = k := by rw [List.length_take]; omega
   have HLT := Lib.hid hlt
   generalize l[k] = d at *
   generalize l.take k = T at hgr HT hTl
   clear hlt
   go_upto_region 5 with fail
   refine wp_name (fun W hW => ?_)
   have hbW : Below wr.heap.size wr W.drew := by rw [hW.out]; go_grown
   have y0 : W.drew.cell? ⟨wr.heap.size, 0, none⟩ = some (.int .i64 d.a.dev) := by rw [hW.out]; go_simp
   have y1 : W.drew.cell? ⟨wr.heap.size, 1, none⟩ = some (.int .i64 d.a.inc) := by rw [hW.out]; go_simp
   have h2 := hr.kept hbW
   have ym : W.drew.cell? ⟨v, 0, none⟩ = some (.map (some b)) := by simp [World.cell?, h2.cell]
   have hgrW := ownsRow_below hgr hbW
   have hlook : ∀ X : World, Tab Tryz.prog 23 actVal ActW intVal X b (ents l) → (Instr.lookup 113 (.map (some b)) (actVal d.a) false).run Tryz.prog X = .ok (.int .i64 d.seq) X := fun X hX => hX.look_hit kActor Tryz.underlying113 (z := .int .i64 0) (by kernel_rfl) (p := (d.a, d.seq)) (List.mem_map.2 ⟨d, hmem, rfl⟩) false
   have hbT : Below w1.heap.size w1 W.drew := hbr.trans (hbW.mono hzr)
   clear hW c0 c1 hr hgr hc
   have hb0 : Below W.drew.heap.size W.drew W.drew := Below.refl _ _
   refine wp_region_noPanic ?_
   refine wp_region_late (fun X => Below W.drew.heap.size W.drew X) [10] (by kernel_rfl) ?_
   refine tL (v := ?_) 0 13 rfl (Or.inl ⟨by rfl, ?_⟩) ?_
   case refine_2 => (rintro w hSw; have s0 := kept hSw y0; have s1 := kept hSw y1; have sm := kept hSw ym; have sl := hlook w (h2.tab.kept hSw); go_simp; try with_reducible rfl)
   try simp only [pS]
   refine tL (v := ?_) 1 14 rfl (Or.inl ⟨by rfl, ?_⟩) ?_
   case refine_2 => (rintro w hSw; have s0 := kept hSw y0; have s1 := kept hSw y1; have sm := kept hSw ym; have sl := hlook w (h2.tab.kept hSw); go_simp; try with_reducible rfl)
   try simp only [pS]
   refine tL (v := ?_) 2 15 rfl (Or.inl ⟨by rfl, ?_⟩) ?_
   case refine_2 => (rintro w hSw; have s0 := kept hSw y0; have s1 := kept hSw y1; have sm := kept hSw ym; have sl := hlook w (h2.tab.kept hSw); go_simp; try with_reducible rfl)
   try simp only [pS]
   refine tL (v := ?_) 3 16 rfl (Or.inl ⟨by rfl, ?_⟩) ?_
   case refine_2 => (rintro w hSw; have s0 := kept hSw y0; have s1 := kept hSw y1; have sm := kept hSw ym; have sl := hlook w (h2.tab.kept hSw); go_simp; try with_reducible rfl)
   try simp only [pS]
   refine tL (v := ?_) 4 17 rfl (Or.inl ⟨by rfl, ?_⟩) ?_
   case refine_2 => (rintro w hSw; have s0 := kept hSw y0; have s1 := kept hSw y1; have sm := kept hSw ym; have sl := hlook w (h2.tab.kept hSw); go_simp; try with_reducible rfl)
   try simp only [pS]
   refine tL (v := ?_) 5 18 rfl (Or.inl ⟨by rfl, ?_⟩) ?_
   case refine_2 => (rintro w hSw; have s0 := kept hSw y0; have s1 := kept hSw y1; have sm := kept hSw ym; have sl := hlook w (h2.tab.kept hSw); go_simp; try with_reducible rfl)
   try simp only [pS]
   refine tL (v := ?_) 6 19 rfl (Or.inl ⟨by rfl, ?_⟩) ?_
   case refine_2 => (rintro w hSw; have s0 := kept hSw y0; have s1 := kept hSw y1; have sm := kept hSw ym; have sl := hlook w (h2.tab.kept hSw); go_simp; try with_reducible rfl)
   try simp only [pS]
   refine tL (v := ?_) 7 20 rfl (Or.inl ⟨by rfl, ?_⟩) ?_
   case refine_2 => (rintro w hSw; have s0 := kept hSw y0; have s1 := kept hSw y1; have sm := kept hSw ym; have sl := hlook w (h2.tab.kept hSw); go_simp; try with_reducible rfl)
   try simp only [pS]
   refine tL (v := ?_) 8 21 rfl (Or.inl ⟨by rfl, ?_⟩) ?_
   case refine_2 => (rintro w hSw; have s0 := kept hSw y0; have s1 := kept hSw y1; have sm := kept hSw ym; have sl := hlook w (h2.tab.kept hSw); go_simp; try with_reducible rfl)
   try simp only [pS]
   have hbA : Below W.drew.heap.size W.drew (W.drew.alloc (.cells #[.int .i64 d.a.dev, .int .i64 d.a.inc, .int .i64 d.seq] 112)) := hb0.alloc hb0.size _
   have hinA : CellsIn (W.drew.alloc (.cells #[.int .i64 d.a.dev, .int .i64 d.a.inc, .int .i64 d.seq] 112)) (some ⟨W.drew.heap.size, 0, none⟩) [.int .i64 d.a.dev, .int .i64 d.a.inc, .int .i64 d.seq] := Or.inr ⟨_, _, rfl, fun j u hj => by have := cells_new W.drew [.int .i64 d.a.dev, .int .i64 d.a.inc, .int .i64 d.seq] 112 j u hj; rw [Addr.add_mid] at this; exact this⟩
   refine wpAnyL_one (i := 9) (o := ⟨some 22, _, _, _, _, _⟩) (by kernel_rfl) rfl ?_
   intro K hK
   refine step_build_one (by rfl) 50 112 _ rfl #[.int .i64 d.a.dev, .int .i64 d.a.inc, .int .i64 d.seq] 3 rfl rfl (by decide) (by decide) Tryz.underlying50 (by kernel_rfl) (by kernel_rfl) ?_
   refine hK.out _ _ (Or.inr (hbA)) ?_
   clear hK K
   try simp only [pS]
   refine wpAnyL_one (i := 10) (o := ⟨some 23, _, _, _, _, _⟩) (by kernel_rfl) rfl ?_
   intro K hK
   refine step_append_cells (by rfl) (.tmp 13) (.tmp 22) 50 rfl w1.heap.size 112 i0 _ 3 24 Tryz.underlying50 hi hz0 hz1 hz2 rfl (by decide) _ k (dotVals T) rfl (hgrW.alloc _) (some ⟨W.drew.heap.size, 0, none⟩) 1 1 [.int .i64 d.a.dev, .int .i64 d.a.inc, .int .i64 d.seq] rfl rfl hinA (by simp [Value.oneCell']) (by unfold maxLen; omega) (by omega) (by have := hbT.size; have := hbA.size; omega) ?_
   intro v6 w6 hown6 hg6
   refine hK.out _ _ (Or.inl (by kernel_rfl)) ?_
   clear hK K
   try simp only [pS]
   refine wpAnyL_one (i := 11) (o := ⟨some 3, _, _, _, _, _⟩) (by kernel_rfl) rfl ?_
   intro K hK
   go_simp
   refine hK.out _ _ (Or.inl (by kernel_rfl)) ?_
   clear hK K
   try simp only [pS]
   refine wpAnyL_done (by kernel_rfl) ?_ _
   refine NoPanic.normal ?_
   have hzT := hbT.size
   have hzA := hbA.size
   have hb6 : Below w1.heap.size w1 w6 := (hbT.trans (hbA.mono hzT)).grown hg6 (by omega) (fun j hj => (hgrW.lt j hj).1)
   have HZ := Lib.hid (And.intro (show w6.ownsRow w1.heap.size 112 3 v6 (k + 1) (dotVals (l.take (k + 1))) by rw [HT.out, dotVals_snoc]; exact hown6) hb6)
   clear hb6 hown6 hg6 hinA hbA y0 y1 ym hlook hgrW hb0 h2 hTl HT
   go_wp2
   go_roundw
   case rel => exact ⟨k + 1, by go_num, HLT.out, HZ.out.1, HZ.out.2⟩
   case measure => have := HLT.out; simp [intOf] <;> omega
  ·obtain rfl : k = l.length := by omega
   rw [List.take_length] at hgr
   go_wp2
   go_ret
   exact ⟨_, rfl, own_low hgr hb1.size, hb1.trans (hbr.mono hb1.size)⟩
theorem marksFrom_ok : ∀ (l : List Dot) (p : Option Dot), marksFrom p l = 0 → (∀ x ∈ l, dotOk x = true) ∧ SrtM l ∧ ∀ y, p = some y → ∀ x ∈ l, actorLt y.a x.a = true
 | [], p, _ => ⟨fun _ h => (nomatch h), List.Pairwise.nil, fun _ _ _ h => (nomatch h)⟩
 | x :: r, p, h => by
   unfold marksFrom at h
   split at h
   ·rename_i h1
    split at h
    ·rename_i h2
     obtain ⟨i1, i2, i3⟩ := marksFrom_ok r (some x) h
     refine ⟨fun y hy => ?_, List.pairwise_cons.2 ⟨i3 x rfl, i2⟩, fun y hy z hz => ?_⟩
     ·rcases List.mem_cons.1 hy with rfl | hy
      ·exact h1
      ·exact i1 y hy
     ·subst hy
      have h3 : actorLt y.a x.a = true := h2
      rcases List.mem_cons.1 hz with rfl | hz
      ·exact h3
      ·exact actorLt_trans h3 (i3 x rfl z hz)
    ·cases h
   ·cases h
theorem marksErr_ok {l : List Dot} (h : marksErr l = 0) : l.length ≤ 4096 ∧ (∀ x ∈ l, dotOk x = true) ∧ SrtM l := by
 unfold marksErr at h
 split at h
 ·cases h
 ·obtain ⟨h1, h2, _⟩ := marksFrom_ok l none h
  exact ⟨by omega, h1, h2⟩
theorem setM_snoc : ∀ {l : List Dot} {a : Actor} {n : Int}, (∀ d ∈ l, actorLt d.a a = true) → setM l a n = l ++ [⟨a, n⟩]
 | [], a, n, _ => rfl
 | d :: l, a, n, h => by
   have h1 := h d List.mem_cons_self
   have h2 : d.a ≠ a := fun e => by rw [e, actorLt_irrefl] at h1; cases h1
   unfold setM
   rw [if_neg h2, if_pos h1, setM_snoc fun x hx => h x (List.mem_cons_of_mem _ hx)]
   rfl
theorem setM_take {l : List Dot} (h : SrtM l) {k : Nat} (hk : k < l.length) : setM (l.take k) l[k].a l[k].seq = l.take (k + 1) := by
 rw [setM_snoc, List.take_add_one, List.getElem?_eq_getElem hk]
 ·rfl
 ·intro d hd
  obtain ⟨i, hi, rfl⟩ := List.getElem_of_mem hd
  rw [List.length_take] at hi
  rw [List.getElem_take]
  exact List.pairwise_iff_getElem.1 h i k (by omega) hk (by omega)
/-! ### Of -/
theorem vOf_yes (a : Option Addr) (cap : Nat) (l : List Dot) (w : World) (hd : DotsIn w a l) (hok : marksErr l = 0) :
 Calls Tryz.prog 30 #[.slice a l.length cap] w fun e w' => ∃ v b, e = .returned (.tuple #[.pointer (some ⟨v, 0, none⟩), .int .i64 0]) ∧ VecIn w' v b l ∧ Below w.heap.size w w' ∧ w.heap.size ≤ v ∧ w.heap.size ≤ b := by
 obtain ⟨hl, hall, hsr⟩ := marksErr_ok hok
 have HC0 := vecCheck_any a cap l w (by omega) hd
 rw [hok] at HC0
 have HC := Lib.hid HC0
 have HN := Lib.hid (fun X => vNew_any X)
 have HS := Lib.hid (And.intro hsr hall)
 clear HC0 hok hsr hall
 go_enter Tryz.func30, Tryz.ntmps30
 go_wp2_with (first
  | (go_at_call 67; (with_reducible refine HC.out.mono ?_); rintro e w1 ⟨rfl, hb1⟩)
  | (go_at_call 68; (with_reducible refine (HN.out _).mono ?_); rintro e w2 ⟨rfl, hv, hb2⟩))
 have hbv : Below w.heap.size w w2 := hb1.trans (hb2.mono hb1.size)
 have hz1 := hb1.size
 clear hb2 HC HN
 generalize hv1 : w1.heap.size + 1 = v at *
 generalize hv2 : w1.heap.size = b at *
 go_loopw [16] (fun i wr => ∃ k : Nat, i = .int .i64 k ∧ k ≤ l.length ∧ VecIn wr v b (l.take k) ∧ Below w.heap.size w wr) (fun i _ => l.length - (intOf i).toNat)
 case atStart => exact ⟨0, rfl, Nat.zero_le _, hv, hbv⟩
 case round =>
  obtain ⟨k, rfl, hk, hvk, hbw⟩ := hrel
  by_cases hlt : k < l.length
  ·obtain ⟨A, off, rfl, hda⟩ : ∃ A off, a = some ⟨A, off, none⟩ ∧ DotsAt w A off l := by
        rcases hd with h | ⟨A, off, h1, h2⟩
        ·rw [h] at hlt; simp at hlt
        ·exact ⟨A, off, h1, h2⟩
   have e0 := (hda.kept hbw).dev k hlt
   have e1 := (hda.kept hbw).inc k hlt
   have e2 := (hda.kept hbw).seq k hlt
   have HT := Lib.hid (setM_take HS.out.1 hlt)
   have HD := Lib.hid (dotOk_W (HS.out.2 _ (List.getElem_mem hlt)))
   have hsk : SrtM (l.take k) := HS.out.1.sublist (List.take_sublist _ _)
   have htl : (l.take k).length ≤ 4096 := by rw [List.length_take]; omega
   generalize l[k] = d at *
   have hzw := hbw.size
   go_upto_region 8 with fail
   refine wp_name (fun W hW => ?_)
   have hbW : Below wr.heap.size wr W.drew := by rw [hW.out]; go_grown
   have y0 : W.drew.cell? ⟨wr.heap.size, 0, none⟩ = some (.int .i64 d.a.dev) := by rw [hW.out]; go_simp
   have y1 : W.drew.cell? ⟨wr.heap.size, 1, none⟩ = some (.int .i64 d.a.inc) := by rw [hW.out]; go_simp
   have y2 : W.drew.cell? ⟨wr.heap.size, 2, none⟩ = some (.int .i64 d.seq) := by rw [hW.out]; go_simp
   have h2 := hvk.kept hbW
   have ym : W.drew.cell? ⟨v, 0, none⟩ = some (.map (some b)) := (one_cell h2.cell).1
   have hbt : Below w.heap.size w W.drew := hbw.trans (hbW.mono hzw)
   have hbN : w.heap.size ≤ b ∧ v ≠ b := ⟨by omega, h2.ne⟩
   clear hW e0 e1 e2 hvk
   obtain ⟨w3, hrun, htab, hfr⟩ := Tab.setM (w := W.drew) h2.tab hsk (by unfold maxLen; omega) HD.out.a d.seq
   have HV := Lib.hid h2.cell
   have HTb := Lib.hid htab
   have HF := Lib.hid hfr
   clear htab hfr h2 hsk htl
   refine wp_region_noPanic ?_
   refine wp_region_late (fun W' => W'.cell? ⟨wr.heap.size, 0, none⟩ = some (.int .i64 d.a.dev) ∧ W'.cell? ⟨wr.heap.size, 1, none⟩ = some (.int .i64 d.a.inc) ∧ W'.cell? ⟨wr.heap.size, 2, none⟩ = some (.int .i64 d.seq) ∧ W'.cell? ⟨v, 0, none⟩ = some (.map (some b))) [8] (by kernel_rfl) ?_
   have hS := And.intro y0 (And.intro y1 (And.intro y2 ym))
   refine tL (v := ?_) 0 20 rfl (Or.inl ⟨by rfl, ?_⟩) ?_
   case refine_2 => (rintro w ⟨s0, s1, s2, s3⟩; go_simp; try with_reducible rfl)
   try simp only [pS]
   refine tL (v := ?_) 1 21 rfl (Or.inl ⟨by rfl, ?_⟩) ?_
   case refine_2 => (rintro w ⟨s0, s1, s2, s3⟩; go_simp; try with_reducible rfl)
   try simp only [pS]
   refine tL (v := ?_) 2 22 rfl (Or.inl ⟨by rfl, ?_⟩) ?_
   case refine_2 => (rintro w ⟨s0, s1, s2, s3⟩; go_simp; try with_reducible rfl)
   try simp only [pS]
   refine tL (v := ?_) 3 23 rfl (Or.inl ⟨by rfl, ?_⟩) ?_
   case refine_2 => (rintro w ⟨s0, s1, s2, s3⟩; go_simp; try with_reducible rfl)
   try simp only [pS]
   refine tL (v := ?_) 4 24 rfl (Or.inl ⟨by rfl, ?_⟩) ?_
   case refine_2 => (rintro w ⟨s0, s1, s2, s3⟩; go_simp; try with_reducible rfl)
   try simp only [pS]
   refine tL (v := ?_) 5 25 rfl (Or.inl ⟨by rfl, ?_⟩) ?_
   case refine_2 => (rintro w ⟨s0, s1, s2, s3⟩; go_simp; try with_reducible rfl)
   try simp only [pS]
   refine tL (v := ?_) 6 26 rfl (Or.inl ⟨by rfl, ?_⟩) ?_
   case refine_2 => (rintro w ⟨s0, s1, s2, s3⟩; go_simp; try with_reducible rfl)
   try simp only [pS]
   refine tL (v := ?_) 7 27 rfl (Or.inl ⟨by rfl, ?_⟩) ?_
   case refine_2 => (rintro w ⟨s0, s1, s2, s3⟩; go_simp; try with_reducible rfl)
   try simp only [pS]
   refine wpAnyL_one (i := 8) (o := ⟨none, _, _, _, _, _⟩) (by kernel_rfl) rfl ?_
   intro K hK
   go_simp
   refine hK.out _ _ (Or.inl (by kernel_rfl)) ?_
   clear hK K
   try simp only [pS]
   refine wpAnyL_done (by kernel_rfl) ?_ _
   refine NoPanic.normal ?_
   have HLT := Lib.hid hlt
   have HZ : Hid (VecIn w3 v b (l.take (k + 1)) ∧ Below w.heap.size w w3) := by
        refine ⟨⟨(HF.out.block v (lt_of_block HV.out) hbN.2).trans HV.out, ?_⟩, hbt.trans (HF.out.below hbt.size (fun j hj => by rw [show j = b from hj]; exact hbN.1))⟩
        have := HTb.out
        rw [HT.out] at this
        exact this
   clear y0 y1 y2 ym hS hbt hlt
   go_wp2
   go_roundw
   case rel => exact ⟨k + 1, by go_num, HLT.out, HZ.out.1, HZ.out.2⟩
   case measure => have := HLT.out; simp [intOf] <;> omega
  ·obtain rfl : k = l.length := by omega
   rw [List.take_length] at hvk
   go_wp2
   go_ret2
   exact ⟨v, b, rfl, hvk, hbw, by omega, by omega⟩
/-! ### Covers -/
theorem own_marks {w : World} {base : Nat} {t : TypeId} {v : Value} {l : List Dot} (h : w.ownsRow base t 3 v l.length (dotVals l)) : ∃ a cap, v = .slice a l.length cap ∧ DotsIn w a l := by
 rcases h.2 with ⟨rfl, hn⟩ | ⟨g, cap, cur, rfl, _, hg, hn, _, hsz, htk⟩
 ·exact ⟨none, 0, by rw [hn], Or.inl (List.length_eq_zero_iff.1 hn)⟩
 ·have hcell : ∀ j u, (dotVals l)[j]? = some u → w.cell? ⟨g, j, none⟩ = some u := by
   intro j u hj
   rw [← htk, List.getElem?_take] at hj
   split at hj
   ·simp only [World.cell?, hg]
    simpa using hj
   ·cases hj
  have hv := fun (i : Nat) (hi : i < l.length) => dotVals_get l i hi
  exact ⟨_, cap, rfl, Or.inr ⟨g, 0, rfl, ⟨fun i hi => by rw [Nat.zero_add]; exact hcell _ _ (hv i hi).1, fun i hi => by rw [Nat.zero_add]; exact hcell _ _ (hv i hi).2.1, fun i hi => by rw [Nat.zero_add]; exact hcell _ _ (hv i hi).2.2⟩⟩⟩
theorem mContext_any {m : Nat} {b : MB} {s : MS} (w : World) (h : MpIn w m b s) (hs : SrtM s.ctx) (hl : s.ctx.length ≤ 1073741824) :
 Calls Tryz.prog 27 #[.pointer (some ⟨m, 0, none⟩)] w fun e w' => ∃ x : Value, e = .returned x ∧ w'.ownsRow w.heap.size 112 3 x s.ctx.length (dotVals s.ctx) ∧ Below w.heap.size w w' := by
 have c3 := (four_cells h.cell).2.2.2
 have HM := Lib.hid (vMarks_any w h.vec hs hl)
 clear h hs hl
 go_enter Tryz.func27, Tryz.ntmps27
 go_wp2_with (go_at_call 59; (with_reducible refine HM.out.mono ?_); rintro e w1 ⟨x, rfl, hown, hb⟩)
 go_ret
 exact ⟨x, rfl, hown, hb⟩
end Go.Proofs.YtohcmljigcdmbaaGreat
