/- The map of events: Deads. Conditions: as in the text. -/
import Derived.Test.YtpbobhfnglikmaaGreatOrmH
import Derived.Laws.IdiomRangeMap
import Derived.Maps.AppendAt
set_option linter.unusedSimpArgs false
set_option linter.unusedVariables false
set_option linter.unnecessarySimpa false
set_option maxHeartbeats 16000000
set_option maxRecDepth 100000
namespace Go.Proofs.YtpbobhfnglikmaaGreat
open Go.RowKit
/-- behind what hands back dots of the call's own -/
def RetDotL (L : List Dot) (w : World) (e : Ending) (w' : World) : Prop :=
 ∃ v, e = .returned v ∧ w'.ownsRow w.heap.size 35 3 v L.length (dotVals L) ∧ (v = .slice none 0 0 ↔ L = []) ∧ Below w.heap.size w w'
theorem mDeads_any {m : Nat} {b : MB} {s : MS} (w : World) (h : MpIn w m b s) (hK : s.dead.length ≤ 536870912) (hdk : ∀ x ∈ s.dead, DotW x) :
 Calls Tryz.prog 39 #[.pointer (some ⟨m, 0, none⟩)] w (RetDotL (sortD s.dead) w) := by
 obtain ⟨i0, hi, hz0, hz1, hz2⟩ := info_parts Tryz.infoDot
 obtain ⟨c0, c1, c2, c3⟩ := four_cells h.cell
 have htab := h.dead
 have HBK := Lib.hid (h.low (foot_db b s.A))
 have hKl : (ones s.dead).length ≤ 536870912 := by unfold ones; rw [List.length_map]; exact hK
 clear c0 c1 c3 h
 go_enter Tryz.func39, Tryz.ntmps39
 go_wp2_with (at_range; refine wpList_range_tab kDot _ rfl _ 105 rfl 3 Tryz.underlying105 b.db rfl htab ?_; intro w0 cnt0 hrg0 hb0 hs0)
 go_frame
 go_loopw [3] (fun v wr => ∃ rest cnt ks, TabIt Tryz.prog 35 dotVal DotW intVal wr b.db w.heap.size (ones s.dead) rest cnt ∧ (ks ++ rest.map (·.1)).Perm ((ones s.dead).map (·.1)) ∧ wr.ownsRow (w.heap.size + 1) 35 3 v ks.length (dotVals ks) ∧ Below w.heap.size w wr) (fun _ wr => wr.rangeLeft b.db w.heap.size)
 case atStart => exact ⟨(ones s.dead), _, [], hrg0, List.Perm.refl _, World.ownsRow_nil _ _ _ _, hb0⟩
 case round =>
  obtain ⟨rest, cnt, ks, hrg, hC, hown, hbw⟩ := hrel
  have hzw : w.heap.size + 1 ≤ wr.heap.size := by have := hrg.lt; omega
  have HLE := Lib.hid hrg.left_eq
  go_wp2_with (at_next; refine wpList_next_tab kDot _ rfl _ rfl b.db w.heap.size cnt rfl hrg ?_ ?_)
  rotate_left
  ·intro x n rest' w2 cnt2 hperm hpm hrg2 hlt hg2 hs2 hen
   have hlen : ks.length < (ones s.dead).length := by
        have h1 := hC.length_eq
        have h2 := hperm.length_eq
        simp at h1 h2 ⊢
        omega
   have HC2 : Hid (((ks ++ [x]) ++ rest'.map (·.1)).Perm ((ones s.dead).map (·.1))) := by
        have h3 : (ks ++ rest.map (·.1)).Perm ((ks ++ [x]) ++ rest'.map (·.1)) := by
         have := (hperm.map (·.1)).append_left ks
         simpa using this
        exact h3.symm.trans hC
   have hNlt := hrg.lt
   have hown2 := hown.kept2 hg2 (fun g hg => by have := (hown.lt g hg).1; show ¬ g = w.heap.size; omega)
   have hb2 : Below w.heap.size w w2 := hbw.trans (hg2.below hbw.size (fun k hk => by rw [show k = w.heap.size from hk]; exact Nat.le_refl _))
   have hsz2 := hg2.size
   clear hs2 hown hrg hg2
   go_upto_region 7 with fail
   refine wp_name (fun W3 hW3 => ?_)
   have hb3 : Below w2.heap.size w2 W3 := by rw [hW3.out]; go_grown
   have y0 : W3.cell? ⟨w2.heap.size, 0, none⟩ = some (.int .i64 x.a.dev) := by rw [hW3.out]; go_simp
   have y1 : W3.cell? ⟨w2.heap.size, 1, none⟩ = some (.int .i64 x.a.inc) := by rw [hW3.out]; go_simp
   have y2 : W3.cell? ⟨w2.heap.size, 2, none⟩ = some (.int .i64 x.seq) := by rw [hW3.out]; go_simp
   clear hW3
   have hown3 := ownsRow_below hown2 hb3
   have hrg3 := hrg2.kept hb3
   have hsz3 := hb3.size
   have hbw3 : Below w.heap.size w W3 := hb2.trans (hb3.mono hb2.size)
   clear hown2 hrg2 hb2
   go_wp2_with (at_builtin; refine wpList_append_own _ rfl _ _ 29 rfl (w.heap.size + 1) 35 i0 (.agg #[.int .i64 0, .int .i64 0, .int .i64 0]) 3 24 Tryz.underlying29 hi hz0 hz1 hz2 rfl (by decide) _ _ _ rfl (hown3.alloc _) ⟨W3.heap.size, 0, none⟩ 1 1 [.int .i64 x.a.dev, .int .i64 x.a.inc, .int .i64 x.seq] rfl rfl (cells_new _ _ _) (by simp [Value.oneCell']) (by unfold maxLen; omega) (by omega) (by simp; omega) ?_; intro v2 w4 hown4 hgrow _)
   have hb4 : Below W3.heap.size W3 (W3.alloc (.cells #[.int .i64 x.a.dev, .int .i64 x.a.inc, .int .i64 x.seq] 35)) := (Below.refl _ _).alloc (Nat.le_refl _) _
   have hrg4 : TabIt Tryz.prog 35 dotVal DotW intVal w4 b.db w.heap.size (ones s.dead) rest' cnt2 := by
        have h4 := hrg3.kept hb4
        have hlo : b.db < w.heap.size + 1 := by have := HBK.out; omega
        exact h4.block (hgrow.block _ h4.tab.lt (fun e => by have := (hown3.lt _ e.symm).1; omega)) (hgrow.block _ h4.lt (fun e => by have := (hown3.lt _ e.symm).1; omega))
   have HZ := Lib.hid (And.intro (show w4.ownsRow (w.heap.size + 1) 35 3 v2 (ks ++ [x]).length (dotVals (ks ++ [x])) by rw [dotVals_snoc, List.length_append]; exact hown4) (And.intro hrg4 ((hbw3.trans (hb4.mono hbw3.size)).grown hgrow (by simp; omega) (fun j hj => by have := (hown3.lt j hj).1; omega))))
   clear hown4 hrg4 hgrow hown3 hrg3 y0 y1 y2
   go_wp2
   go_roundw
   case rel => exact ⟨rest', cnt2, ks ++ [x], HZ.out.2.1, HC2.out, HZ.out.1, HZ.out.2.2⟩
   case measure => rw [HZ.out.2.1.left_eq, HLE.out]; exact hlt
  ·intro hr0
   subst hr0
   have hperm : ks.Perm ((ones s.dead).map (·.1)) := by simpa using hC
   have hkl : ks.length ≤ 1073741824 := by have := hperm.length_eq; simp at this; omega
   obtain ⟨aL, cL, rfl, hinL⟩ := own_dots hown
   rw [ones_keys] at hperm
   have HS := Lib.hid (dotSort_any aL cL ks wr hkl (fun d hd => hdk d (hperm.mem_iff.1 hd)) hinL)
   have HE : Hid (sortD s.dead = sortD ks) := sortD_congr (fun x => hperm.mem_iff.symm)
   clear hperm hinL hown hrg hC
   go_wp2_with (go_at_call 95; (with_reducible refine HS.out.mono ?_); rintro x w5 ⟨v5, rfl, h1, h2, h3⟩)
   go_ret
   exact ⟨v5, rfl, by rw [HE.out]; exact own_low h1 hbw.size, by rw [HE.out]; exact h2, hbw.trans (h3.mono hbw.size)⟩
def lessK (K : List EvIt) (d : Dot) : List EvIt := K.filter fun y => decide (y.1.dot ≠ d)
/-- may the event of a dot be forgotten? -/
def fgOk (s : MS) (d : Dot) : Bool := s.K.any fun x => decide (x.1.dot = d) && (!decide (x.1.kind = 1) || decide (d ∈ s.dead))
def fgMS (s : MS) (d : Dot) : MS := if fgOk s d = true then { s with K := lessK s.K d } else s
theorem keep_perm : ∀ {K : List EvIt} {x : EvIt}, (K.map (·.1.dot)).Nodup → x ∈ K → K.Perm (x :: lessK K x.1.dot)
 | [], _, _, h => (nomatch h)
 | y :: K, x, hn, hx => by
   rw [List.map_cons, List.nodup_cons] at hn
   rcases List.mem_cons.1 hx with rfl | hx2
   ·have : lessK (x :: K) x.1.dot = K := by
        unfold lessK
        rw [List.filter_cons_of_neg (by simp)]
        refine List.filter_eq_self.2 fun z hz => decide_eq_true fun e => hn.1 (List.mem_map.2 ⟨z, hz, e⟩)
    rw [this]
   ·have hne : y.1.dot ≠ x.1.dot := fun e => hn.1 (List.mem_map.2 ⟨x, hx2, e.symm⟩)
    have : lessK (y :: K) x.1.dot = y :: lessK K x.1.dot := by
        unfold lessK
        rw [List.filter_cons_of_pos (by simpa using hne)]
    rw [this]
    exact ((keep_perm hn.2 hx2).cons y).trans (List.Perm.swap ..)
theorem KTab.nodup {w : World} {b : Nat} {K : List EvIt} (h : KTab w b K) : (K.map (·.1.dot)).Nodup := by
 have := List.pairwise_map.1 h.apart
 exact List.pairwise_map.2 this
theorem KTab.drop {w : World} {b : Nat} {K : List EvIt} (h : KTab w b K) {x : EvIt} (hx : x ∈ K) (ty : TypeId) :
 ∃ w', (Builtin.delete_ #[103, 35] ty #[.map (some b), dotVal x.1.dot]).run Tryz.prog w = .ok (.tuple #[]) w' ∧ KTab w' b (lessK K x.1.dot) ∧ Fr (isR b) w w' := by
 have hp := (keep_perm h.nodup hx).map fun x : EvIt => (x.1.dot, x)
 exact Tab.drop_old kDot (Tab.perm h hp) Tryz.underlying103 ty
theorem fgOk_at {w : World} {b : Nat} {s : MS} (h : KTab w b s.K) {x : EvIt} (hx : x ∈ s.K) : fgOk s x.1.dot = (!decide (x.1.kind = 1) || decide (x.1.dot ∈ s.dead)) := by
 unfold fgOk
 rw [Bool.eq_iff_iff, List.any_eq_true]
 constructor
 ·rintro ⟨y, hy, h2⟩
  rw [Bool.and_eq_true, decide_eq_true_eq] at h2
  have hp := (keep_perm h.nodup hx).mem_iff.1 hy
  rcases List.mem_cons.1 hp with rfl | hp
  ·exact h2.2
  ·have := (List.mem_filter.1 hp).2
   rw [decide_eq_true_eq] at this
   exact absurd h2.1 this
 ·intro h2
  exact ⟨x, hx, by rw [Bool.and_eq_true, decide_eq_true_eq]; exact ⟨rfl, h2⟩⟩
theorem fgOk_no {s : MS} {d : Dot} (h : ∀ y ∈ s.K, y.1.dot ≠ d) : fgOk s d = false := by
 unfold fgOk
 rw [List.any_eq_false]
 intro y hy h2
 rw [Bool.and_eq_true, decide_eq_true_eq] at h2
 exact h y hy h2.1
def RetFg (m : Nat) (b : MB) (s : MS) (d : Dot) (w : World) (x : Ending) (w' : World) : Prop :=
 x = .returned (.bool (fgOk s d)) ∧ MpIn w' m b (fgMS s d) ∧ Fr (isR b.kb) w w'
theorem mForget_any {m : Nat} {b : MB} {s : MS} (d : Dot) (hd : DotW d) (w : World) (h : MpIn w m b s) :
 Calls Tryz.prog 19 #[.pointer (some ⟨m, 0, none⟩), dotVal d] w (RetFg m b s d w) := by
 have HH := Lib.hid h
 have HD := Lib.hid (fun (X : World) (h : MpIn X m b s) => mDead_any d hd X h)
 go_enter Tryz.func19, Tryz.ntmps19
 go_upto_region 3 with fail
 refine wp_name (fun W hW => ?_)
 have hbw : Below w.heap.size w W := by rw [hW.out]; go_grown
 have h2 : MpIn W.drew m b s := (h.kept_w hbw).kept_w (Below.refl _ _).drew
 have x0 : W.drew.cell? ⟨w.heap.size, 0, none⟩ = some (.int .i64 d.a.dev) := by rw [hW.out]; go_simp
 have x1 : W.drew.cell? ⟨w.heap.size, 1, none⟩ = some (.int .i64 d.a.inc) := by rw [hW.out]; go_simp
 have x2 : W.drew.cell? ⟨w.heap.size, 2, none⟩ = some (.int .i64 d.seq) := by rw [hW.out]; go_simp
 have xm : W.drew.cell? ⟨m, 0, none⟩ = some (.map (some b.kb)) := (four_cells h2.cell).1
 clear hW h
 obtain ⟨x, ok, hlk, hcase⟩ : ∃ (x : EvIt) (ok : Bool), (∀ X : World, KTab X b.kb s.K → (Instr.lookup 103 (.map (some b.kb)) (dotVal d) true).run Tryz.prog X = .ok (.tuple #[evV x, .bool ok]) X) ∧ ((ok = true ∧ x ∈ s.K ∧ x.1.dot = d) ∨ (ok = false ∧ ∀ y ∈ s.K, y.1.dot ≠ d)) := by
  rcases KTab.look h2.kept hd with ⟨x, hx, hxd, hX⟩ | ⟨hno, hX⟩
  ·exact ⟨x, true, hX, Or.inl ⟨rfl, hx, hxd⟩⟩
  ·exact ⟨(ev0, none, 0), false, hX, Or.inr ⟨rfl, hno⟩⟩
 obtain ⟨e, ea, ec⟩ := x
 have hl2 := hlk W.drew h2.kept
 have HC := Lib.hid hcase
 clear hcase
 refine wp_region_noPanic ?_
 refine wp_region_late (fun X => Below W.drew.heap.size W.drew X) [] (by kernel_rfl) ?_
 have hb0 : Below W.drew.heap.size W.drew W.drew := Below.refl _ _
 refine wpAnyL_take (i := 0) (oi := ⟨some 10, _, _, _, _, _⟩) (v := ?_) rfl (by kernel_rfl) (by kernel_rfl) (by kernel_rfl) (by kernel_rfl) (by kernel_rfl) (fun _ _ _ h => h) (Or.inl ⟨by rfl, ?_⟩) (by assumption) ?_
 case refine_2 => (rintro w hSw; have s0 := kept hSw x0; have s1 := kept hSw x1; have s2 := kept hSw x2; have sm := kept hSw xm; have sl := hlk w (h2.kept.kept hSw); go_simp; try with_reducible rfl)
 try simp only [pS]
 refine wpAnyL_take (i := 1) (oi := ⟨some 11, _, _, _, _, _⟩) (v := ?_) rfl (by kernel_rfl) (by kernel_rfl) (by kernel_rfl) (by kernel_rfl) (by kernel_rfl) (fun _ _ _ h => h) (Or.inl ⟨by rfl, ?_⟩) (by assumption) ?_
 case refine_2 => (rintro w hSw; have s0 := kept hSw x0; have s1 := kept hSw x1; have s2 := kept hSw x2; have sm := kept hSw xm; have sl := hlk w (h2.kept.kept hSw); go_simp; try with_reducible rfl)
 try simp only [pS]
 refine wpAnyL_take (i := 2) (oi := ⟨some 12, _, _, _, _, _⟩) (v := ?_) rfl (by kernel_rfl) (by kernel_rfl) (by kernel_rfl) (by kernel_rfl) (by kernel_rfl) (fun _ _ _ h => h) (Or.inl ⟨by rfl, ?_⟩) (by assumption) ?_
 case refine_2 => (rintro w hSw; have s0 := kept hSw x0; have s1 := kept hSw x1; have s2 := kept hSw x2; have sm := kept hSw xm; have sl := hlk w (h2.kept.kept hSw); go_simp; try with_reducible rfl)
 try simp only [pS]
 refine wpAnyL_take (i := 3) (oi := ⟨some 13, _, _, _, _, _⟩) (v := ?_) rfl (by kernel_rfl) (by kernel_rfl) (by kernel_rfl) (by kernel_rfl) (by kernel_rfl) (fun _ _ _ h => h) (Or.inl ⟨by rfl, ?_⟩) (by assumption) ?_
 case refine_2 => (rintro w hSw; have s0 := kept hSw x0; have s1 := kept hSw x1; have s2 := kept hSw x2; have sm := kept hSw xm; have sl := hlk w (h2.kept.kept hSw); go_simp; try with_reducible rfl)
 try simp only [pS]
 refine wpAnyL_take (i := 4) (oi := ⟨some 14, _, _, _, _, _⟩) (v := ?_) rfl (by kernel_rfl) (by kernel_rfl) (by kernel_rfl) (by kernel_rfl) (by kernel_rfl) (fun _ _ _ h => h) (Or.inl ⟨by rfl, ?_⟩) (by assumption) ?_
 case refine_2 => (rintro w hSw; have s0 := kept hSw x0; have s1 := kept hSw x1; have s2 := kept hSw x2; have sm := kept hSw xm; have sl := hlk w (h2.kept.kept hSw); go_simp; try with_reducible rfl)
 try simp only [pS]
 refine wpAnyL_take (i := 5) (oi := ⟨some 15, _, _, _, _, _⟩) (v := ?_) rfl (by kernel_rfl) (by kernel_rfl) (by kernel_rfl) (by kernel_rfl) (by kernel_rfl) (fun _ _ _ h => h) (Or.inl ⟨by rfl, ?_⟩) (by assumption) ?_
 case refine_2 => (rintro w hSw; have s0 := kept hSw x0; have s1 := kept hSw x1; have s2 := kept hSw x2; have sm := kept hSw xm; have sl := hlk w (h2.kept.kept hSw); go_simp; try with_reducible rfl)
 try simp only [pS]
 refine wpAnyL_take (i := 6) (oi := ⟨some 9, _, _, _, _, _⟩) (v := ?_) rfl (by kernel_rfl) (by kernel_rfl) (by kernel_rfl) (by kernel_rfl) (by kernel_rfl) (fun _ _ _ h => h) (Or.inl ⟨by rfl, ?_⟩) (by assumption) ?_
 case refine_2 => (rintro w hSw; have s0 := kept hSw x0; have s1 := kept hSw x1; have s2 := kept hSw x2; have sm := kept hSw xm; have sl := hlk w (h2.kept.kept hSw); go_simp; try with_reducible rfl)
 try simp only [pS]
 refine wpAnyL_take (i := 7) (oi := ⟨some 16, _, _, _, _, _⟩) (v := ?_) rfl (by kernel_rfl) (by kernel_rfl) (by kernel_rfl) (by kernel_rfl) (by kernel_rfl) (fun _ _ _ h => h) (Or.inl ⟨by rfl, ?_⟩) (by assumption) ?_
 case refine_2 => (rintro w hSw; have s0 := kept hSw x0; have s1 := kept hSw x1; have s2 := kept hSw x2; have sm := kept hSw xm; have sl := hlk w (h2.kept.kept hSw); go_simp; try with_reducible rfl)
 try simp only [pS]
 refine wpAnyL_take (i := 8) (oi := ⟨some 17, _, _, _, _, _⟩) (v := ?_) rfl (by kernel_rfl) (by kernel_rfl) (by kernel_rfl) (by kernel_rfl) (by kernel_rfl) (fun _ _ _ h => h) (Or.inl ⟨by rfl, ?_⟩) (by assumption) ?_
 case refine_2 => (rintro w hSw; have s0 := kept hSw x0; have s1 := kept hSw x1; have s2 := kept hSw x2; have sm := kept hSw xm; have sl := hlk w (h2.kept.kept hSw); go_simp; try with_reducible rfl)
 try simp only [pS]
 refine wpAnyL_one (i := 9) (o := ⟨some 5, _, _, _, _, _⟩) (by kernel_rfl) rfl ?_
 intro K hK
 go_simp
 refine hK.out _ _ (Or.inr (below_allocD W _)) ?_
 clear hK K
 try simp only [pS]
 refine wpAnyL_one (i := 10) (o := ⟨none, _, _, _, _, _⟩) (by kernel_rfl) rfl ?_
 intro K hK
 refine step_store_newD (by rfl) 43 (.tmp 5) (.tmp 16) rfl W _ (evCells e ea ec).toArray rfl rfl rfl (by kernel_rfl) rfl (by kernel_rfl) ?_
 refine hK.out _ _ (Or.inr (below_allocD W _)) ?_
 clear hK K
 try simp only [pS]
 refine wpAnyL_one (i := 11) (o := ⟨some 6, _, _, _, _, _⟩) (by kernel_rfl) rfl ?_
 intro K hK
 go_simp
 refine hK.out _ _ (Or.inr (below_allocD W _)) ?_
 clear hK K
 try simp only [pS]
 refine wpAnyL_done (by kernel_rfl) ?_ _
 refine NoPanic.normal ?_
 obtain ⟨W4, hW4⟩ : ∃ W4, W4 = (W.alloc (Obj.cells (evCells e ea ec).toArray 43)).drew := ⟨_, rfl⟩
 rw [← hW4]
 have hR : W4.rangeAt W.heap.size 0 (evCells e ea ec) := by rw [hW4]; exact evCells_box e ea ec W _
 have hb4 : Below W.drew.heap.size W.drew W4 := by rw [hW4]; exact below_allocD W _
 clear hW4 hl2 hlk hb0
 have h4 := h2.kept_w hb4
 replace x0 := kept hb4 x0
 replace x1 := kept hb4 x1
 replace x2 := kept hb4 x2
 have hf : Below w.heap.size w W4 := hbw.trans ((below_undrew hb4).mono hbw.size)
 have v6 : W4.cell? ⟨W.heap.size, 6, none⟩ = some (.int .i64 e.kind) := by have := hR 6 _ rfl; rwa [Nat.zero_add] at this
 have HF := Lib.hid hf
 have H4 := Lib.hid h4
 clear hR xm h2 hb4 hf hbw
 rcases HC.out with ⟨rfl, hxK, hxd⟩ | ⟨rfl, hno⟩
 case inr =>
  have HE : Hid (fgOk s d = false) := fgOk_no hno
  clear hno HC h4
  go_wp2
  all_goals
   go_ret
   exact ⟨by rw [HE.out]; rfl, by unfold fgMS; rw [HE.out]; exact H4.out, Fr.of_below HF.out⟩
 have HE : Hid (fgOk s d = (!decide (e.kind = 1) || decide (d ∈ s.dead))) := by have := fgOk_at h4.kept hxK; rw [hxd] at this; exact this
 have HX := Lib.hid (And.intro hxK hxd)
 clear hxK hxd HC
 obtain ⟨q, hq⟩ : ∃ q, q = decide (d ∈ s.dead) := ⟨_, rfl⟩
 rw [← hq] at HD HE
 clear hq
 by_cases hk : e.kind = 1
 ·have hkb : (e.kind == 1) = true := by rw [hk]; rfl
  cases q with
  | true =>
    have HT : Hid (fgOk s d = true) := by rw [Hid, HE.out]; simp
    clear HE hk
    go_upto_region 6 with (go_at_call 66; (with_reducible refine (HD.out _ h4).mono ?_); rintro x w5 ⟨rfl, hb5⟩)
    have y0 := kept hb5 x0
    have y1 := kept hb5 x1
    have y2 := kept hb5 x2
    have hm5 := h4.kept_w hb5
    have ym := (four_cells hm5.cell).1
    have hf5 : Below w.heap.size w w5 := HF.out.trans (hb5.mono HF.out.size)
    clear hb5 x0 x1 x2 v6 h4
    obtain ⟨w6, hrun6, htab6, hfr6⟩ := KTab.drop (w := w5.drew) (hm5.kept_w (Below.refl _ _).drew).kept HX.out.1 0
    rw [show (e, ea, ec).1.dot = d from HX.out.2] at hrun6 htab6
    replace hfr6 : Fr (isR b.kb) w5 w6 := hfr6.undrew
    have hK6 := hm5.keeps hfr6 (fun i hi => by subst hi; exact foot_kb b _)
    have HM := Lib.hid (hm5.setKept htab6 (fun x hx => hK6.dots (hm5.overs x (List.mem_filter.1 hx).1)) hfr6)
    have HFF := Lib.hid ((Fr.of_below hf5 : Fr (isR b.kb) w w5).again hfr6)
    clear htab6 hfr6 hK6 hm5 hf5
    refine wp_region_noPanic ?_
    refine wp_region_late (fun W' => (W'.cell? ⟨w.heap.size, 0, none⟩ = some (.int .i64 d.a.dev) ∧ W'.cell? ⟨w.heap.size, 1, none⟩ = some (.int .i64 d.a.inc) ∧ W'.cell? ⟨w.heap.size, 2, none⟩ = some (.int .i64 d.seq)) ∧ W'.cell? ⟨m, 0, none⟩ = some (.map (some b.kb))) [5] (by kernel_rfl) ?_
    have hS := And.intro (And.intro (show w5.drew.cell? _ = _ from y0) (And.intro (show w5.drew.cell? _ = _ from y1) (show w5.drew.cell? _ = _ from y2))) (show w5.drew.cell? _ = _ from ym)
    refine wpAnyL_take (i := 0) (oi := ⟨some 31, _, _, _, _, _⟩) (v := ?_) rfl (by kernel_rfl) (by kernel_rfl) (by kernel_rfl) (by kernel_rfl) (by kernel_rfl) (fun _ _ _ h => h) (Or.inl ⟨by rfl, ?_⟩) (by assumption) ?_
    case refine_2 => (rintro w ⟨⟨s0, s1, s2⟩, sm⟩; go_simp; try with_reducible rfl)
    try simp only [pS]
    refine wpAnyL_take (i := 1) (oi := ⟨some 32, _, _, _, _, _⟩) (v := ?_) rfl (by kernel_rfl) (by kernel_rfl) (by kernel_rfl) (by kernel_rfl) (by kernel_rfl) (fun _ _ _ h => h) (Or.inl ⟨by rfl, ?_⟩) (by assumption) ?_
    case refine_2 => (rintro w ⟨⟨s0, s1, s2⟩, sm⟩; go_simp; try with_reducible rfl)
    try simp only [pS]
    refine wpAnyL_take (i := 2) (oi := ⟨some 33, _, _, _, _, _⟩) (v := ?_) rfl (by kernel_rfl) (by kernel_rfl) (by kernel_rfl) (by kernel_rfl) (by kernel_rfl) (fun _ _ _ h => h) (Or.inl ⟨by rfl, ?_⟩) (by assumption) ?_
    case refine_2 => (rintro w ⟨⟨s0, s1, s2⟩, sm⟩; go_simp; try with_reducible rfl)
    try simp only [pS]
    refine wpAnyL_take (i := 3) (oi := ⟨some 34, _, _, _, _, _⟩) (v := ?_) rfl (by kernel_rfl) (by kernel_rfl) (by kernel_rfl) (by kernel_rfl) (by kernel_rfl) (fun _ _ _ h => h) (Or.inl ⟨by rfl, ?_⟩) (by assumption) ?_
    case refine_2 => (rintro w ⟨⟨s0, s1, s2⟩, sm⟩; go_simp; try with_reducible rfl)
    try simp only [pS]
    refine wpAnyL_take (i := 4) (oi := ⟨some 35, _, _, _, _, _⟩) (v := ?_) rfl (by kernel_rfl) (by kernel_rfl) (by kernel_rfl) (by kernel_rfl) (by kernel_rfl) (fun _ _ _ h => h) (Or.inl ⟨by rfl, ?_⟩) (by assumption) ?_
    case refine_2 => (rintro w ⟨⟨s0, s1, s2⟩, sm⟩; go_simp; try with_reducible rfl)
    try simp only [pS]
    refine wpAnyL_one (i := 5) (o := ⟨none, _, _, _, _, _⟩) (by kernel_rfl) rfl ?_
    intro K hK
    go_simp
    refine hK.out _ _ (Or.inl (by kernel_rfl)) ?_
    clear hK K
    try simp only [pS]
    refine wpAnyL_done (by kernel_rfl) ?_ _
    refine NoPanic.normal ?_
    clear hS hrun6 y0 y1 y2 ym
    go_wp2
    go_ret
    exact ⟨by rw [HT.out]; rfl, by unfold fgMS; rw [HT.out]; exact HM.out, HFF.out⟩
  | false =>
    have HT : Hid (fgOk s d = false) := by rw [Hid, HE.out, decide_eq_true hk]; rfl
    clear HE hk
    go_wp2_with (go_at_call 66; (with_reducible refine (HD.out _ h4).mono ?_); rintro x w5 ⟨rfl, hb5⟩)
    go_ret
    exact ⟨by rw [HT.out]; rfl, by unfold fgMS; rw [HT.out]; exact H4.out.kept_w hb5, Fr.of_below (HF.out.trans (hb5.mono HF.out.size))⟩
 ·have hkb : (e.kind == 1) = false := by rw [beq_eq_false_iff_ne]; exact hk
  have HT : Hid (fgOk s d = true) := by rw [Hid, HE.out, decide_eq_false hk]; rfl
  clear HE hk
  go_upto_region 6 with fail
  have y0 := x0
  have y1 := x1
  have y2 := x2
  have hm5 := h4
  have ym := (four_cells hm5.cell).1
  have hf5 := HF.out
  clear x0 x1 x2 v6 h4
  obtain ⟨w6, hrun6, htab6, hfr6⟩ := KTab.drop (w := W4.drew) (hm5.kept_w (Below.refl _ _).drew).kept HX.out.1 0
  rw [show (e, ea, ec).1.dot = d from HX.out.2] at hrun6 htab6
  replace hfr6 : Fr (isR b.kb) W4 w6 := hfr6.undrew
  have hK6 := hm5.keeps hfr6 (fun i hi => by subst hi; exact foot_kb b _)
  have HM := Lib.hid (hm5.setKept htab6 (fun x hx => hK6.dots (hm5.overs x (List.mem_filter.1 hx).1)) hfr6)
  have HFF := Lib.hid ((Fr.of_below hf5 : Fr (isR b.kb) w W4).again hfr6)
  clear htab6 hfr6 hK6 hm5 hf5
  refine wp_region_noPanic ?_
  refine wp_region_late (fun W' => (W'.cell? ⟨w.heap.size, 0, none⟩ = some (.int .i64 d.a.dev) ∧ W'.cell? ⟨w.heap.size, 1, none⟩ = some (.int .i64 d.a.inc) ∧ W'.cell? ⟨w.heap.size, 2, none⟩ = some (.int .i64 d.seq)) ∧ W'.cell? ⟨m, 0, none⟩ = some (.map (some b.kb))) [5] (by kernel_rfl) ?_
  have hS := And.intro (And.intro (show W4.drew.cell? _ = _ from y0) (And.intro (show W4.drew.cell? _ = _ from y1) (show W4.drew.cell? _ = _ from y2))) (show W4.drew.cell? _ = _ from ym)
  refine wpAnyL_take (i := 0) (oi := ⟨some 31, _, _, _, _, _⟩) (v := ?_) rfl (by kernel_rfl) (by kernel_rfl) (by kernel_rfl) (by kernel_rfl) (by kernel_rfl) (fun _ _ _ h => h) (Or.inl ⟨by rfl, ?_⟩) (by assumption) ?_
  case refine_2 => (rintro w ⟨⟨s0, s1, s2⟩, sm⟩; go_simp; try with_reducible rfl)
  try simp only [pS]
  refine wpAnyL_take (i := 1) (oi := ⟨some 32, _, _, _, _, _⟩) (v := ?_) rfl (by kernel_rfl) (by kernel_rfl) (by kernel_rfl) (by kernel_rfl) (by kernel_rfl) (fun _ _ _ h => h) (Or.inl ⟨by rfl, ?_⟩) (by assumption) ?_
  case refine_2 => (rintro w ⟨⟨s0, s1, s2⟩, sm⟩; go_simp; try with_reducible rfl)
  try simp only [pS]
  refine wpAnyL_take (i := 2) (oi := ⟨some 33, _, _, _, _, _⟩) (v := ?_) rfl (by kernel_rfl) (by kernel_rfl) (by kernel_rfl) (by kernel_rfl) (by kernel_rfl) (fun _ _ _ h => h) (Or.inl ⟨by rfl, ?_⟩) (by assumption) ?_
  case refine_2 => (rintro w ⟨⟨s0, s1, s2⟩, sm⟩; go_simp; try with_reducible rfl)
  try simp only [pS]
  refine wpAnyL_take (i := 3) (oi := ⟨some 34, _, _, _, _, _⟩) (v := ?_) rfl (by kernel_rfl) (by kernel_rfl) (by kernel_rfl) (by kernel_rfl) (by kernel_rfl) (fun _ _ _ h => h) (Or.inl ⟨by rfl, ?_⟩) (by assumption) ?_
  case refine_2 => (rintro w ⟨⟨s0, s1, s2⟩, sm⟩; go_simp; try with_reducible rfl)
  try simp only [pS]
  refine wpAnyL_take (i := 4) (oi := ⟨some 35, _, _, _, _, _⟩) (v := ?_) rfl (by kernel_rfl) (by kernel_rfl) (by kernel_rfl) (by kernel_rfl) (by kernel_rfl) (fun _ _ _ h => h) (Or.inl ⟨by rfl, ?_⟩) (by assumption) ?_
  case refine_2 => (rintro w ⟨⟨s0, s1, s2⟩, sm⟩; go_simp; try with_reducible rfl)
  try simp only [pS]
  refine wpAnyL_one (i := 5) (o := ⟨none, _, _, _, _, _⟩) (by kernel_rfl) rfl ?_
  intro K hK
  go_simp
  refine hK.out _ _ (Or.inl (by kernel_rfl)) ?_
  clear hK K
  try simp only [pS]
  refine wpAnyL_done (by kernel_rfl) ?_ _
  refine NoPanic.normal ?_
  clear hS hrun6 y0 y1 y2 ym
  go_wp2
  go_ret
  exact ⟨by rw [HT.out]; rfl, by unfold fgMS; rw [HT.out]; exact HM.out, HFF.out⟩
def inK (K : List EvIt) (d : Dot) : Bool := K.any fun x => decide (x.1.dot = d)
theorem inK_yes {K : List EvIt} {x : EvIt} (h : x ∈ K) : inK K x.1.dot = true := List.any_eq_true.2 ⟨x, h, decide_eq_true rfl⟩
theorem inK_no {K : List EvIt} {d : Dot} (h : ∀ y ∈ K, y.1.dot ≠ d) : inK K d = false := by
 unfold inK
 rw [List.any_eq_false]
 intro y hy h2
 exact h y hy (of_decide_eq_true h2)
/-- may a dead dot be cleared? -/
def clOk (s : MS) (d : Dot) : Bool := decide (d ∈ s.dead) && (hasM s.ctx d && !inK s.K d)
def clMS (s : MS) (d : Dot) : MS := if clOk s d = true then { s with dead := s.dead.filter fun x => decide (x ≠ d) } else s
def RetCl (m : Nat) (b : MB) (s : MS) (d : Dot) (w : World) (x : Ending) (w' : World) : Prop :=
 x = .returned (.bool (clOk s d)) ∧ MpIn w' m b (clMS s d) ∧ Fr (isR b.db) w w'
theorem mClear_any {m : Nat} {b : MB} {s : MS} (d : Dot) (hd : DotW d) (w : World) (h : MpIn w m b s) :
 Calls Tryz.prog 23 #[.pointer (some ⟨m, 0, none⟩), dotVal d] w (RetCl m b s d w) := by
 have HD := Lib.hid (fun (X : World) (h : MpIn X m b s) => mDead_any d hd X h)
 have HS := Lib.hid (fun (X : World) (h : MpIn X m b s) => mHas_any d X h)
 have HE : Hid (clOk s d = (decide (d ∈ s.dead) && (hasM s.ctx d && !inK s.K d))) := rfl
 obtain ⟨q1, hq1⟩ : ∃ q, q = decide (d ∈ s.dead) := ⟨_, rfl⟩
 obtain ⟨q2, hq2⟩ : ∃ q, q = hasM s.ctx d := ⟨_, rfl⟩
 rw [← hq1] at HD HE
 rw [← hq2] at HS HE
 clear hq1 hq2
 go_enter Tryz.func23, Tryz.ntmps23
 go_upto_region 1 with fail
 refine wp_name (fun W hW => ?_)
 have hbw : Below w.heap.size w W := by rw [hW.out]; go_grown
 have h1 : MpIn W m b s := h.kept_w hbw
 have x0 : W.cell? ⟨w.heap.size, 0, none⟩ = some (.int .i64 d.a.dev) := by rw [hW.out]; go_simp
 have x1 : W.cell? ⟨w.heap.size, 1, none⟩ = some (.int .i64 d.a.inc) := by rw [hW.out]; go_simp
 have x2 : W.cell? ⟨w.heap.size, 2, none⟩ = some (.int .i64 d.seq) := by rw [hW.out]; go_simp
 clear hW h
 cases q1 with
 | false =>
   have HT : Hid (clOk s d = false) := by rw [Hid, HE.out]; rfl
   clear HE
   go_wp2_with (go_at_call 66; (with_reducible refine (HD.out _ h1).mono ?_); rintro x w5 ⟨rfl, hb5⟩)
   go_ret
   exact ⟨by rw [HT.out]; rfl, by unfold clMS; rw [HT.out]; exact h1.kept_w hb5, Fr.of_below (hbw.trans (hb5.mono hbw.size))⟩
 | true =>
   cases q2 with
   | false =>
     have HT : Hid (clOk s d = false) := by rw [Hid, HE.out]; rfl
     clear HE
     go_wp2_with (first
        | (go_at_call 66; (with_reducible refine (HD.out _ h1).mono ?_); rintro x w5 ⟨rfl, hb5⟩; have h5 := h1.kept_w hb5; replace x0 := kept hb5 x0; replace x1 := kept hb5 x1; replace x2 := kept hb5 x2; have hbw5 := hbw.trans (hb5.mono hbw.size))
        | (go_at_call 83; (with_reducible refine (HS.out _ h5).mono ?_); rintro x w6 ⟨rfl, hb6⟩))
     go_ret
     exact ⟨by rw [HT.out]; rfl, by unfold clMS; rw [HT.out]; exact h5.kept_w hb6, Fr.of_below (hbw5.trans (hb6.mono hbw5.size))⟩
   | true =>
     go_upto_region 3 with (first
        | (go_at_call 66; (with_reducible refine (HD.out _ h1).mono ?_); rintro x w5 ⟨rfl, hb5⟩; have h5 := h1.kept_w hb5; replace x0 := kept hb5 x0; replace x1 := kept hb5 x1; replace x2 := kept hb5 x2; have hbw5 := hbw.trans (hb5.mono hbw.size))
        | (go_at_call 83; (with_reducible refine (HS.out _ h5).mono ?_); rintro x W9 ⟨rfl, hb6⟩; have h6 := h5.kept_w hb6; replace x0 := kept hb6 x0; replace x1 := kept hb6 x1; replace x2 := kept hb6 x2; have hbw6 := hbw5.trans (hb6.mono hbw5.size)))
     clear h1 h5 hb5 hb6 hbw hbw5 HD HS
     have h2 : MpIn W9.drew m b s := h6.kept_w (Below.refl _ _).drew
     have xm : W9.drew.cell? ⟨m, 0, none⟩ = some (.map (some b.kb)) := (four_cells h2.cell).1
     replace x0 : W9.drew.cell? _ = _ := x0
     replace x1 : W9.drew.cell? _ = _ := x1
     replace x2 : W9.drew.cell? _ = _ := x2
     obtain ⟨x, ok, hlk, hcase⟩ : ∃ (x : EvIt) (ok : Bool), (∀ X : World, KTab X b.kb s.K → (Instr.lookup 103 (.map (some b.kb)) (dotVal d) true).run Tryz.prog X = .ok (.tuple #[evV x, .bool ok]) X) ∧ ok = inK s.K d := by
        rcases KTab.look h2.kept hd with ⟨x, hx, hxd, hX⟩ | ⟨hno, hX⟩
        ·exact ⟨x, true, hX, by rw [← hxd, inK_yes hx]⟩
        ·exact ⟨(ev0, none, 0), false, hX, by rw [inK_no hno]⟩
     obtain ⟨e, ea, ec⟩ := x
     have hl2 := hlk W9.drew h2.kept
     rw [← hcase] at HE
     clear hcase h6
     refine wp_region_noPanic ?_
     refine wp_region_late (fun X => Below W9.drew.heap.size W9.drew X) [] (by kernel_rfl) ?_
     have hb0 : Below W9.drew.heap.size W9.drew W9.drew := Below.refl _ _
     refine wpAnyL_take (i := 0) (oi := ⟨some 18, _, _, _, _, _⟩) (v := ?_) rfl (by kernel_rfl) (by kernel_rfl) (by kernel_rfl) (by kernel_rfl) (by kernel_rfl) (fun _ _ _ h => h) (Or.inl ⟨by rfl, ?_⟩) (by assumption) ?_
     case refine_2 => (rintro w hSw; have s0 := kept hSw x0; have s1 := kept hSw x1; have s2 := kept hSw x2; have sm := kept hSw xm; have sl := hlk w (h2.kept.kept hSw); go_simp; try with_reducible rfl)
     try simp only [pS]
     refine wpAnyL_take (i := 1) (oi := ⟨some 19, _, _, _, _, _⟩) (v := ?_) rfl (by kernel_rfl) (by kernel_rfl) (by kernel_rfl) (by kernel_rfl) (by kernel_rfl) (fun _ _ _ h => h) (Or.inl ⟨by rfl, ?_⟩) (by assumption) ?_
     case refine_2 => (rintro w hSw; have s0 := kept hSw x0; have s1 := kept hSw x1; have s2 := kept hSw x2; have sm := kept hSw xm; have sl := hlk w (h2.kept.kept hSw); go_simp; try with_reducible rfl)
     try simp only [pS]
     refine wpAnyL_take (i := 2) (oi := ⟨some 20, _, _, _, _, _⟩) (v := ?_) rfl (by kernel_rfl) (by kernel_rfl) (by kernel_rfl) (by kernel_rfl) (by kernel_rfl) (fun _ _ _ h => h) (Or.inl ⟨by rfl, ?_⟩) (by assumption) ?_
     case refine_2 => (rintro w hSw; have s0 := kept hSw x0; have s1 := kept hSw x1; have s2 := kept hSw x2; have sm := kept hSw xm; have sl := hlk w (h2.kept.kept hSw); go_simp; try with_reducible rfl)
     try simp only [pS]
     refine wpAnyL_take (i := 3) (oi := ⟨some 21, _, _, _, _, _⟩) (v := ?_) rfl (by kernel_rfl) (by kernel_rfl) (by kernel_rfl) (by kernel_rfl) (by kernel_rfl) (fun _ _ _ h => h) (Or.inl ⟨by rfl, ?_⟩) (by assumption) ?_
     case refine_2 => (rintro w hSw; have s0 := kept hSw x0; have s1 := kept hSw x1; have s2 := kept hSw x2; have sm := kept hSw xm; have sl := hlk w (h2.kept.kept hSw); go_simp; try with_reducible rfl)
     try simp only [pS]
     refine wpAnyL_take (i := 4) (oi := ⟨some 22, _, _, _, _, _⟩) (v := ?_) rfl (by kernel_rfl) (by kernel_rfl) (by kernel_rfl) (by kernel_rfl) (by kernel_rfl) (fun _ _ _ h => h) (Or.inl ⟨by rfl, ?_⟩) (by assumption) ?_
     case refine_2 => (rintro w hSw; have s0 := kept hSw x0; have s1 := kept hSw x1; have s2 := kept hSw x2; have sm := kept hSw xm; have sl := hlk w (h2.kept.kept hSw); go_simp; try with_reducible rfl)
     try simp only [pS]
     refine wpAnyL_take (i := 5) (oi := ⟨some 23, _, _, _, _, _⟩) (v := ?_) rfl (by kernel_rfl) (by kernel_rfl) (by kernel_rfl) (by kernel_rfl) (by kernel_rfl) (fun _ _ _ h => h) (Or.inl ⟨by rfl, ?_⟩) (by assumption) ?_
     case refine_2 => (rintro w hSw; have s0 := kept hSw x0; have s1 := kept hSw x1; have s2 := kept hSw x2; have sm := kept hSw xm; have sl := hlk w (h2.kept.kept hSw); go_simp; try with_reducible rfl)
     try simp only [pS]
     refine wpAnyL_take (i := 6) (oi := ⟨some 17, _, _, _, _, _⟩) (v := ?_) rfl (by kernel_rfl) (by kernel_rfl) (by kernel_rfl) (by kernel_rfl) (by kernel_rfl) (fun _ _ _ h => h) (Or.inl ⟨by rfl, ?_⟩) (by assumption) ?_
     case refine_2 => (rintro w hSw; have s0 := kept hSw x0; have s1 := kept hSw x1; have s2 := kept hSw x2; have sm := kept hSw xm; have sl := hlk w (h2.kept.kept hSw); go_simp; try with_reducible rfl)
     try simp only [pS]
     refine wpAnyL_take (i := 7) (oi := ⟨some 24, _, _, _, _, _⟩) (v := ?_) rfl (by kernel_rfl) (by kernel_rfl) (by kernel_rfl) (by kernel_rfl) (by kernel_rfl) (fun _ _ _ h => h) (Or.inl ⟨by rfl, ?_⟩) (by assumption) ?_
     case refine_2 => (rintro w hSw; have s0 := kept hSw x0; have s1 := kept hSw x1; have s2 := kept hSw x2; have sm := kept hSw xm; have sl := hlk w (h2.kept.kept hSw); go_simp; try with_reducible rfl)
     try simp only [pS]
     refine wpAnyL_take (i := 8) (oi := ⟨some 25, _, _, _, _, _⟩) (v := ?_) rfl (by kernel_rfl) (by kernel_rfl) (by kernel_rfl) (by kernel_rfl) (by kernel_rfl) (fun _ _ _ h => h) (Or.inl ⟨by rfl, ?_⟩) (by assumption) ?_
     case refine_2 => (rintro w hSw; have s0 := kept hSw x0; have s1 := kept hSw x1; have s2 := kept hSw x2; have sm := kept hSw xm; have sl := hlk w (h2.kept.kept hSw); go_simp; try with_reducible rfl)
     try simp only [pS]
     refine wpAnyL_one (i := 9) (o := ⟨some 5, _, _, _, _, _⟩) (by kernel_rfl) rfl ?_
     intro K hK
     go_simp
     refine hK.out _ _ (Or.inr (below_allocD W9 _)) ?_
     clear hK K
     try simp only [pS]
     refine wpAnyL_one (i := 10) (o := ⟨none, _, _, _, _, _⟩) (by kernel_rfl) rfl ?_
     intro K hK
     refine step_store_newD (by rfl) 43 (.tmp 5) (.tmp 24) rfl W9 _ (evCells e ea ec).toArray rfl rfl rfl (by kernel_rfl) rfl (by kernel_rfl) ?_
     refine hK.out _ _ (Or.inr (below_allocD W9 _)) ?_
     clear hK K
     try simp only [pS]
     refine wpAnyL_one (i := 11) (o := ⟨some 6, _, _, _, _, _⟩) (by kernel_rfl) rfl ?_
     intro K hK
     go_simp
     refine hK.out _ _ (Or.inr (below_allocD W9 _)) ?_
     clear hK K
     try simp only [pS]
     refine wpAnyL_done (by kernel_rfl) ?_ _
     refine NoPanic.normal ?_
     obtain ⟨W4, hW4⟩ : ∃ W4, W4 = (W9.alloc (Obj.cells (evCells e ea ec).toArray 43)).drew := ⟨_, rfl⟩
     rw [← hW4]
     have hb4 : Below W9.drew.heap.size W9.drew W4 := by rw [hW4]; exact below_allocD W9 _
     clear hW4 hl2 hlk hb0
     have hm5 := h2.kept_w hb4
     have y0 := kept hb4 x0
     have y1 := kept hb4 x1
     have y2 := kept hb4 x2
     have hf5 : Below w.heap.size w W4 := hbw6.trans ((below_undrew hb4).mono hbw6.size)
     clear x0 x1 x2 xm h2 hb4 hbw6
     cases ok with
     | true =>
       have HT : Hid (clOk s d = false) := by rw [Hid, HE.out]; rfl
       clear HE
       go_wp2
       go_ret
       exact ⟨by rw [HT.out]; rfl, by unfold clMS; rw [HT.out]; exact hm5, Fr.of_below hf5⟩
     | false =>
       have HT : Hid (clOk s d = true) := by rw [Hid, HE.out]; rfl
       clear HE
       have ym := (four_cells hm5.cell).2.2.1
       go_upto_region 6 with fail
       obtain ⟨w6, hrun6, htab6, hfr6⟩ := DTab.drop (w := W4.drew) (hm5.kept_w (Below.refl _ _).drew).dead hd 0
       replace hfr6 : Fr (isR b.db) W4 w6 := hfr6.undrew
       have HM := Lib.hid (hm5.setDead htab6 hfr6)
       have HFF := Lib.hid ((Fr.of_below hf5 : Fr (isR b.db) w W4).again hfr6)
       clear htab6 hfr6 hm5 hf5
       refine wp_region_noPanic ?_
       refine wp_region_late (fun W' => (W'.cell? ⟨w.heap.size, 0, none⟩ = some (.int .i64 d.a.dev) ∧ W'.cell? ⟨w.heap.size, 1, none⟩ = some (.int .i64 d.a.inc) ∧ W'.cell? ⟨w.heap.size, 2, none⟩ = some (.int .i64 d.seq)) ∧ W'.cell? ⟨m, 2, none⟩ = some (.map (some b.db))) [5] (by kernel_rfl) ?_
       have hS := And.intro (And.intro (show W4.drew.cell? _ = _ from y0) (And.intro (show W4.drew.cell? _ = _ from y1) (show W4.drew.cell? _ = _ from y2))) (show W4.drew.cell? _ = _ from ym)
       refine wpAnyL_take (i := 0) (oi := ⟨some 27, _, _, _, _, _⟩) (v := ?_) rfl (by kernel_rfl) (by kernel_rfl) (by kernel_rfl) (by kernel_rfl) (by kernel_rfl) (fun _ _ _ h => h) (Or.inl ⟨by rfl, ?_⟩) (by assumption) ?_
       case refine_2 => (rintro w ⟨⟨s0, s1, s2⟩, sm⟩; go_simp; try with_reducible rfl)
       try simp only [pS]
       refine wpAnyL_take (i := 1) (oi := ⟨some 28, _, _, _, _, _⟩) (v := ?_) rfl (by kernel_rfl) (by kernel_rfl) (by kernel_rfl) (by kernel_rfl) (by kernel_rfl) (fun _ _ _ h => h) (Or.inl ⟨by rfl, ?_⟩) (by assumption) ?_
       case refine_2 => (rintro w ⟨⟨s0, s1, s2⟩, sm⟩; go_simp; try with_reducible rfl)
       try simp only [pS]
       refine wpAnyL_take (i := 2) (oi := ⟨some 29, _, _, _, _, _⟩) (v := ?_) rfl (by kernel_rfl) (by kernel_rfl) (by kernel_rfl) (by kernel_rfl) (by kernel_rfl) (fun _ _ _ h => h) (Or.inl ⟨by rfl, ?_⟩) (by assumption) ?_
       case refine_2 => (rintro w ⟨⟨s0, s1, s2⟩, sm⟩; go_simp; try with_reducible rfl)
       try simp only [pS]
       refine wpAnyL_take (i := 3) (oi := ⟨some 30, _, _, _, _, _⟩) (v := ?_) rfl (by kernel_rfl) (by kernel_rfl) (by kernel_rfl) (by kernel_rfl) (by kernel_rfl) (fun _ _ _ h => h) (Or.inl ⟨by rfl, ?_⟩) (by assumption) ?_
       case refine_2 => (rintro w ⟨⟨s0, s1, s2⟩, sm⟩; go_simp; try with_reducible rfl)
       try simp only [pS]
       refine wpAnyL_take (i := 4) (oi := ⟨some 31, _, _, _, _, _⟩) (v := ?_) rfl (by kernel_rfl) (by kernel_rfl) (by kernel_rfl) (by kernel_rfl) (by kernel_rfl) (fun _ _ _ h => h) (Or.inl ⟨by rfl, ?_⟩) (by assumption) ?_
       case refine_2 => (rintro w ⟨⟨s0, s1, s2⟩, sm⟩; go_simp; try with_reducible rfl)
       try simp only [pS]
       refine wpAnyL_one (i := 5) (o := ⟨none, _, _, _, _, _⟩) (by kernel_rfl) rfl ?_
       intro K hK
       go_simp
       refine hK.out _ _ (Or.inl (by kernel_rfl)) ?_
       clear hK K
       try simp only [pS]
       refine wpAnyL_done (by kernel_rfl) ?_ _
       refine NoPanic.normal ?_
       clear hS hrun6 y0 y1 y2 ym
       go_wp2
       go_ret
       exact ⟨by rw [HT.out]; rfl, by unfold clMS; rw [HT.out]; exact HM.out, HFF.out⟩
section
variable {P : Program} {α β : Type} {k : TypeId} {kv : α → Value} {ok : α → Prop} {vv : β → Value} {ops : Array Oper} {o : Oper} {a : Act} {Q : Exit → Act → World → Prop}
end
/-- may the event of a dot be bared? -/
def brOk (s : MS) (d : Dot) : Bool := s.K.any fun x => decide (x.1.dot = d) && (decide (x.1.kind = 1) && !decide (x.1.over.length = 0))
def bareIt (x : EvIt) : EvIt := ({ x.1 with over := [] }, none, 0)
theorem brOk_at {w : World} {b : Nat} {s : MS} (h : KTab w b s.K) {x : EvIt} (hx : x ∈ s.K) : brOk s x.1.dot = (decide (x.1.kind = 1) && !decide (x.1.over.length = 0)) := by
 unfold brOk
 rw [Bool.eq_iff_iff, List.any_eq_true]
 constructor
 ·rintro ⟨y, hy, h2⟩
  rw [Bool.and_eq_true, decide_eq_true_eq] at h2
  have hp := (keep_perm h.nodup hx).mem_iff.1 hy
  rcases List.mem_cons.1 hp with rfl | hp
  ·exact h2.2
  ·have := (List.mem_filter.1 hp).2
   rw [decide_eq_true_eq] at this
   exact absurd h2.1 this
 ·intro h2
  exact ⟨x, hx, by rw [Bool.and_eq_true, decide_eq_true_eq]; exact ⟨rfl, h2⟩⟩
theorem brOk_no {s : MS} {d : Dot} (h : ∀ y ∈ s.K, y.1.dot ≠ d) : brOk s d = false := by
 unfold brOk
 rw [List.any_eq_false]
 intro y hy h2
 rw [Bool.and_eq_true, decide_eq_true_eq] at h2
 exact h y hy h2.1
def RetBr (m : Nat) (b : MB) (s : MS) (d : Dot) (w : World) (x : Ending) (w' : World) : Prop :=
 (brOk s d = false ∧ x = .returned (.bool false) ∧ MpIn w' m b s ∧ Fr (isR b.kb) w w') ∨
 (brOk s d = true ∧ x = .returned (.bool true) ∧ ∃ y ∈ s.K, y.1.dot = d ∧ MpIn w' m b { s with K := bareIt y :: lessK s.K d } ∧ Fr (isR b.kb) w w')
theorem range_bare {w : World} {b : Nat} {e : Ev} {a : Option Addr} {cap : Nat} (h : w.rangeAt b 0 (evCells e a cap)) : (w.setCell ⟨b, 18, none⟩ (.slice none 0 0)).rangeAt b 0 (evCells { e with over := [] } none 0) := by
 intro j v hv
 rw [Nat.zero_add]
 by_cases hj : j = 18
 ·subst hj
  simp [evCells] at hv
  subst hv
  exact World.cell?_setCell_same _ _ _ (h 18 _ rfl)
 ·rw [World.cell?_setCell_other _ _ _ _ (by simp [Ne.symm hj])]
  have h1 : (evCells e a cap)[j]? = some v := by
   rw [← hv]
   match j, hj with
   | 0, _ | 1, _ | 2, _ | 3, _ | 4, _ | 5, _ | 6, _ | 7, _ | 8, _ | 9, _ | 10, _ | 11, _ | 12, _ | 13, _ | 14, _ | 15, _ | 16, _ | 17, _ => rfl
   | j + 19, _ => rfl
  have := h j v h1
  rwa [Nat.zero_add] at this
theorem mBare_any {m : Nat} {b : MB} {s : MS} (d : Dot) (hd : DotW d) (w : World) (h : MpIn w m b s) (hKl : s.K.length ≤ 2048) :
 Calls Tryz.prog 21 #[.pointer (some ⟨m, 0, none⟩), dotVal d] w (RetBr m b s d w) := by
 have HH := Lib.hid h
 go_enter Tryz.func21, Tryz.ntmps21
 go_upto_region 3 with fail
 refine wp_name (fun W hW => ?_)
 have hbw : Below w.heap.size w W := by rw [hW.out]; go_grown
 have h2 : MpIn W.drew m b s := (h.kept_w hbw).kept_w (Below.refl _ _).drew
 have x0 : W.drew.cell? ⟨w.heap.size, 0, none⟩ = some (.int .i64 d.a.dev) := by rw [hW.out]; go_simp
 have x1 : W.drew.cell? ⟨w.heap.size, 1, none⟩ = some (.int .i64 d.a.inc) := by rw [hW.out]; go_simp
 have x2 : W.drew.cell? ⟨w.heap.size, 2, none⟩ = some (.int .i64 d.seq) := by rw [hW.out]; go_simp
 have xm : W.drew.cell? ⟨m, 0, none⟩ = some (.map (some b.kb)) := (four_cells h2.cell).1
 clear hW h
 have hwl : w.heap.size < W.heap.size := World.block_lt_of_cell? W.drew _ x0
 obtain ⟨x, ok, hlk, hcase⟩ : ∃ (x : EvIt) (ok : Bool), (∀ X : World, KTab X b.kb s.K → (Instr.lookup 103 (.map (some b.kb)) (dotVal d) true).run Tryz.prog X = .ok (.tuple #[evV x, .bool ok]) X) ∧ ((ok = true ∧ x ∈ s.K ∧ x.1.dot = d) ∨ (ok = false ∧ ∀ y ∈ s.K, y.1.dot ≠ d)) := by
  rcases KTab.look h2.kept hd with ⟨x, hx, hxd, hX⟩ | ⟨hno, hX⟩
  ·exact ⟨x, true, hX, Or.inl ⟨rfl, hx, hxd⟩⟩
  ·exact ⟨(ev0, none, 0), false, hX, Or.inr ⟨rfl, hno⟩⟩
 obtain ⟨e, ea, ec⟩ := x
 have hl2 := hlk W.drew h2.kept
 have HC := Lib.hid hcase
 clear hcase
 refine wp_region_noPanic ?_
 refine wp_region_late (fun X => Below W.drew.heap.size W.drew X) [] (by kernel_rfl) ?_
 have hb0 : Below W.drew.heap.size W.drew W.drew := Below.refl _ _
 refine wpAnyL_take (i := 0) (oi := ⟨some 10, _, _, _, _, _⟩) (v := ?_) rfl (by kernel_rfl) (by kernel_rfl) (by kernel_rfl) (by kernel_rfl) (by kernel_rfl) (fun _ _ _ h => h) (Or.inl ⟨by rfl, ?_⟩) (by assumption) ?_
 case refine_2 => (rintro w hSw; have s0 := kept hSw x0; have s1 := kept hSw x1; have s2 := kept hSw x2; have sm := kept hSw xm; have sl := hlk w (h2.kept.kept hSw); go_simp; try with_reducible rfl)
 try simp only [pS]
 refine wpAnyL_take (i := 1) (oi := ⟨some 11, _, _, _, _, _⟩) (v := ?_) rfl (by kernel_rfl) (by kernel_rfl) (by kernel_rfl) (by kernel_rfl) (by kernel_rfl) (fun _ _ _ h => h) (Or.inl ⟨by rfl, ?_⟩) (by assumption) ?_
 case refine_2 => (rintro w hSw; have s0 := kept hSw x0; have s1 := kept hSw x1; have s2 := kept hSw x2; have sm := kept hSw xm; have sl := hlk w (h2.kept.kept hSw); go_simp; try with_reducible rfl)
 try simp only [pS]
 refine wpAnyL_take (i := 2) (oi := ⟨some 12, _, _, _, _, _⟩) (v := ?_) rfl (by kernel_rfl) (by kernel_rfl) (by kernel_rfl) (by kernel_rfl) (by kernel_rfl) (fun _ _ _ h => h) (Or.inl ⟨by rfl, ?_⟩) (by assumption) ?_
 case refine_2 => (rintro w hSw; have s0 := kept hSw x0; have s1 := kept hSw x1; have s2 := kept hSw x2; have sm := kept hSw xm; have sl := hlk w (h2.kept.kept hSw); go_simp; try with_reducible rfl)
 try simp only [pS]
 refine wpAnyL_take (i := 3) (oi := ⟨some 13, _, _, _, _, _⟩) (v := ?_) rfl (by kernel_rfl) (by kernel_rfl) (by kernel_rfl) (by kernel_rfl) (by kernel_rfl) (fun _ _ _ h => h) (Or.inl ⟨by rfl, ?_⟩) (by assumption) ?_
 case refine_2 => (rintro w hSw; have s0 := kept hSw x0; have s1 := kept hSw x1; have s2 := kept hSw x2; have sm := kept hSw xm; have sl := hlk w (h2.kept.kept hSw); go_simp; try with_reducible rfl)
 try simp only [pS]
 refine wpAnyL_take (i := 4) (oi := ⟨some 14, _, _, _, _, _⟩) (v := ?_) rfl (by kernel_rfl) (by kernel_rfl) (by kernel_rfl) (by kernel_rfl) (by kernel_rfl) (fun _ _ _ h => h) (Or.inl ⟨by rfl, ?_⟩) (by assumption) ?_
 case refine_2 => (rintro w hSw; have s0 := kept hSw x0; have s1 := kept hSw x1; have s2 := kept hSw x2; have sm := kept hSw xm; have sl := hlk w (h2.kept.kept hSw); go_simp; try with_reducible rfl)
 try simp only [pS]
 refine wpAnyL_take (i := 5) (oi := ⟨some 15, _, _, _, _, _⟩) (v := ?_) rfl (by kernel_rfl) (by kernel_rfl) (by kernel_rfl) (by kernel_rfl) (by kernel_rfl) (fun _ _ _ h => h) (Or.inl ⟨by rfl, ?_⟩) (by assumption) ?_
 case refine_2 => (rintro w hSw; have s0 := kept hSw x0; have s1 := kept hSw x1; have s2 := kept hSw x2; have sm := kept hSw xm; have sl := hlk w (h2.kept.kept hSw); go_simp; try with_reducible rfl)
 try simp only [pS]
 refine wpAnyL_take (i := 6) (oi := ⟨some 9, _, _, _, _, _⟩) (v := ?_) rfl (by kernel_rfl) (by kernel_rfl) (by kernel_rfl) (by kernel_rfl) (by kernel_rfl) (fun _ _ _ h => h) (Or.inl ⟨by rfl, ?_⟩) (by assumption) ?_
 case refine_2 => (rintro w hSw; have s0 := kept hSw x0; have s1 := kept hSw x1; have s2 := kept hSw x2; have sm := kept hSw xm; have sl := hlk w (h2.kept.kept hSw); go_simp; try with_reducible rfl)
 try simp only [pS]
 refine wpAnyL_take (i := 7) (oi := ⟨some 16, _, _, _, _, _⟩) (v := ?_) rfl (by kernel_rfl) (by kernel_rfl) (by kernel_rfl) (by kernel_rfl) (by kernel_rfl) (fun _ _ _ h => h) (Or.inl ⟨by rfl, ?_⟩) (by assumption) ?_
 case refine_2 => (rintro w hSw; have s0 := kept hSw x0; have s1 := kept hSw x1; have s2 := kept hSw x2; have sm := kept hSw xm; have sl := hlk w (h2.kept.kept hSw); go_simp; try with_reducible rfl)
 try simp only [pS]
 refine wpAnyL_take (i := 8) (oi := ⟨some 17, _, _, _, _, _⟩) (v := ?_) rfl (by kernel_rfl) (by kernel_rfl) (by kernel_rfl) (by kernel_rfl) (by kernel_rfl) (fun _ _ _ h => h) (Or.inl ⟨by rfl, ?_⟩) (by assumption) ?_
 case refine_2 => (rintro w hSw; have s0 := kept hSw x0; have s1 := kept hSw x1; have s2 := kept hSw x2; have sm := kept hSw xm; have sl := hlk w (h2.kept.kept hSw); go_simp; try with_reducible rfl)
 try simp only [pS]
 refine wpAnyL_one (i := 9) (o := ⟨some 5, _, _, _, _, _⟩) (by kernel_rfl) rfl ?_
 intro K hK
 go_simp
 refine hK.out _ _ (Or.inr (below_allocD W _)) ?_
 clear hK K
 try simp only [pS]
 refine wpAnyL_one (i := 10) (o := ⟨none, _, _, _, _, _⟩) (by kernel_rfl) rfl ?_
 intro K hK
 refine step_store_newD (by rfl) 43 (.tmp 5) (.tmp 16) rfl W _ (evCells e ea ec).toArray rfl rfl rfl (by kernel_rfl) rfl (by kernel_rfl) ?_
 refine hK.out _ _ (Or.inr (below_allocD W _)) ?_
 clear hK K
 try simp only [pS]
 refine wpAnyL_one (i := 11) (o := ⟨some 6, _, _, _, _, _⟩) (by kernel_rfl) rfl ?_
 intro K hK
 go_simp
 refine hK.out _ _ (Or.inr (below_allocD W _)) ?_
 clear hK K
 try simp only [pS]
 refine wpAnyL_done (by kernel_rfl) ?_ _
 refine NoPanic.normal ?_
 obtain ⟨W4, hW4⟩ : ∃ W4, W4 = (W.alloc (Obj.cells (evCells e ea ec).toArray 43)).drew := ⟨_, rfl⟩
 rw [← hW4]
 have hR : W4.rangeAt W.heap.size 0 (evCells e ea ec) := by rw [hW4]; exact evCells_box e ea ec W _
 have hb4 : Below W.drew.heap.size W.drew W4 := by rw [hW4]; exact below_allocD W _
 have hfz : W4.frozen? ⟨W.heap.size, 18, none⟩ = false := by rw [hW4]; go_simp
 clear hW4 hl2 hlk hb0
 have h4 := h2.kept_w hb4
 replace x0 := kept hb4 x0
 replace x1 := kept hb4 x1
 replace x2 := kept hb4 x2
 have hf : Below w.heap.size w W4 := hbw.trans ((below_undrew hb4).mono hbw.size)
 have v6 : W4.cell? ⟨W.heap.size, 6, none⟩ = some (.int .i64 e.kind) := by have := hR 6 _ rfl; rwa [Nat.zero_add] at this
 have HF := Lib.hid hf
 have H4 := Lib.hid h4
 have v18 : W4.cell? ⟨W.heap.size, 18, none⟩ = some (.slice ea e.over.length ec) := by have := hR 18 _ rfl; rwa [Nat.zero_add] at this
 have H2 := Lib.hid h2
 have HR := Lib.hid hR
 have HB4 := Lib.hid hb4
 have HBW := Lib.hid hbw
 clear hR xm h2 hb4 hf hbw
 rcases HC.out with ⟨rfl, hxK, hxd⟩ | ⟨rfl, hno⟩
 case inr =>
  have HE : Hid (brOk s d = false) := brOk_no hno
  clear hno HC h4
  go_wp2
  all_goals
   go_ret
   exact Or.inl ⟨HE.out, rfl, H4.out, Fr.of_below HF.out⟩
 have HE : Hid (brOk s d = (decide (e.kind = 1) && !decide (e.over.length = 0))) := by have := brOk_at h4.kept hxK; rw [show (e, ea, ec).1.dot = d from hxd] at this; exact this
 have HX := Lib.hid (And.intro hxK hxd)
 clear hxK hxd HC
 by_cases hk : e.kind = 1
 case neg =>
  have hkb : (e.kind != 1) = true := by rw [bne_iff_ne]; exact hk
  have HT : Hid (brOk s d = false) := by rw [Hid, HE.out, decide_eq_false hk]; rfl
  clear HE hk h4 x0 x1 x2
  go_wp2
  all_goals
   go_ret
   exact Or.inl ⟨HT.out, rfl, H4.out, Fr.of_below HF.out⟩
 have hkb : (e.kind != 1) = false := by rw [bne_eq_false_iff_eq]; exact hk
 by_cases hl : e.over.length = 0
 case pos =>
  have hlb : ((e.over.length : Int) == 0) = true := by rw [hl]; rfl
  have HT : Hid (brOk s d = false) := by rw [Hid, HE.out, decide_eq_true hl, Bool.not_true, Bool.and_false]
  clear HE hk hl h4 x0 x1 x2
  go_wp2
  all_goals
   go_ret
   exact Or.inl ⟨HT.out, rfl, H4.out, Fr.of_below HF.out⟩
 have hlb : ((e.over.length : Int) == 0) = false := by rw [beq_eq_false_iff_ne]; omega
 have HT : Hid (brOk s d = true) := by rw [Hid, HE.out, decide_eq_true hk, decide_eq_false hl]; rfl
 clear HE hk hl h4
 go_upto_region 7 with fail
 refine wp_name (fun W5 hW5 => ?_)
 have hb5 : Below W.drew.heap.size W.drew W5 := by rw [hW5.out]; exact HB4.out.setCell (Nat.le_refl _) _
 have hR5 : W5.drew.rangeAt W.heap.size 0 (evCells { e with over := [] } none 0) := by rw [hW5.out]; exact range_bare HR.out
 have hne : ∀ o : Nat, (⟨W.heap.size, 18, none⟩ : Addr) ≠ ⟨w.heap.size, o, none⟩ := fun o h => by simp only [Addr.mk.injEq] at h; omega
 replace x0 : W5.drew.cell? ⟨w.heap.size, 0, none⟩ = some (.int .i64 d.a.dev) := by rw [hW5.out]; exact (World.cell?_setCell_other _ _ _ _ (hne 0)).trans x0
 replace x1 : W5.drew.cell? ⟨w.heap.size, 1, none⟩ = some (.int .i64 d.a.inc) := by rw [hW5.out]; exact (World.cell?_setCell_other _ _ _ _ (hne 1)).trans x1
 replace x2 : W5.drew.cell? ⟨w.heap.size, 2, none⟩ = some (.int .i64 d.seq) := by rw [hW5.out]; exact (World.cell?_setCell_other _ _ _ _ (hne 2)).trans x2
 have h5 : MpIn W5.drew m b s := (H2.out.kept_w hb5).kept_w (Below.refl _ _).drew
 have xm : W5.drew.cell? ⟨m, 0, none⟩ = some (.map (some b.kb)) := (four_cells h5.cell).1
 have HF5 := Lib.hid (HBW.out.trans ((below_undrew hb5).mono HBW.out.size))
 clear hW5 hne hfz v6 v18 hb5
 obtain ⟨w6, hrun6, htab6, hfr6⟩ := (Tab.perm h5.kept ((keep_perm h5.kept.nodup HX.out.1).map fun x : EvIt => (x.1.dot, x))).store_old kDot Tryz.underlying103 (by
  rw [List.length_map]
  have := List.length_filter_le (fun y : EvIt => decide (y.1.dot ≠ (e, ea, ec).1.dot)) s.K
  unfold lessK maxLen
  omega) (bareIt (e, ea, ec))
 have hrun7 : (Instr.mapUpdate 103 (.map (some b.kb)) (dotVal d) (.agg (evCells { e with over := [] } none 0).toArray)).run Tryz.prog W5.drew = .ok () w6 := by rw [← show (e, ea, ec).1.dot = d from HX.out.2]; exact hrun6
 have htab7 : KTab w6 b.kb (bareIt (e, ea, ec) :: lessK s.K d) := by rw [← show (e, ea, ec).1.dot = d from HX.out.2]; exact htab6
 have hK6 := h5.keeps hfr6 (fun i hi => by subst hi; exact foot_kb b _)
 have HM := Lib.hid (h5.setKept htab7 (fun x hx => by
  rcases List.mem_cons.1 hx with rfl | hx
  ·exact Or.inl rfl
  ·exact hK6.dots (h5.overs x (List.mem_filter.1 hx).1)) hfr6)
 have HFF := Lib.hid ((Fr.of_below HF5.out : Fr (isR b.kb) w W5).again hfr6.undrew)
 clear hrun6 htab6 htab7 hfr6 hK6
 refine wp_region_noPanic ?_
 refine wp_region_late (fun X => Below W5.drew.heap.size W5.drew X) [6] (by kernel_rfl) ?_
 have hb0 : Below W5.drew.heap.size W5.drew W5.drew := Below.refl _ _
 refine wpAnyL_take (i := 0) (oi := ⟨some 32, _, _, _, _, _⟩) (v := ?_) rfl (by kernel_rfl) (by kernel_rfl) (by kernel_rfl) (by kernel_rfl) (by kernel_rfl) (fun _ _ _ h => h) (Or.inl ⟨by rfl, ?_⟩) (by assumption) ?_
 case refine_2 => (rintro w hSw; have s0 := kept hSw x0; have s1 := kept hSw x1; have s2 := kept hSw x2; have sm := kept hSw xm; go_simp; try with_reducible rfl)
 try simp only [pS]
 refine wpAnyL_take (i := 1) (oi := ⟨some 33, _, _, _, _, _⟩) (v := ?_) rfl (by kernel_rfl) (by kernel_rfl) (by kernel_rfl) (by kernel_rfl) (by kernel_rfl) (fun _ _ _ h => h) (Or.inl ⟨by rfl, ?_⟩) (by assumption) ?_
 case refine_2 => (rintro w hSw; have s0 := kept hSw x0; have s1 := kept hSw x1; have s2 := kept hSw x2; have sm := kept hSw xm; go_simp; try with_reducible rfl)
 try simp only [pS]
 refine wpAnyL_take (i := 2) (oi := ⟨some 34, _, _, _, _, _⟩) (v := ?_) rfl (by kernel_rfl) (by kernel_rfl) (by kernel_rfl) (by kernel_rfl) (by kernel_rfl) (fun _ _ _ h => h) (Or.inl ⟨by rfl, ?_⟩) (by assumption) ?_
 case refine_2 => (rintro w hSw; have s0 := kept hSw x0; have s1 := kept hSw x1; have s2 := kept hSw x2; have sm := kept hSw xm; go_simp; try with_reducible rfl)
 try simp only [pS]
 refine wpAnyL_take (i := 3) (oi := ⟨some 35, _, _, _, _, _⟩) (v := ?_) rfl (by kernel_rfl) (by kernel_rfl) (by kernel_rfl) (by kernel_rfl) (by kernel_rfl) (fun _ _ _ h => h) (Or.inl ⟨by rfl, ?_⟩) (by assumption) ?_
 case refine_2 => (rintro w hSw; have s0 := kept hSw x0; have s1 := kept hSw x1; have s2 := kept hSw x2; have sm := kept hSw xm; go_simp; try with_reducible rfl)
 try simp only [pS]
 refine wpAnyL_take (i := 4) (oi := ⟨some 36, _, _, _, _, _⟩) (v := ?_) rfl (by kernel_rfl) (by kernel_rfl) (by kernel_rfl) (by kernel_rfl) (by kernel_rfl) (fun _ _ _ h => h) (Or.inl ⟨by rfl, ?_⟩) (by assumption) ?_
 case refine_2 => (rintro w hSw; have s0 := kept hSw x0; have s1 := kept hSw x1; have s2 := kept hSw x2; have sm := kept hSw xm; go_simp; try with_reducible rfl)
 try simp only [pS]
 refine wpAnyL_take (i := 5) (oi := ⟨some 37, _, _, _, _, _⟩) rfl (by kernel_rfl) (by kernel_rfl) (by kernel_rfl) (by kernel_rfl) (by kernel_rfl) (fun _ _ _ h => h) (yieldsIf_load_mid (by rfl) 43 _ rfl W.heap.size 0 rfl (evCells { e with over := [] } none 0) _ (fun X hX => rangeAt_kept hR5 hX) Tryz.underlying43 rfl (by kernel_rfl)) (by assumption) ?_
 try simp only [pS]
 refine wpAnyL_one (i := 6) (o := ⟨none, _, _, _, _, _⟩) (by kernel_rfl) rfl ?_
 intro K hK
 go_simp
 refine hK.out _ _ (Or.inl (by kernel_rfl)) ?_
 clear hK K
 try simp only [pS]
 refine wpAnyL_done (by kernel_rfl) ?_ _
 refine NoPanic.normal ?_
 clear hrun7 x0 x1 x2 xm hR5 hb0 h5
 go_wp2
 go_ret
 exact Or.inr ⟨HT.out, rfl, (e, ea, ec), HX.out.1, HX.out.2, HM.out, HFF.out⟩
/-- the alive events, by their dots -/
def aliveOf (s : MS) : List Ev := (sortD (s.pairs.map (·.2))).map (evAt s.K)
def atP (s : MS) (p : Key × Nat) : List Dot := atK s.pairs p.1
theorem flat_len_le {α β : Type} {f : α → List β} {n : Nat} : ∀ (l : List α), (∀ x ∈ l, (f x).length ≤ n) → (l.flatMap f).length ≤ l.length * n
 | [], _ => by simp
 | x :: l, h => by
   have h1 := h x List.mem_cons_self
   have h2 := flat_len_le l (fun y hy => h y (List.mem_cons_of_mem _ hy))
   rw [List.flatMap_cons, List.length_append, List.length_cons, Nat.add_mul]
   omega
theorem atP_mem {w : World} {m : Nat} {b : MB} {s : MS} (h : MpIn w m b s) (d : Dot) : d ∈ s.A.flatMap (atP s) ↔ d ∈ s.pairs.map (·.2) := by
 rw [List.mem_flatMap, List.mem_map]
 constructor
 ·rintro ⟨p, hp, hd⟩
  exact ⟨(p.1, d), atK_mem.1 hd, rfl⟩
 ·rintro ⟨q, hq, rfl⟩
  obtain ⟨n, hn⟩ := h.keys q hq
  exact ⟨_, hn, atK_mem.2 hq⟩
theorem mAlive_any {m : Nat} {b : MB} {s : MS} (w : World) (h : MpIn w m b s) (hi0 : MInv s) (hdk : ∀ x ∈ s.K, DotW x.1.dot) (hov : ∀ x ∈ s.K, x.1.over.length ≤ 64) :
 Calls Tryz.prog 35 #[.pointer (some ⟨m, 0, none⟩)] w (RetEvs (aliveOf s) w) := by
 obtain ⟨i0, hi, hz0, hz1, hz2⟩ := info_parts Tryz.infoDot
 obtain ⟨c0, c1, c2, c3⟩ := four_cells h.cell
 have htab := h.alive
 have HH := Lib.hid h
 have HBK := Lib.hid (h.low (foot_ab b s.A))
 obtain ⟨hbd1, hbd2⟩ := hi0.bounds h
 have hfl : (s.A.flatMap (atP s)).length ≤ 4194304 := by
  have h1 := flat_len_le (f := atP s) (n := 2048) s.A (fun p _ => hbd2 p.1)
  have h2 := Nat.mul_le_mul_right 2048 hbd1
  omega
 have HMem : Hid (∀ d ∈ s.A.flatMap (atP s), ∃ x ∈ s.K, x.1.dot = d) := fun d hd => by
  obtain ⟨q, hq, rfl⟩ := List.mem_map.1 ((atP_mem h d).1 hd)
  obtain ⟨x, hx, _, h3, _⟩ := (hi0.pairs q.1 q.2).1 hq
  exact ⟨x, hx, h3⟩
 have HAP := Lib.hid (fun (l : List Dot) (hl : l.Perm (s.A.flatMap (atP s))) => show (sortD l).map (evAt s.K) = aliveOf s from by
  unfold aliveOf
  rw [sortD_congr (fun d => hl.mem_iff.trans (atP_mem h d))])
 have HI := Lib.hid hi0
 have HDK := Lib.hid (And.intro hdk hov)
 clear c0 c2 c3 h hi0 hdk hov hbd1 hbd2
 go_enter Tryz.func35, Tryz.ntmps35
 go_wp2_with (at_range; refine wpList_range_tab kKey _ rfl _ 104 rfl 105 Tryz.underlying104 b.ab rfl htab ?_; intro w0 cnt0 hrg0 hb0 hs0)
 go_frame
 go_loopw [3] (fun v wr => ∃ rest cnt ks, TabIt Tryz.prog 39 keyVal KeyW mapV wr b.ab w.heap.size s.A rest cnt ∧ (ks ++ rest.flatMap (atP s)).Perm (s.A.flatMap (atP s)) ∧ wr.ownsRow (w.heap.size + 1) 35 3 v ks.length (dotVals ks) ∧ Below w.heap.size w wr) (fun _ wr => wr.rangeLeft b.ab w.heap.size)
 case atStart => exact ⟨s.A, _, [], hrg0, List.Perm.refl _, World.ownsRow_nil _ _ _ _, hb0⟩
 case round =>
  obtain ⟨rest, cnt, ks, hrg, hC, hown, hbw⟩ := hrel
  have hzw : w.heap.size + 1 ≤ wr.heap.size := by have := hrg.lt; omega
  have HLE := Lib.hid hrg.left_eq
  obtain ⟨wo, rfl⟩ : ∃ wo : World, wo = wr := ⟨_, rfl⟩
  go_wp2_with (at_next; refine wpList_next_tab kKey _ rfl _ rfl b.ab w.heap.size cnt rfl hrg ?_ ?_)
  rotate_left
  ·intro kp np rest' w2 cnt2 hperm hpm hrg2 hlt hg2 hs2 hen
   have HC2 : Hid ((ks ++ atK s.pairs kp ++ rest'.flatMap (atP s)).Perm (s.A.flatMap (atP s))) := by
        have h3 : (rest.flatMap (atP s)).Perm (((kp, np) :: rest').flatMap (atP s)) := hperm.flatMap_right _
        have h4 := h3.append_left ks
        rw [List.flatMap_cons, ← List.append_assoc] at h4
        exact h4.symm.trans hC
   have hown2 := hown.kept2 hg2 (fun g hg => by have := (hown.lt g hg).1; show ¬ g = w.heap.size; omega)
   have hb2 : Below w.heap.size w w2 := hbw.trans (hg2.below hbw.size (fun k hk => by rw [show k = w.heap.size from hk]; exact Nat.le_refl _))
   have hnp : np < w.heap.size := HH.out.low (foot_in b hpm)
   have hin : DTab w2 np (atK s.pairs kp) := (HH.out.inner (kp, np) hpm).block (hb2.block np hnp)
   have hll : (ks ++ atK s.pairs kp).length ≤ 4194304 := by
        have h5 := HC2.out.length_eq
        rw [List.length_append] at h5
        omega
   have HLT := Lib.hid hlt
   generalize atK s.pairs kp = L at *
   clear hs2 hown hrg hg2 hpm hperm hC hlt
   go_wp2_with (at_range; refine wpList_range_tab kDot _ rfl _ 105 rfl 3 Tryz.underlying105 np rfl hin ?_; intro w3 cnt3 hrg3 hb3 hs3)
   have hown0 := ownsRow_below hown2 hb3
   have hrgO := hrg2.kept hb3
   have hbO : Below w.heap.size w w3 := hb2.trans (hb3.mono hb2.size)
   have hzA2 : w.heap.size + 1 ≤ w2.heap.size := by have := hrg2.lt; omega
   have HNE : Hid (∀ (v : Value), w2.ownsRow (w.heap.size + 1) 35 3 v ks.length (dotVals ks) → ∀ g, v.ownBlock = some g → g ≠ w2.heap.size) := fun v h9 g hg => by have := (h9.lt g hg).2; omega
   go_frame
   go_loopw [3] (fun v wq => ∃ rs2 c2 ks2, TabIt Tryz.prog 35 dotVal DotW intVal wq np w2.heap.size (ones L) rs2 c2 ∧ (ks2 ++ rs2.map (·.1)).Perm (ks ++ L) ∧ wq.ownsRow (w.heap.size + 1) 35 3 v ks2.length (dotVals ks2) ∧ (∀ g, v.ownBlock = some g → g ≠ w2.heap.size) ∧ TabIt Tryz.prog 39 keyVal KeyW mapV wq b.ab w.heap.size s.A rest' cnt2 ∧ Below w.heap.size w wq) (fun _ wq => wq.rangeLeft np w2.heap.size)
   case atStart => exact ⟨ones L, _, ks, hrg3, by rw [ones_keys], hown0, HNE.out _ hown2, hrgO, hbO⟩
   case round =>
        obtain ⟨rs2, c2, ks2, hrgI, hCI, hownI, hne, hrgQ, hbq⟩ := hrel
        have HLE2 := Lib.hid hrgI.left_eq
        have hzq : w2.heap.size < wr.heap.size := hrgI.lt
        clear hown2 hown0 hrg2 hrg3 hrgO hbO hb3 hin HNE
        go_wp2_with (at_next; refine wpList_next_tab kDot _ rfl _ rfl np w2.heap.size c2 rfl hrgI ?_ ?_)
        rotate_left
        ·intro x n rs3 w5 c3 hperm3 hpm3 hrg5 hlt3 hg5 hs5 hen5
         have hlen : ks2.length < (ks ++ L).length := by
          have h1 := hCI.length_eq
          have h2 := hperm3.length_eq
          simp at h1 h2 ⊢
          omega
         have HC3 : Hid (((ks2 ++ [x]) ++ rs3.map (·.1)).Perm (ks ++ L)) := by
          have h3 : (ks2 ++ rs2.map (·.1)).Perm ((ks2 ++ [x]) ++ rs3.map (·.1)) := by
           have := (hperm3.map (·.1)).append_left ks2
           simpa using this
          exact h3.symm.trans hCI
         have hown5 := hownI.kept2 hg5 (fun g hg => hne g hg)
         have hrgQ5 := hrgQ.fr hg5 (by show ¬ b.ab = w2.heap.size; have := HBK.out; omega) (by show ¬ w.heap.size = w2.heap.size; omega)
         have hb5 : Below w.heap.size w w5 := hbq.trans (hg5.below hbq.size (fun k hk => by rw [show k = w2.heap.size from hk]; omega))
         have hsz5 := hg5.size
         have HL3 := Lib.hid hlt3
         clear hs5 hownI hrgI hg5 hrgQ hlt3
         go_upto_region 10 with fail
         refine wp_name (fun W3 hW3 => ?_)
         have hb3 : Below w5.heap.size w5 W3 := by rw [hW3.out]; go_grown
         have y0 : W3.cell? ⟨w5.heap.size, 0, none⟩ = some (.int .i64 x.a.dev) := by rw [hW3.out]; go_simp
         have y1 : W3.cell? ⟨w5.heap.size, 1, none⟩ = some (.int .i64 x.a.inc) := by rw [hW3.out]; go_simp
         have y2 : W3.cell? ⟨w5.heap.size, 2, none⟩ = some (.int .i64 x.seq) := by rw [hW3.out]; go_simp
         clear hW3
         have hown3 := ownsRow_below hown5 hb3
         have hrg3 := hrg5.kept hb3
         have hrgQ3 := hrgQ5.kept hb3
         have hsz3 := hb3.size
         have hbw3 : Below w.heap.size w W3 := hb5.trans (hb3.mono hb5.size)
         clear hown5 hrg5 hrgQ5 hb5
         go_wp2_with (at_builtin; go_loud (refine wpList_append_own_at _ rfl _ _ 29 rfl (w.heap.size + 1) 35 i0 (.agg #[.int .i64 0, .int .i64 0, .int .i64 0]) 3 24 Tryz.underlying29 hi hz0 hz1 hz2 rfl (by decide) _ _ _ rfl (hown3.alloc _) ⟨W3.heap.size, 0, none⟩ 1 1 [.int .i64 x.a.dev, .int .i64 x.a.inc, .int .i64 x.seq] rfl rfl (cells_new _ _ _) (by simp [Value.oneCell']) (by unfold maxLen; omega) (by omega) (by simp; omega) ?_); intro v2 w4 hown4 hgrow _ hat)
         have hb4 : Below W3.heap.size W3 (W3.alloc (.cells #[.int .i64 x.a.dev, .int .i64 x.a.inc, .int .i64 x.seq] 35)) := (Below.refl _ _).alloc (Nat.le_refl _) _
         have hnp2 : np ≠ w.heap.size := by omega
         have hlowg : ∀ k, (∀ g, (some k : Option Nat) = some g → g < w.heap.size + 1 ∨ g = w2.heap.size) → k < W3.heap.size → w4.heap[k]? = (W3.alloc (.cells #[.int .i64 x.a.dev, .int .i64 x.a.inc, .int .i64 x.seq] 35)).heap[k]? := fun k hk hlt9 => hgrow.block k (by simp; omega) (fun e => by
          rcases hk k rfl with h9 | h9
          ·have := (hown3.lt k e.symm).1; omega
          ·exact hne k e.symm h9)
         have hrg4 : TabIt Tryz.prog 35 dotVal DotW intVal w4 np w2.heap.size (ones L) rs3 c3 := (hrg3.kept hb4).block (hlowg _ (fun g hg => by cases hg; exact Or.inl (by omega)) (by omega)) (hlowg _ (fun g hg => by cases hg; exact Or.inr rfl) (by omega))
         have hrgQ4 : TabIt Tryz.prog 39 keyVal KeyW mapV w4 b.ab w.heap.size s.A rest' cnt2 := (hrgQ3.kept hb4).block (hlowg _ (fun g hg => by cases hg; exact Or.inl (by have := HBK.out; omega)) (by have := HBK.out; omega)) (hlowg _ (fun g hg => by cases hg; exact Or.inl (by omega)) (by omega))
         have hne4 : ∀ g, v2.ownBlock = some g → g ≠ w2.heap.size := fun g hg => by
          rcases hat with h9 | h9
          ·exact hne g (h9.symm.trans hg)
          ·rw [h9] at hg
           simp only [Option.some.injEq, World.size_alloc] at hg
           omega
         have HZ := Lib.hid (And.intro (show w4.ownsRow (w.heap.size + 1) 35 3 v2 (ks2 ++ [x]).length (dotVals (ks2 ++ [x])) by rw [dotVals_snoc, List.length_append]; exact hown4) (And.intro hrg4 (And.intro hne4 (And.intro hrgQ4 ((hbw3.trans (hb4.mono hbw3.size)).grown hgrow (by simp; omega) (fun j hj => by have := (hown3.lt j hj).1; omega))))))
         clear hown4 hrg4 hrgQ4 hgrow hown3 hrg3 hrgQ3 y0 y1 y2 hne4 hat hlowg hbw3 hb4 hb3
         go_wp2
         go_roundw
         case rel => exact ⟨rs3, c3, ks2 ++ [x], HZ.out.2.1, HC3.out, HZ.out.1, HZ.out.2.2.1, HZ.out.2.2.2.1, HZ.out.2.2.2.2⟩
         case measure => rw [HZ.out.2.1.left_eq, HLE2.out]; exact HL3.out
        ·intro hr0
         subst hr0
         have hpermI : ks2.Perm (ks ++ L) := by simpa using hCI
         have HZ : Hid (TabIt Tryz.prog 39 keyVal KeyW mapV wr b.ab w.heap.size s.A rest' cnt2 ∧ (ks2 ++ rest'.flatMap (atP s)).Perm (s.A.flatMap (atP s)) ∧ Below w.heap.size w wr) := ⟨hrgQ, (hpermI.append_right _).trans HC2.out, hbq⟩
         have HO := Lib.hid hownI
         clear hrgQ hbq hpermI hCI hrgI hownI
         go_wp2
         go_roundw
         case rel => exact ⟨rest', cnt2, ks2, HZ.out.1, HZ.out.2.1, HO.out, HZ.out.2.2⟩
         case measure => rw [HZ.out.1.left_eq, HLE.out]; exact HLT.out
  ·intro hr0
   subst hr0
   have hperm : ks.Perm (s.A.flatMap (atP s)) := by simpa using hC
   have hkl : ks.length ≤ 4194304 := by have := hperm.length_eq; omega
   obtain ⟨aL, cL, rfl, hinL⟩ := own_dots hown
   have HS := Lib.hid (mSorted_any aL cL ks wo (HH.out.kept_w hbw) (by omega) HDK.out.2 (fun d hd => by obtain ⟨x, hx, rfl⟩ := HMem.out d (hperm.mem_iff.1 hd); exact HDK.out.1 x hx) (fun d hd => HMem.out d (hperm.mem_iff.1 hd)) hinL)
   have HE := Lib.hid (HAP.out ks hperm)
   clear hperm hinL hown hrg hC
   go_wp2_with (go_at_call 93; (with_reducible refine HS.out.mono ?_); rintro x w5 ⟨a5, ls, c5, rfl, h1, h2, h3⟩)
   go_ret
   exact ⟨a5, ls, c5, rfl, h1, ⟨by rw [h2.1]; exact HE.out, h2.2⟩, hbw.trans (h3.mono hbw.size)⟩
end Go.Proofs.YtpbobhfnglikmaaGreat
