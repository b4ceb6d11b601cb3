/- The map of events: Deads. Conditions: as in the text. -/
import Derived.Test.YtpbobhfnglikmaaGreatOrmH
import Derived.Laws.IdiomRangeMap
import Derived.Maps.AppendAt
set_option linter.unusedSimpArgs false
set_option linter.unusedVariables false
set_option linter.unnecessarySimpa false
set_option maxHeartbeats 16000000
set_option maxRecDepth 100000
namespace Go.Proofs.YtpbobhfnglikmaaGreat
open Go.RowKit
/-- behind what hands back dots of the call's own -/
def RetDotL (L : List Dot) (w : World) (e : Ending) (w' : World) : Prop :=
 ∃ v, e = .returned v ∧ w'.ownsRow w.heap.size 35 3 v L.length (dotVals L) ∧ (v = .slice none 0 0 ↔ L = []) ∧ Below w.heap.size w w'
theorem mDeads_any {m : Nat} {b : MB} {s : MS} (w : World) (h : MpIn w m b s) (hK : s.dead.length ≤ 536870912) (hdk : ∀ x ∈ s.dead, DotW x) :
 Calls Tryz.prog 39 #[.pointer (some ⟨m, 0, none⟩)] w (RetDotL (sortD s.dead) w) := by
 obtain ⟨i0, hi, hz0, hz1, hz2⟩ := info_parts Tryz.infoDot
 obtain ⟨c0, c1, c2, c3⟩ := four_cells h.cell
 have htab := h.dead
 have HBK := Lib.hid (h.low (foot_db b s.A))
 have hKl : (ones s.dead).length ≤ 536870912 := by unfold ones; rw [List.length_map]; exact hK
 clear c0 c1 c3 h
 go_enter Tryz.func39, Tryz.ntmps39
 go_wp2_with (at_range; refine wpList_range_tab kDot _ rfl _ 105 rfl 3 Tryz.underlying105 b.db rfl htab ?_; intro w0 cnt0 hrg0 hb0 hs0)
 go_frame
 go_loopw [3] (fun v wr => ∃ rest cnt ks, TabIt Tryz.prog 35 dotVal DotW intVal wr b.db w.heap.size (ones s.dead) rest cnt ∧ (ks ++ rest.map (·.1)).Perm ((ones s.dead).map (·.1)) ∧ wr.ownsRow (w.heap.size + 1) 35 3 v ks.length (dotVals ks) ∧ Below w.heap.size w wr) (fun _ wr => wr.rangeLeft b.db w.heap.size)
 case atStart => exact ⟨(ones s.dead), _, [], hrg0, List.Perm.refl _, World.ownsRow_nil _ _ _ _, hb0⟩
 case round =>
  obtain ⟨rest, cnt, ks, hrg, hC, hown, hbw⟩ := hrel
  have hzw : w.heap.size + 1 ≤ wr.heap.size := by have := hrg.lt; omega
  have HLE := Lib.hid hrg.left_eq
  go_wp2_with (at_next; refine wpList_next_tab kDot _ rfl _ rfl b.db w.heap.size cnt rfl hrg ?_ ?_)
  rotate_left
  ·intro x n rest' w2 cnt2 hperm hpm hrg2 hlt hg2 hs2 hen
   have hlen : ks.length < (ones s.dead).length := by
        have h1 := hC.length_eq
        have h2 := hperm.length_eq
        simp at h1 h2 ⊢
        omega
   have HC2 : Hid (((ks ++ [x]) ++ rest'.map (·.1)).Perm ((ones s.dead).map (·.1))) := by
        have h3 : (ks ++ rest.map (·.1)).Perm ((ks ++ [x]) ++ rest'.map (·.1)) := by
         have := (hperm.map (·.1)).append_left ks
         simpa using this
        exact h3.symm.trans hC
   have hNlt := hrg.lt
   have hown2 := hown.kept2 hg2 (fun g hg => by have := (hown.lt g hg).1; show ¬ g = w.heap.size; omega)
   have hb2 : Below w.heap.size w w2 := hbw.trans (hg2.below hbw.size (fun k hk => by rw [show k = w.heap.size from hk]; exact Nat.le_refl _))
   have hsz2 := hg2.size
   clear hs2 hown hrg hg2
   go_upto_region 7 with fail
   refine wp_name (fun W3 hW3 => ?_)
   have hb3 : Below w2.heap.size w2 W3 := by rw [hW3.out]; go_grown
   have y0 : W3.cell? ⟨w2.heap.size, 0, none⟩ = some (.int .i64 x.a.dev) := by rw [hW3.out]; go_simp
   have y1 : W3.cell? ⟨w2.heap.size, 1, none⟩ = some (.int .i64 x.a.inc) := by rw [hW3.out]; go_simp
   have y2 : W3.cell? ⟨w2.heap.size, 2, none⟩ = some (.int .i64 x.seq) := by rw [hW3.out]; go_simp
   clear hW3
   have hown3 := ownsRow_below hown2 hb3
   have hrg3 := hrg2.kept hb3
   have hsz3 := hb3.size
   have hbw3 : Below w.heap.size w W3 := hb2.trans (hb3.mono hb2.size)
   clear hown2 hrg2 hb2
   go_wp2_with (at_builtin; refine wpList_append_own _ rfl _ _ 29 rfl (w.heap.size + 1) 35 i0 (.agg #[.int .i64 0, .int .i64 0, .int .i64 0]) 3 24 Tryz.underlying29 hi hz0 hz1 hz2 rfl (by decide) _ _ _ rfl (hown3.alloc _) ⟨W3.heap.size, 0, none⟩ 1 1 [.int .i64 x.a.dev, .int .i64 x.a.inc, .int .i64 x.seq] rfl rfl (cells_new _ _ _) (by simp [Value.oneCell']) (by unfold maxLen; omega) (by omega) (by simp; omega) ?_; intro v2 w4 hown4 hgrow _)
   have hb4 : Below W3.heap.size W3 (W3.alloc (.cells #[.int .i64 x.a.dev, .int .i64 x.a.inc, .int .i64 x.seq] 35)) := (Below.refl _ _).alloc (Nat.le_refl _) _
   have hrg4 : TabIt Tryz.prog 35 dotVal DotW intVal w4 b.db w.heap.size (ones s.dead) rest' cnt2 := by
        have h4 := hrg3.kept hb4
        have hlo : b.db < w.heap.size + 1 := by have := HBK.out; omega
        exact h4.block (hgrow.block _ h4.tab.lt (fun e => by have := (hown3.lt _ e.symm).1; omega)) (hgrow.block _ h4.lt (fun e => by have := (hown3.lt _ e.symm).1; omega))
   have HZ := Lib.hid (And.intro (show w4.ownsRow (w.heap.size + 1) 35 3 v2 (ks ++ [x]).length (dotVals (ks ++ [x])) by rw [dotVals_snoc, List.length_append]; exact hown4) (And.intro hrg4 ((hbw3.trans (hb4.mono hbw3.size)).grown hgrow (by simp; omega) (fun j hj => by have := (hown3.lt j hj).1; omega))))
   clear hown4 hrg4 hgrow hown3 hrg3 y0 y1 y2
   go_wp2
   go_roundw
   case rel => exact ⟨rest', cnt2, ks ++ [x], HZ.out.2.1, HC2.out, HZ.out.1, HZ.out.2.2⟩
   case measure => rw [HZ.out.2.1.left_eq, HLE.out]; exact hlt
  ·intro hr0
   subst hr0
   have hperm : ks.Perm ((ones s.dead).map (·.1)) := by simpa using hC
   have hkl : ks.length ≤ 1073741824 := by have := hperm.length_eq; simp at this; omega
   obtain ⟨aL, cL, rfl, hinL⟩ := own_dots hown
   rw [ones_keys] at hperm
   have HS := Lib.hid (dotSort_any aL cL ks wr hkl (fun d hd => hdk d (hperm.mem_iff.1 hd)) hinL)
   have HE : Hid (sortD s.dead = sortD ks) := sortD_congr (fun x => hperm.mem_iff.symm)
   clear hperm hinL hown hrg hC
   go_wp2_with (go_at_call 95; (with_reducible refine HS.out.mono ?_); rintro x w5 ⟨v5, rfl, h1, h2, h3⟩)
   go_ret
   exact ⟨v5, rfl, by rw [HE.out]; exact own_low h1 hbw.size, by rw [HE.out]; exact h2, hbw.trans (h3.mono hbw.size)⟩
def lessK (K : List EvIt) (d : Dot) : List EvIt := K.filter fun y => decide (y.1.dot ≠ d)
theorem keep_perm : ∀ {K : List EvIt} {x : EvIt}, (K.map (·.1.dot)).Nodup → x ∈ K → K.Perm (x :: lessK K x.1.dot)
 | [], _, _, h => (nomatch h)
 | y :: K, x, hn, hx => by
   rw [List.map_cons, List.nodup_cons] at hn
   rcases List.mem_cons.1 hx with rfl | hx2
   ·have : lessK (x :: K) x.1.dot = K := by
        unfold lessK
        rw [List.filter_cons_of_neg (by simp)]
        refine List.filter_eq_self.2 fun z hz => decide_eq_true fun e => hn.1 (List.mem_map.2 ⟨z, hz, e⟩)
    rw [this]
   ·have hne : y.1.dot ≠ x.1.dot := fun e => hn.1 (List.mem_map.2 ⟨x, hx2, e.symm⟩)
    have : lessK (y :: K) x.1.dot = y :: lessK K x.1.dot := by
        unfold lessK
        rw [List.filter_cons_of_pos (by simpa using hne)]
    rw [this]
    exact ((keep_perm hn.2 hx2).cons y).trans (List.Perm.swap ..)
theorem KTab.nodup {w : World} {b : Nat} {K : List EvIt} (h : KTab w b K) : (K.map (·.1.dot)).Nodup := by
 have := List.pairwise_map.1 h.apart
 exact List.pairwise_map.2 this
theorem KTab.drop {w : World} {b : Nat} {K : List EvIt} (h : KTab w b K) {x : EvIt} (hx : x ∈ K) (ty : TypeId) :
 ∃ w', (Builtin.delete_ #[103, 35] ty #[.map (some b), dotVal x.1.dot]).run Tryz.prog w = .ok (.tuple #[]) w' ∧ KTab w' b (lessK K x.1.dot) ∧ Fr (isR b) w w' := by
 have hp := (keep_perm h.nodup hx).map fun x : EvIt => (x.1.dot, x)
 exact Tab.drop_old kDot (Tab.perm h hp) Tryz.underlying103 ty
def inK (K : List EvIt) (d : Dot) : Bool := K.any fun x => decide (x.1.dot = d)
theorem inK_yes {K : List EvIt} {x : EvIt} (h : x ∈ K) : inK K x.1.dot = true := List.any_eq_true.2 ⟨x, h, decide_eq_true rfl⟩
/-- may a dead dot be cleared? -/
def clOk (s : MS) (d : Dot) : Bool := decide (d ∈ s.dead) && (hasM s.ctx d && !inK s.K d)
def clMS (s : MS) (d : Dot) : MS := if clOk s d = true then { s with dead := s.dead.filter fun x => decide (x ≠ d) } else s
section
variable {P : Program} {α β : Type} {k : TypeId} {kv : α → Value} {ok : α → Prop} {vv : β → Value} {ops : Array Oper} {o : Oper} {a : Act} {Q : Exit → Act → World → Prop}
end
def bareIt (x : EvIt) : EvIt := ({ x.1 with over := [] }, none, 0)
theorem range_bare {w : World} {b : Nat} {e : Ev} {a : Option Addr} {cap : Nat} (h : w.rangeAt b 0 (evCells e a cap)) : (w.setCell ⟨b, 18, none⟩ (.slice none 0 0)).rangeAt b 0 (evCells { e with over := [] } none 0) := by
 intro j v hv
 rw [Nat.zero_add]
 by_cases hj : j = 18
 ·subst hj
  simp [evCells] at hv
  subst hv
  exact World.cell?_setCell_same _ _ _ (h 18 _ rfl)
 ·rw [World.cell?_setCell_other _ _ _ _ (by simp [Ne.symm hj])]
  have h1 : (evCells e a cap)[j]? = some v := by
   rw [← hv]
   match j, hj with
   | 0, _ | 1, _ | 2, _ | 3, _ | 4, _ | 5, _ | 6, _ | 7, _ | 8, _ | 9, _ | 10, _ | 11, _ | 12, _ | 13, _ | 14, _ | 15, _ | 16, _ | 17, _ => rfl
   | j + 19, _ => rfl
  have := h j v h1
  rwa [Nat.zero_add] at this
/-- the alive events, by their dots -/
def aliveOf (s : MS) : List Ev := (sortD (s.pairs.map (·.2))).map (evAt s.K)
def atP (s : MS) (p : Key × Nat) : List Dot := atK s.pairs p.1
theorem flat_len_le {α β : Type} {f : α → List β} {n : Nat} : ∀ (l : List α), (∀ x ∈ l, (f x).length ≤ n) → (l.flatMap f).length ≤ l.length * n
 | [], _ => by simp
 | x :: l, h => by
   have h1 := h x List.mem_cons_self
   have h2 := flat_len_le l (fun y hy => h y (List.mem_cons_of_mem _ hy))
   rw [List.flatMap_cons, List.length_append, List.length_cons, Nat.add_mul]
   omega
theorem atP_mem {w : World} {m : Nat} {b : MB} {s : MS} (h : MpIn w m b s) (d : Dot) : d ∈ s.A.flatMap (atP s) ↔ d ∈ s.pairs.map (·.2) := by
 rw [List.mem_flatMap, List.mem_map]
 constructor
 ·rintro ⟨p, hp, hd⟩
  exact ⟨(p.1, d), atK_mem.1 hd, rfl⟩
 ·rintro ⟨q, hq, rfl⟩
  obtain ⟨n, hn⟩ := h.keys q hq
  exact ⟨_, hn, atK_mem.2 hq⟩
theorem mAlive_any {m : Nat} {b : MB} {s : MS} (w : World) (h : MpIn w m b s) (hi0 : MInv s) (hdk : ∀ x ∈ s.K, DotW x.1.dot) (hov : ∀ x ∈ s.K, x.1.over.length ≤ 64) :
 Calls Tryz.prog 35 #[.pointer (some ⟨m, 0, none⟩)] w (RetEvs (aliveOf s) w) := by
 obtain ⟨i0, hi, hz0, hz1, hz2⟩ := info_parts Tryz.infoDot
 obtain ⟨c0, c1, c2, c3⟩ := four_cells h.cell
 have htab := h.alive
 have HH := Lib.hid h
 have HBK := Lib.hid (h.low (foot_ab b s.A))
 obtain ⟨hbd1, hbd2⟩ := hi0.bounds h
 have hfl : (s.A.flatMap (atP s)).length ≤ 4194304 := by
  have h1 := flat_len_le (f := atP s) (n := 2048) s.A (fun p _ => hbd2 p.1)
  have h2 := Nat.mul_le_mul_right 2048 hbd1
  omega
 have HMem : Hid (∀ d ∈ s.A.flatMap (atP s), ∃ x ∈ s.K, x.1.dot = d) := fun d hd => by
  obtain ⟨q, hq, rfl⟩ := List.mem_map.1 ((atP_mem h d).1 hd)
  obtain ⟨x, hx, _, h3, _⟩ := (hi0.pairs q.1 q.2).1 hq
  exact ⟨x, hx, h3⟩
 have HAP := Lib.hid (fun (l : List Dot) (hl : l.Perm (s.A.flatMap (atP s))) => show (sortD l).map (evAt s.K) = aliveOf s from by
  unfold aliveOf
  rw [sortD_congr (fun d => hl.mem_iff.trans (atP_mem h d))])
 have HI := Lib.hid hi0
 have HDK := Lib.hid (And.intro hdk hov)
 clear c0 c2 c3 h hi0 hdk hov hbd1 hbd2
 go_enter Tryz.func35, Tryz.ntmps35
 go_wp2_with (at_range; refine wpList_range_tab kKey _ rfl _ 104 rfl 105 Tryz.underlying104 b.ab rfl htab ?_; intro w0 cnt0 hrg0 hb0 hs0)
 go_frame
 go_loopw [3] (fun v wr => ∃ rest cnt ks, TabIt Tryz.prog 39 keyVal KeyW mapV wr b.ab w.heap.size s.A rest cnt ∧ (ks ++ rest.flatMap (atP s)).Perm (s.A.flatMap (atP s)) ∧ wr.ownsRow (w.heap.size + 1) 35 3 v ks.length (dotVals ks) ∧ Below w.heap.size w wr) (fun _ wr => wr.rangeLeft b.ab w.heap.size)
 case atStart => exact ⟨s.A, _, [], hrg0, List.Perm.refl _, World.ownsRow_nil _ _ _ _, hb0⟩
 case round =>
  obtain ⟨rest, cnt, ks, hrg, hC, hown, hbw⟩ := hrel
  have hzw : w.heap.size + 1 ≤ wr.heap.size := by have := hrg.lt; omega
  have HLE := Lib.hid hrg.left_eq
  obtain ⟨wo, rfl⟩ : ∃ wo : World, wo = wr := ⟨_, rfl⟩
  go_wp2_with (at_next; refine wpList_next_tab kKey _ rfl _ rfl b.ab w.heap.size cnt rfl hrg ?_ ?_)
  rotate_left
  ·intro kp np rest' w2 cnt2 hperm hpm hrg2 hlt hg2 hs2 hen
   have HC2 : Hid ((ks ++ atK s.pairs kp ++ rest'.flatMap (atP s)).Perm (s.A.flatMap (atP s))) := by
        have h3 : (rest.flatMap (atP s)).Perm (((kp, np) :: rest').flatMap (atP s)) := hperm.flatMap_right _
        have h4 := h3.append_left ks
        rw [List.flatMap_cons, ← List.append_assoc] at h4
        exact h4.symm.trans hC
   have hown2 := hown.kept2 hg2 (fun g hg => by have := (hown.lt g hg).1; show ¬ g = w.heap.size; omega)
   have hb2 : Below w.heap.size w w2 := hbw.trans (hg2.below hbw.size (fun k hk => by rw [show k = w.heap.size from hk]; exact Nat.le_refl _))
   have hnp : np < w.heap.size := HH.out.low (foot_in b hpm)
   have hin : DTab w2 np (atK s.pairs kp) := (HH.out.inner (kp, np) hpm).block (hb2.block np hnp)
   have hll : (ks ++ atK s.pairs kp).length ≤ 4194304 := by
        have h5 := HC2.out.length_eq
        rw [List.length_append] at h5
        omega
   have HLT := Lib.hid hlt
   generalize atK s.pairs kp = L at *
   clear hs2 hown hrg hg2 hpm hperm hC hlt
   go_wp2_with (at_range; refine wpList_range_tab kDot _ rfl _ 105 rfl 3 Tryz.underlying105 np rfl hin ?_; intro w3 cnt3 hrg3 hb3 hs3)
   have hown0 := ownsRow_below hown2 hb3
   have hrgO := hrg2.kept hb3
   have hbO : Below w.heap.size w w3 := hb2.trans (hb3.mono hb2.size)
   have hzA2 : w.heap.size + 1 ≤ w2.heap.size := by have := hrg2.lt; omega
   have HNE : Hid (∀ (v : Value), w2.ownsRow (w.heap.size + 1) 35 3 v ks.length (dotVals ks) → ∀ g, v.ownBlock = some g → g ≠ w2.heap.size) := fun v h9 g hg => by have := (h9.lt g hg).2; omega
   go_frame
   go_loopw [3] (fun v wq => ∃ rs2 c2 ks2, TabIt Tryz.prog 35 dotVal DotW intVal wq np w2.heap.size (ones L) rs2 c2 ∧ (ks2 ++ rs2.map (·.1)).Perm (ks ++ L) ∧ wq.ownsRow (w.heap.size + 1) 35 3 v ks2.length (dotVals ks2) ∧ (∀ g, v.ownBlock = some g → g ≠ w2.heap.size) ∧ TabIt Tryz.prog 39 keyVal KeyW mapV wq b.ab w.heap.size s.A rest' cnt2 ∧ Below w.heap.size w wq) (fun _ wq => wq.rangeLeft np w2.heap.size)
   case atStart => exact ⟨ones L, _, ks, hrg3, by rw [ones_keys], hown0, HNE.out _ hown2, hrgO, hbO⟩
   case round =>
        obtain ⟨rs2, c2, ks2, hrgI, hCI, hownI, hne, hrgQ, hbq⟩ := hrel
        have HLE2 := Lib.hid hrgI.left_eq
        have hzq : w2.heap.size < wr.heap.size := hrgI.lt
        clear hown2 hown0 hrg2 hrg3 hrgO hbO hb3 hin HNE
        go_wp2_with (at_next; refine wpList_next_tab kDot _ rfl _ rfl np w2.heap.size c2 rfl hrgI ?_ ?_)
        rotate_left
        ·intro x n rs3 w5 c3 hperm3 hpm3 hrg5 hlt3 hg5 hs5 hen5
         have hlen : ks2.length < (ks ++ L).length := by
          have h1 := hCI.length_eq
          have h2 := hperm3.length_eq
          simp at h1 h2 ⊢
          omega
         have HC3 : Hid (((ks2 ++ [x]) ++ rs3.map (·.1)).Perm (ks ++ L)) := by
          have h3 : (ks2 ++ rs2.map (·.1)).Perm ((ks2 ++ [x]) ++ rs3.map (·.1)) := by
           have := (hperm3.map (·.1)).append_left ks2
           simpa using this
          exact h3.symm.trans hCI
         have hown5 := hownI.kept2 hg5 (fun g hg => hne g hg)
         have hrgQ5 := hrgQ.fr hg5 (by show ¬ b.ab = w2.heap.size; have := HBK.out; omega) (by show ¬ w.heap.size = w2.heap.size; omega)
         have hb5 : Below w.heap.size w w5 := hbq.trans (hg5.below hbq.size (fun k hk => by rw [show k = w2.heap.size from hk]; omega))
         have hsz5 := hg5.size
         have HL3 := Lib.hid hlt3
         clear hs5 hownI hrgI hg5 hrgQ hlt3
         go_upto_region 10 with fail
         refine wp_name (fun W3 hW3 => ?_)
         have hb3 : Below w5.heap.size w5 W3 := by rw [hW3.out]; go_grown
         have y0 : W3.cell? ⟨w5.heap.size, 0, none⟩ = some (.int .i64 x.a.dev) := by rw [hW3.out]; go_simp
         have y1 : W3.cell? ⟨w5.heap.size, 1, none⟩ = some (.int .i64 x.a.inc) := by rw [hW3.out]; go_simp
         have y2 : W3.cell? ⟨w5.heap.size, 2, none⟩ = some (.int .i64 x.seq) := by rw [hW3.out]; go_simp
         clear hW3
         have hown3 := ownsRow_below hown5 hb3
         have hrg3 := hrg5.kept hb3
         have hrgQ3 := hrgQ5.kept hb3
         have hsz3 := hb3.size
         have hbw3 : Below w.heap.size w W3 := hb5.trans (hb3.mono hb5.size)
         clear hown5 hrg5 hrgQ5 hb5
         go_wp2_with (at_builtin; go_loud (refine wpList_append_own_at _ rfl _ _ 29 rfl (w.heap.size + 1) 35 i0 (.agg #[.int .i64 0, .int .i64 0, .int .i64 0]) 3 24 Tryz.underlying29 hi hz0 hz1 hz2 rfl (by decide) _ _ _ rfl (hown3.alloc _) ⟨W3.heap.size, 0, none⟩ 1 1 [.int .i64 x.a.dev, .int .i64 x.a.inc, .int .i64 x.seq] rfl rfl (cells_new _ _ _) (by simp [Value.oneCell']) (by unfold maxLen; omega) (by omega) (by simp; omega) ?_); intro v2 w4 hown4 hgrow _ hat)
         have hb4 : Below W3.heap.size W3 (W3.alloc (.cells #[.int .i64 x.a.dev, .int .i64 x.a.inc, .int .i64 x.seq] 35)) := (Below.refl _ _).alloc (Nat.le_refl _) _
         have hnp2 : np ≠ w.heap.size := by omega
         have hlowg : ∀ k, (∀ g, (some k : Option Nat) = some g → g < w.heap.size + 1 ∨ g = w2.heap.size) → k < W3.heap.size → w4.heap[k]? = (W3.alloc (.cells #[.int .i64 x.a.dev, .int .i64 x.a.inc, .int .i64 x.seq] 35)).heap[k]? := fun k hk hlt9 => hgrow.block k (by simp; omega) (fun e => by
          rcases hk k rfl with h9 | h9
          ·have := (hown3.lt k e.symm).1; omega
          ·exact hne k e.symm h9)
         have hrg4 : TabIt Tryz.prog 35 dotVal DotW intVal w4 np w2.heap.size (ones L) rs3 c3 := (hrg3.kept hb4).block (hlowg _ (fun g hg => by cases hg; exact Or.inl (by omega)) (by omega)) (hlowg _ (fun g hg => by cases hg; exact Or.inr rfl) (by omega))
         have hrgQ4 : TabIt Tryz.prog 39 keyVal KeyW mapV w4 b.ab w.heap.size s.A rest' cnt2 := (hrgQ3.kept hb4).block (hlowg _ (fun g hg => by cases hg; exact Or.inl (by have := HBK.out; omega)) (by have := HBK.out; omega)) (hlowg _ (fun g hg => by cases hg; exact Or.inl (by omega)) (by omega))
         have hne4 : ∀ g, v2.ownBlock = some g → g ≠ w2.heap.size := fun g hg => by
          rcases hat with h9 | h9
          ·exact hne g (h9.symm.trans hg)
          ·rw [h9] at hg
           simp only [Option.some.injEq, World.size_alloc] at hg
           omega
         have HZ := Lib.hid (And.intro (show w4.ownsRow (w.heap.size + 1) 35 3 v2 (ks2 ++ [x]).length (dotVals (ks2 ++ [x])) by rw [dotVals_snoc, List.length_append]; exact hown4) (And.intro hrg4 (And.intro hne4 (And.intro hrgQ4 ((hbw3.trans (hb4.mono hbw3.size)).grown hgrow (by simp; omega) (fun j hj => by have := (hown3.lt j hj).1; omega))))))
         clear hown4 hrg4 hrgQ4 hgrow hown3 hrg3 hrgQ3 y0 y1 y2 hne4 hat hlowg hbw3 hb4 hb3
         go_wp2
         go_roundw
         case rel => exact ⟨rs3, c3, ks2 ++ [x], HZ.out.2.1, HC3.out, HZ.out.1, HZ.out.2.2.1, HZ.out.2.2.2.1, HZ.out.2.2.2.2⟩
         case measure => rw [HZ.out.2.1.left_eq, HLE2.out]; exact HL3.out
        ·intro hr0
         subst hr0
         have hpermI : ks2.Perm (ks ++ L) := by simpa using hCI
         have HZ : Hid (TabIt Tryz.prog 39 keyVal KeyW mapV wr b.ab w.heap.size s.A rest' cnt2 ∧ (ks2 ++ rest'.flatMap (atP s)).Perm (s.A.flatMap (atP s)) ∧ Below w.heap.size w wr) := ⟨hrgQ, (hpermI.append_right _).trans HC2.out, hbq⟩
         have HO := Lib.hid hownI
         clear hrgQ hbq hpermI hCI hrgI hownI
         go_wp2
         go_roundw
         case rel => exact ⟨rest', cnt2, ks2, HZ.out.1, HZ.out.2.1, HO.out, HZ.out.2.2⟩
         case measure => rw [HZ.out.1.left_eq, HLE.out]; exact HLT.out
  ·intro hr0
   subst hr0
   have hperm : ks.Perm (s.A.flatMap (atP s)) := by simpa using hC
   have hkl : ks.length ≤ 4194304 := by have := hperm.length_eq; omega
   obtain ⟨aL, cL, rfl, hinL⟩ := own_dots hown
   have HS := Lib.hid (mSorted_any aL cL ks wo (HH.out.kept_w hbw) (by omega) HDK.out.2 (fun d hd => by obtain ⟨x, hx, rfl⟩ := HMem.out d (hperm.mem_iff.1 hd); exact HDK.out.1 x hx) (fun d hd => HMem.out d (hperm.mem_iff.1 hd)) hinL)
   have HE := Lib.hid (HAP.out ks hperm)
   clear hperm hinL hown hrg hC
   go_wp2_with (go_at_call 93; (with_reducible refine HS.out.mono ?_); rintro x w5 ⟨a5, ls, c5, rfl, h1, h2, h3⟩)
   go_ret
   exact ⟨a5, ls, c5, rfl, h1, ⟨by rw [h2.1]; exact HE.out, h2.2⟩, hbw.trans (h3.mono hbw.size)⟩
end Go.Proofs.YtpbobhfnglikmaaGreat
