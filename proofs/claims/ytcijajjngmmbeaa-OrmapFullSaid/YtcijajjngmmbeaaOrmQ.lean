/- The map of events: Forget. Conditions: as in the text. -/
import Derived.Test.YtcijajjngmmbeaaOrmP
set_option linter.unusedSimpArgs false
set_option linter.unusedVariables false
set_option linter.unnecessarySimpa false
namespace Go.Proofs.Ytcijajjngmmbeaa
open Go.RowKit

def lessK (K : List EvIt) (d : Dot) : List EvIt := K.filter fun y => decide (y.1.dot ≠ d)
/-- may the event of a dot be forgotten? -/
def fgOk (s : MS) (d : Dot) : Bool := s.K.any fun x => decide (x.1.dot = d) && (!decide (x.1.kind = 1) || decide (d ∈ s.dead))
def fgMS (s : MS) (d : Dot) : MS := if fgOk s d = true then { s with K := lessK s.K d } else s
theorem keep_perm : ∀ {K : List EvIt} {x : EvIt}, (K.map (·.1.dot)).Nodup → x ∈ K → K.Perm (x :: lessK K x.1.dot)
  | [], _, _, h => (nomatch h)
  | y :: K, x, hn, hx => by
    rw [List.map_cons, List.nodup_cons] at hn
    rcases List.mem_cons.1 hx with rfl | hx2
    · have : lessK (x :: K) x.1.dot = K := by
        unfold lessK
        rw [List.filter_cons_of_neg (by simp)]
        refine List.filter_eq_self.2 fun z hz => decide_eq_true fun e => hn.1 (List.mem_map.2 ⟨z, hz, e⟩)
      rw [this]
    · have hne : y.1.dot ≠ x.1.dot := fun e => hn.1 (List.mem_map.2 ⟨x, hx2, e.symm⟩)
      have : lessK (y :: K) x.1.dot = y :: lessK K x.1.dot := by
        unfold lessK
        rw [List.filter_cons_of_pos (by simpa using hne)]
      rw [this]
      exact ((keep_perm hn.2 hx2).cons y).trans (List.Perm.swap ..)
theorem KTab.nodup {w : World} {b : Nat} {K : List EvIt} (h : KTab w b K) : (K.map (·.1.dot)).Nodup := by
  have := List.pairwise_map.1 h.apart
  exact List.pairwise_map.2 this
theorem KTab.drop {w : World} {b : Nat} {K : List EvIt} (h : KTab w b K) {x : EvIt} (hx : x ∈ K) (ty : TypeId) :
    ∃ w', (Builtin.delete_ #[45, 27] ty #[.map (some b), dotVal x.1.dot]).run Try.prog w = .ok (.tuple #[]) w' ∧ KTab w' b (lessK K x.1.dot) ∧ Fr (isR b) w w' := by
  have hp := (keep_perm h.nodup hx).map fun x : EvIt => (x.1.dot, x)
  exact Tab.drop_old kDot (Tab.perm h hp) Try.underlying45 ty
theorem fgOk_at {w : World} {b : Nat} {s : MS} (h : KTab w b s.K) {x : EvIt} (hx : x ∈ s.K) : fgOk s x.1.dot = (!decide (x.1.kind = 1) || decide (x.1.dot ∈ s.dead)) := by
  unfold fgOk
  rw [Bool.eq_iff_iff, List.any_eq_true]
  constructor
  · rintro ⟨y, hy, h2⟩
    rw [Bool.and_eq_true, decide_eq_true_eq] at h2
    have hp := (keep_perm h.nodup hx).mem_iff.1 hy
    rcases List.mem_cons.1 hp with rfl | hp
    · exact h2.2
    · have := (List.mem_filter.1 hp).2
      rw [decide_eq_true_eq] at this
      exact absurd h2.1 this
  · intro h2
    exact ⟨x, hx, by rw [Bool.and_eq_true, decide_eq_true_eq]; exact ⟨rfl, h2⟩⟩
theorem fgOk_no {s : MS} {d : Dot} (h : ∀ y ∈ s.K, y.1.dot ≠ d) : fgOk s d = false := by
  unfold fgOk
  rw [List.any_eq_false]
  intro y hy h2
  rw [Bool.and_eq_true, decide_eq_true_eq] at h2
  exact h y hy h2.1
def RetFg (m : Nat) (b : MB) (s : MS) (d : Dot) (w : World) (x : Ending) (w' : World) : Prop :=
  x = .returned (.bool (fgOk s d)) ∧ MpIn w' m b (fgMS s d) ∧ Fr (isR b.kb) w w'

set_option maxRecDepth 100000 in
set_option maxHeartbeats 4000000 in
theorem mForget_any {m : Nat} {b : MB} {s : MS} (d : Dot) (hd : DotW d) (w : World) (h : MpIn w m b s) :
    Calls Try.prog 7 #[.pointer (some ⟨m, 0, none⟩), dotVal d] w (RetFg m b s d w) := by
  have HH := Lib.hid h
  have HD := Lib.hid (fun (X : World) (h : MpIn X m b s) => mDead_any d hd X h)
  go_enter Try.func7, Try.ntmps7
  go_upto_region 3 with fail
  refine wp_name (fun W hW => ?_)
  have hbw : Below w.heap.size w W := by rw [hW.out]; go_grown
  have h2 : MpIn W.drew m b s := (h.kept_w hbw).kept_w (Below.refl _ _).drew
  have x0 : W.drew.cell? ⟨w.heap.size, 0, none⟩ = some (.int .i64 d.a.dev) := by rw [hW.out]; go_simp
  have x1 : W.drew.cell? ⟨w.heap.size, 1, none⟩ = some (.int .i64 d.a.inc) := by rw [hW.out]; go_simp
  have x2 : W.drew.cell? ⟨w.heap.size, 2, none⟩ = some (.int .i64 d.seq) := by rw [hW.out]; go_simp
  have xm : W.drew.cell? ⟨m, 0, none⟩ = some (.map (some b.kb)) := (four_cells h2.cell).1
  clear hW h
  obtain ⟨x, ok, hlk, hcase⟩ : ∃ (x : EvIt) (ok : Bool), (∀ X : World, KTab X b.kb s.K → (Instr.lookup 45 (.map (some b.kb)) (dotVal d) true).run Try.prog X = .ok (.tuple #[evV x, .bool ok]) X) ∧ ((ok = true ∧ x ∈ s.K ∧ x.1.dot = d) ∨ (ok = false ∧ ∀ y ∈ s.K, y.1.dot ≠ d)) := by
    rcases KTab.look h2.kept hd with ⟨x, hx, hxd, hX⟩ | ⟨hno, hX⟩
    · exact ⟨x, true, hX, Or.inl ⟨rfl, hx, hxd⟩⟩
    · exact ⟨(ev0, none, 0), false, hX, Or.inr ⟨rfl, hno⟩⟩
  obtain ⟨e, ea, ec⟩ := x
  have hl2 := hlk W.drew h2.kept
  have HC := Lib.hid hcase
  clear hcase
  refine wp_region_noPanic ?_
  refine wp_region_late (fun X => Below W.drew.heap.size W.drew X) [] (by kernel_rfl) ?_
  have hb0 : Below W.drew.heap.size W.drew W.drew := Below.refl _ _
  refine wpAnyL_take (i := 0) (oi := ⟨some 10, _, _, _, _, _⟩) (v := ?_) rfl (by kernel_rfl) (by kernel_rfl) (by kernel_rfl) (by kernel_rfl) (by kernel_rfl) (fun _ _ _ h => h) (Or.inl ⟨by rfl, ?_⟩) (by assumption) ?_
  case refine_2 => (rintro w hSw; have s0 := kept hSw x0; have s1 := kept hSw x1; have s2 := kept hSw x2; have sm := kept hSw xm; have sl := hlk w (h2.kept.kept hSw); go_simp; try with_reducible rfl)
  try simp only [Act.put, List.setIfInBounds_toArray, List.set_cons_zero, List.set_cons_succ]
  refine wpAnyL_take (i := 1) (oi := ⟨some 11, _, _, _, _, _⟩) (v := ?_) rfl (by kernel_rfl) (by kernel_rfl) (by kernel_rfl) (by kernel_rfl) (by kernel_rfl) (fun _ _ _ h => h) (Or.inl ⟨by rfl, ?_⟩) (by assumption) ?_
  case refine_2 => (rintro w hSw; have s0 := kept hSw x0; have s1 := kept hSw x1; have s2 := kept hSw x2; have sm := kept hSw xm; have sl := hlk w (h2.kept.kept hSw); go_simp; try with_reducible rfl)
  try simp only [Act.put, List.setIfInBounds_toArray, List.set_cons_zero, List.set_cons_succ]
  refine wpAnyL_take (i := 2) (oi := ⟨some 12, _, _, _, _, _⟩) (v := ?_) rfl (by kernel_rfl) (by kernel_rfl) (by kernel_rfl) (by kernel_rfl) (by kernel_rfl) (fun _ _ _ h => h) (Or.inl ⟨by rfl, ?_⟩) (by assumption) ?_
  case refine_2 => (rintro w hSw; have s0 := kept hSw x0; have s1 := kept hSw x1; have s2 := kept hSw x2; have sm := kept hSw xm; have sl := hlk w (h2.kept.kept hSw); go_simp; try with_reducible rfl)
  try simp only [Act.put, List.setIfInBounds_toArray, List.set_cons_zero, List.set_cons_succ]
  refine wpAnyL_take (i := 3) (oi := ⟨some 13, _, _, _, _, _⟩) (v := ?_) rfl (by kernel_rfl) (by kernel_rfl) (by kernel_rfl) (by kernel_rfl) (by kernel_rfl) (fun _ _ _ h => h) (Or.inl ⟨by rfl, ?_⟩) (by assumption) ?_
  case refine_2 => (rintro w hSw; have s0 := kept hSw x0; have s1 := kept hSw x1; have s2 := kept hSw x2; have sm := kept hSw xm; have sl := hlk w (h2.kept.kept hSw); go_simp; try with_reducible rfl)
  try simp only [Act.put, List.setIfInBounds_toArray, List.set_cons_zero, List.set_cons_succ]
  refine wpAnyL_take (i := 4) (oi := ⟨some 14, _, _, _, _, _⟩) (v := ?_) rfl (by kernel_rfl) (by kernel_rfl) (by kernel_rfl) (by kernel_rfl) (by kernel_rfl) (fun _ _ _ h => h) (Or.inl ⟨by rfl, ?_⟩) (by assumption) ?_
  case refine_2 => (rintro w hSw; have s0 := kept hSw x0; have s1 := kept hSw x1; have s2 := kept hSw x2; have sm := kept hSw xm; have sl := hlk w (h2.kept.kept hSw); go_simp; try with_reducible rfl)
  try simp only [Act.put, List.setIfInBounds_toArray, List.set_cons_zero, List.set_cons_succ]
  refine wpAnyL_take (i := 5) (oi := ⟨some 15, _, _, _, _, _⟩) (v := ?_) rfl (by kernel_rfl) (by kernel_rfl) (by kernel_rfl) (by kernel_rfl) (by kernel_rfl) (fun _ _ _ h => h) (Or.inl ⟨by rfl, ?_⟩) (by assumption) ?_
  case refine_2 => (rintro w hSw; have s0 := kept hSw x0; have s1 := kept hSw x1; have s2 := kept hSw x2; have sm := kept hSw xm; have sl := hlk w (h2.kept.kept hSw); go_simp; try with_reducible rfl)
  try simp only [Act.put, List.setIfInBounds_toArray, List.set_cons_zero, List.set_cons_succ]
  refine wpAnyL_take (i := 6) (oi := ⟨some 9, _, _, _, _, _⟩) (v := ?_) rfl (by kernel_rfl) (by kernel_rfl) (by kernel_rfl) (by kernel_rfl) (by kernel_rfl) (fun _ _ _ h => h) (Or.inl ⟨by rfl, ?_⟩) (by assumption) ?_
  case refine_2 => (rintro w hSw; have s0 := kept hSw x0; have s1 := kept hSw x1; have s2 := kept hSw x2; have sm := kept hSw xm; have sl := hlk w (h2.kept.kept hSw); go_simp; try with_reducible rfl)
  try simp only [Act.put, List.setIfInBounds_toArray, List.set_cons_zero, List.set_cons_succ]
  refine wpAnyL_take (i := 7) (oi := ⟨some 16, _, _, _, _, _⟩) (v := ?_) rfl (by kernel_rfl) (by kernel_rfl) (by kernel_rfl) (by kernel_rfl) (by kernel_rfl) (fun _ _ _ h => h) (Or.inl ⟨by rfl, ?_⟩) (by assumption) ?_
  case refine_2 => (rintro w hSw; have s0 := kept hSw x0; have s1 := kept hSw x1; have s2 := kept hSw x2; have sm := kept hSw xm; have sl := hlk w (h2.kept.kept hSw); go_simp; try with_reducible rfl)
  try simp only [Act.put, List.setIfInBounds_toArray, List.set_cons_zero, List.set_cons_succ]
  refine wpAnyL_take (i := 8) (oi := ⟨some 17, _, _, _, _, _⟩) (v := ?_) rfl (by kernel_rfl) (by kernel_rfl) (by kernel_rfl) (by kernel_rfl) (by kernel_rfl) (fun _ _ _ h => h) (Or.inl ⟨by rfl, ?_⟩) (by assumption) ?_
  case refine_2 => (rintro w hSw; have s0 := kept hSw x0; have s1 := kept hSw x1; have s2 := kept hSw x2; have sm := kept hSw xm; have sl := hlk w (h2.kept.kept hSw); go_simp; try with_reducible rfl)
  try simp only [Act.put, List.setIfInBounds_toArray, List.set_cons_zero, List.set_cons_succ]
  refine wpAnyL_one (i := 9) (o := ⟨some 5, _, _, _, _, _⟩) (by kernel_rfl) rfl ?_
  intro K hK
  go_simp
  refine hK.out _ _ (Or.inr (below_allocD W _)) ?_
  clear hK K
  try simp only [Act.put, List.setIfInBounds_toArray, List.set_cons_zero, List.set_cons_succ]
  refine wpAnyL_one (i := 10) (o := ⟨none, _, _, _, _, _⟩) (by kernel_rfl) rfl ?_
  intro K hK
  refine step_store_newD (by rfl) 39 (.tmp 5) (.tmp 16) rfl W _ (evCells e ea ec).toArray rfl rfl rfl (by kernel_rfl) rfl (by kernel_rfl) ?_
  refine hK.out _ _ (Or.inr (below_allocD W _)) ?_
  clear hK K
  try simp only [Act.put, List.setIfInBounds_toArray, List.set_cons_zero, List.set_cons_succ]
  refine wpAnyL_one (i := 11) (o := ⟨some 6, _, _, _, _, _⟩) (by kernel_rfl) rfl ?_
  intro K hK
  go_simp
  refine hK.out _ _ (Or.inr (below_allocD W _)) ?_
  clear hK K
  try simp only [Act.put, List.setIfInBounds_toArray, List.set_cons_zero, List.set_cons_succ]
  refine wpAnyL_done (by kernel_rfl) ?_ _
  refine NoPanic.normal ?_
  obtain ⟨W4, hW4⟩ : ∃ W4, W4 = (W.alloc (Obj.cells (evCells e ea ec).toArray 39)).drew := ⟨_, rfl⟩
  rw [← hW4]
  have hR : W4.rangeAt W.heap.size 0 (evCells e ea ec) := by rw [hW4]; exact evCells_box e ea ec W _
  have hb4 : Below W.drew.heap.size W.drew W4 := by rw [hW4]; exact below_allocD W _
  clear hW4 hl2 hlk hb0
  have h4 := h2.kept_w hb4
  replace x0 := kept hb4 x0
  replace x1 := kept hb4 x1
  replace x2 := kept hb4 x2
  have hf : Below w.heap.size w W4 := hbw.trans ((below_undrew hb4).mono hbw.size)
  have v6 : W4.cell? ⟨W.heap.size, 6, none⟩ = some (.int .i64 e.kind) := by have := hR 6 _ rfl; rwa [Nat.zero_add] at this
  have HF := Lib.hid hf
  have H4 := Lib.hid h4
  clear hR xm h2 hb4 hf hbw
  rcases HC.out with ⟨rfl, hxK, hxd⟩ | ⟨rfl, hno⟩
  case inr =>
    have HE : Hid (fgOk s d = false) := fgOk_no hno
    clear hno HC h4
    go_wp2
    all_goals
      go_ret
      exact ⟨by rw [HE.out]; rfl, by unfold fgMS; rw [HE.out]; exact H4.out, Fr.of_below HF.out⟩
  have HE : Hid (fgOk s d = (!decide (e.kind = 1) || decide (d ∈ s.dead))) := by have := fgOk_at h4.kept hxK; rw [hxd] at this; exact this
  have HX := Lib.hid (And.intro hxK hxd)
  clear hxK hxd HC
  obtain ⟨q, hq⟩ : ∃ q, q = decide (d ∈ s.dead) := ⟨_, rfl⟩
  rw [← hq] at HD HE
  clear hq
  by_cases hk : e.kind = 1
  · have hkb : (e.kind == 1) = true := by rw [hk]; rfl
    cases q with
    | true =>
      have HT : Hid (fgOk s d = true) := by rw [Hid, HE.out]; simp
      clear HE hk
      go_upto_region 6 with (go_at_call 16; (with_reducible refine (HD.out _ h4).mono ?_); rintro x w5 ⟨rfl, hb5⟩)
      have y0 := kept hb5 x0
      have y1 := kept hb5 x1
      have y2 := kept hb5 x2
      have hm5 := h4.kept_w hb5
      have ym := (four_cells hm5.cell).1
      have hf5 : Below w.heap.size w w5 := HF.out.trans (hb5.mono HF.out.size)
      clear hb5 x0 x1 x2 v6 h4
      obtain ⟨w6, hrun6, htab6, hfr6⟩ := KTab.drop (w := w5.drew) (hm5.kept_w (Below.refl _ _).drew).kept HX.out.1 0
      rw [show (e, ea, ec).1.dot = d from HX.out.2] at hrun6 htab6
      replace hfr6 : Fr (isR b.kb) w5 w6 := hfr6.undrew
      have hK6 := hm5.keeps hfr6 (fun i hi => by subst hi; exact foot_kb b _)
      have HM := Lib.hid (hm5.setKept htab6 (fun x hx => hK6.dots (hm5.overs x (List.mem_filter.1 hx).1)) hfr6)
      have HFF := Lib.hid ((Fr.of_below hf5 : Fr (isR b.kb) w w5).again hfr6)
      clear htab6 hfr6 hK6 hm5 hf5
      refine wp_region_noPanic ?_
      refine wp_region_late (fun W' => (W'.cell? ⟨w.heap.size, 0, none⟩ = some (.int .i64 d.a.dev) ∧ W'.cell? ⟨w.heap.size, 1, none⟩ = some (.int .i64 d.a.inc) ∧ W'.cell? ⟨w.heap.size, 2, none⟩ = some (.int .i64 d.seq)) ∧ W'.cell? ⟨m, 0, none⟩ = some (.map (some b.kb))) [5] (by kernel_rfl) ?_
      have hS := And.intro (And.intro (show w5.drew.cell? _ = _ from y0) (And.intro (show w5.drew.cell? _ = _ from y1) (show w5.drew.cell? _ = _ from y2))) (show w5.drew.cell? _ = _ from ym)
      refine wpAnyL_take (i := 0) (oi := ⟨some 31, _, _, _, _, _⟩) (v := ?_) rfl (by kernel_rfl) (by kernel_rfl) (by kernel_rfl) (by kernel_rfl) (by kernel_rfl) (fun _ _ _ h => h) (Or.inl ⟨by rfl, ?_⟩) (by assumption) ?_
      case refine_2 => (rintro w ⟨⟨s0, s1, s2⟩, sm⟩; go_simp; try with_reducible rfl)
      try simp only [Act.put, List.setIfInBounds_toArray, List.set_cons_zero, List.set_cons_succ]
      refine wpAnyL_take (i := 1) (oi := ⟨some 32, _, _, _, _, _⟩) (v := ?_) rfl (by kernel_rfl) (by kernel_rfl) (by kernel_rfl) (by kernel_rfl) (by kernel_rfl) (fun _ _ _ h => h) (Or.inl ⟨by rfl, ?_⟩) (by assumption) ?_
      case refine_2 => (rintro w ⟨⟨s0, s1, s2⟩, sm⟩; go_simp; try with_reducible rfl)
      try simp only [Act.put, List.setIfInBounds_toArray, List.set_cons_zero, List.set_cons_succ]
      refine wpAnyL_take (i := 2) (oi := ⟨some 33, _, _, _, _, _⟩) (v := ?_) rfl (by kernel_rfl) (by kernel_rfl) (by kernel_rfl) (by kernel_rfl) (by kernel_rfl) (fun _ _ _ h => h) (Or.inl ⟨by rfl, ?_⟩) (by assumption) ?_
      case refine_2 => (rintro w ⟨⟨s0, s1, s2⟩, sm⟩; go_simp; try with_reducible rfl)
      try simp only [Act.put, List.setIfInBounds_toArray, List.set_cons_zero, List.set_cons_succ]
      refine wpAnyL_take (i := 3) (oi := ⟨some 34, _, _, _, _, _⟩) (v := ?_) rfl (by kernel_rfl) (by kernel_rfl) (by kernel_rfl) (by kernel_rfl) (by kernel_rfl) (fun _ _ _ h => h) (Or.inl ⟨by rfl, ?_⟩) (by assumption) ?_
      case refine_2 => (rintro w ⟨⟨s0, s1, s2⟩, sm⟩; go_simp; try with_reducible rfl)
      try simp only [Act.put, List.setIfInBounds_toArray, List.set_cons_zero, List.set_cons_succ]
      refine wpAnyL_take (i := 4) (oi := ⟨some 35, _, _, _, _, _⟩) (v := ?_) rfl (by kernel_rfl) (by kernel_rfl) (by kernel_rfl) (by kernel_rfl) (by kernel_rfl) (fun _ _ _ h => h) (Or.inl ⟨by rfl, ?_⟩) (by assumption) ?_
      case refine_2 => (rintro w ⟨⟨s0, s1, s2⟩, sm⟩; go_simp; try with_reducible rfl)
      try simp only [Act.put, List.setIfInBounds_toArray, List.set_cons_zero, List.set_cons_succ]
      refine wpAnyL_one (i := 5) (o := ⟨none, _, _, _, _, _⟩) (by kernel_rfl) rfl ?_
      intro K hK
      go_simp
      refine hK.out _ _ (Or.inl (by kernel_rfl)) ?_
      clear hK K
      try simp only [Act.put, List.setIfInBounds_toArray, List.set_cons_zero, List.set_cons_succ]
      refine wpAnyL_done (by kernel_rfl) ?_ _
      refine NoPanic.normal ?_
      clear hS hrun6 y0 y1 y2 ym
      go_wp2
      go_ret
      exact ⟨by rw [HT.out]; rfl, by unfold fgMS; rw [HT.out]; exact HM.out, HFF.out⟩
    | false =>
      have HT : Hid (fgOk s d = false) := by rw [Hid, HE.out, decide_eq_true hk]; rfl
      clear HE hk
      go_wp2_with (go_at_call 16; (with_reducible refine (HD.out _ h4).mono ?_); rintro x w5 ⟨rfl, hb5⟩)
      go_ret
      exact ⟨by rw [HT.out]; rfl, by unfold fgMS; rw [HT.out]; exact H4.out.kept_w hb5, Fr.of_below (HF.out.trans (hb5.mono HF.out.size))⟩
  · have hkb : (e.kind == 1) = false := by rw [beq_eq_false_iff_ne]; exact hk
    have HT : Hid (fgOk s d = true) := by rw [Hid, HE.out, decide_eq_false hk]; rfl
    clear HE hk
    go_upto_region 6 with fail
    have y0 := x0
    have y1 := x1
    have y2 := x2
    have hm5 := h4
    have ym := (four_cells hm5.cell).1
    have hf5 := HF.out
    clear x0 x1 x2 v6 h4
    obtain ⟨w6, hrun6, htab6, hfr6⟩ := KTab.drop (w := W4.drew) (hm5.kept_w (Below.refl _ _).drew).kept HX.out.1 0
    rw [show (e, ea, ec).1.dot = d from HX.out.2] at hrun6 htab6
    replace hfr6 : Fr (isR b.kb) W4 w6 := hfr6.undrew
    have hK6 := hm5.keeps hfr6 (fun i hi => by subst hi; exact foot_kb b _)
    have HM := Lib.hid (hm5.setKept htab6 (fun x hx => hK6.dots (hm5.overs x (List.mem_filter.1 hx).1)) hfr6)
    have HFF := Lib.hid ((Fr.of_below hf5 : Fr (isR b.kb) w W4).again hfr6)
    clear htab6 hfr6 hK6 hm5 hf5
    refine wp_region_noPanic ?_
    refine wp_region_late (fun W' => (W'.cell? ⟨w.heap.size, 0, none⟩ = some (.int .i64 d.a.dev) ∧ W'.cell? ⟨w.heap.size, 1, none⟩ = some (.int .i64 d.a.inc) ∧ W'.cell? ⟨w.heap.size, 2, none⟩ = some (.int .i64 d.seq)) ∧ W'.cell? ⟨m, 0, none⟩ = some (.map (some b.kb))) [5] (by kernel_rfl) ?_
    have hS := And.intro (And.intro (show W4.drew.cell? _ = _ from y0) (And.intro (show W4.drew.cell? _ = _ from y1) (show W4.drew.cell? _ = _ from y2))) (show W4.drew.cell? _ = _ from ym)
    refine wpAnyL_take (i := 0) (oi := ⟨some 31, _, _, _, _, _⟩) (v := ?_) rfl (by kernel_rfl) (by kernel_rfl) (by kernel_rfl) (by kernel_rfl) (by kernel_rfl) (fun _ _ _ h => h) (Or.inl ⟨by rfl, ?_⟩) (by assumption) ?_
    case refine_2 => (rintro w ⟨⟨s0, s1, s2⟩, sm⟩; go_simp; try with_reducible rfl)
    try simp only [Act.put, List.setIfInBounds_toArray, List.set_cons_zero, List.set_cons_succ]
    refine wpAnyL_take (i := 1) (oi := ⟨some 32, _, _, _, _, _⟩) (v := ?_) rfl (by kernel_rfl) (by kernel_rfl) (by kernel_rfl) (by kernel_rfl) (by kernel_rfl) (fun _ _ _ h => h) (Or.inl ⟨by rfl, ?_⟩) (by assumption) ?_
    case refine_2 => (rintro w ⟨⟨s0, s1, s2⟩, sm⟩; go_simp; try with_reducible rfl)
    try simp only [Act.put, List.setIfInBounds_toArray, List.set_cons_zero, List.set_cons_succ]
    refine wpAnyL_take (i := 2) (oi := ⟨some 33, _, _, _, _, _⟩) (v := ?_) rfl (by kernel_rfl) (by kernel_rfl) (by kernel_rfl) (by kernel_rfl) (by kernel_rfl) (fun _ _ _ h => h) (Or.inl ⟨by rfl, ?_⟩) (by assumption) ?_
    case refine_2 => (rintro w ⟨⟨s0, s1, s2⟩, sm⟩; go_simp; try with_reducible rfl)
    try simp only [Act.put, List.setIfInBounds_toArray, List.set_cons_zero, List.set_cons_succ]
    refine wpAnyL_take (i := 3) (oi := ⟨some 34, _, _, _, _, _⟩) (v := ?_) rfl (by kernel_rfl) (by kernel_rfl) (by kernel_rfl) (by kernel_rfl) (by kernel_rfl) (fun _ _ _ h => h) (Or.inl ⟨by rfl, ?_⟩) (by assumption) ?_
    case refine_2 => (rintro w ⟨⟨s0, s1, s2⟩, sm⟩; go_simp; try with_reducible rfl)
    try simp only [Act.put, List.setIfInBounds_toArray, List.set_cons_zero, List.set_cons_succ]
    refine wpAnyL_take (i := 4) (oi := ⟨some 35, _, _, _, _, _⟩) (v := ?_) rfl (by kernel_rfl) (by kernel_rfl) (by kernel_rfl) (by kernel_rfl) (by kernel_rfl) (fun _ _ _ h => h) (Or.inl ⟨by rfl, ?_⟩) (by assumption) ?_
    case refine_2 => (rintro w ⟨⟨s0, s1, s2⟩, sm⟩; go_simp; try with_reducible rfl)
    try simp only [Act.put, List.setIfInBounds_toArray, List.set_cons_zero, List.set_cons_succ]
    refine wpAnyL_one (i := 5) (o := ⟨none, _, _, _, _, _⟩) (by kernel_rfl) rfl ?_
    intro K hK
    go_simp
    refine hK.out _ _ (Or.inl (by kernel_rfl)) ?_
    clear hK K
    try simp only [Act.put, List.setIfInBounds_toArray, List.set_cons_zero, List.set_cons_succ]
    refine wpAnyL_done (by kernel_rfl) ?_ _
    refine NoPanic.normal ?_
    clear hS hrun6 y0 y1 y2 ym
    go_wp2
    go_ret
    exact ⟨by rw [HT.out]; rfl, by unfold fgMS; rw [HT.out]; exact HM.out, HFF.out⟩
end Go.Proofs.Ytcijajjngmmbeaa
