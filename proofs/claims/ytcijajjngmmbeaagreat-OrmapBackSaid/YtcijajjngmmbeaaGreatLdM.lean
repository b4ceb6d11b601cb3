/- The map of events: Load. Conditions: as in the text. -/
import Derived.Test.YtcijajjngmmbeaaGreatRefLd
set_option linter.unusedSimpArgs false
set_option linter.unusedVariables false
set_option linter.unnecessarySimpa false
namespace Go.Proofs.YtcijajjngmmbeaaGreat
open Go.RowKit

theorem setCell_heap {w : World} {g i : Nat} {cs : Array Value} {t : TypeId} {f : Nat × Nat} {v : Value} (hg : w.heap[g]? = some (.cells cs t f)) : (w.setCell ⟨g, i, none⟩ v).heap[g]? = some (.cells (cs.setIfInBounds i v) t f) := by
  simp only [World.setCell, Array.getElem?_modify, if_pos, hg]
  simp
/-- a new map with a context of its own -/
theorem mp_setSeen {w : World} {m v vb : Nat} {b : MB} {ctx : List Dot} (h : MpIn w m b MS.empty) (hv : VecIn w v vb ctx) (hn : ∀ k, foot b [] k → k ≠ vb) :
    MpIn (w.setCell ⟨m, 3, none⟩ (.pointer (some ⟨v, 0, none⟩))) m ⟨b.kb, b.ab, b.db, v, vb⟩ ⟨ctx, [], [], [], []⟩ := by
  have hk : ∀ k, k ≠ m → (w.setCell ⟨m, 3, none⟩ (.pointer (some ⟨v, 0, none⟩))).heap[k]? = w.heap[k]? := fun k hk => heap_setCell_other _ _ _ _ (fun e => hk e.symm)
  have hmf : ∀ k, foot b MS.empty.A k → k ≠ m := fun k hk e => by
    obtain ⟨es, cl, h1⟩ := h.maps hk
    rw [e, h.cell] at h1
    cases h1
  have hvm : v ≠ m := fun e => by
    have h1 := hv.cell
    rw [e, h.cell] at h1
    simp at h1
  have hvbm : vb ≠ m := fun e => by
    obtain ⟨es, cl, h1⟩ := hv.tab.mapped
    rw [e, h.cell] at h1
    cases h1
  obtain ⟨n1, n2, n3, n4, n5, n6, n7, n8⟩ := blocks_nd h.nodup
  refine ⟨?_, hv.block (hk _ hvm) (hk _ hvbm), h.kept.block (hk _ (hmf _ (foot_kb b _))), fun x hx => (nomatch hx), h.dead.block (hk _ (hmf _ (foot_db b _))), h.alive.block (hk _ (hmf _ (foot_ab b _))), fun p hp => (nomatch hp), fun p hp => (nomatch hp), fun p hp => (nomatch hp), ?_⟩
  · exact (setCell_heap h.cell).trans rfl
  · simp only [blocks, List.map_nil, List.nodup_cons, List.mem_cons, List.not_mem_nil, or_false, not_or, not_false_eq_true, and_true, List.nodup_nil]
    exact ⟨⟨n1, n2, hn _ (foot_kb b _)⟩, ⟨n4, hn _ (foot_ab b _)⟩, hn _ (foot_db b _)⟩
def keyDot (e : Ev) : Key × Dot := (e.key, e.dot)
def livB (D : List Dot) (e : Ev) : Bool := decide (e.kind = 1) && !decide (e.dot ∈ D)
/-- a map behind the first kept events that are loaded -/
structure LoadK (ctx D : List Dot) (E : List Ev) (s : MS) : Prop where
  ctx : s.ctx = ctx
  dead : s.dead = D
  kept : evsOf s.K = E.reverse
  pairs : s.pairs = (E.reverse.filter (livB D)).map keyDot
theorem LoadK.dots {ctx D : List Dot} {E : List Ev} {s : MS} (h : LoadK ctx D E s) : ∀ x ∈ s.K, x.1 ∈ E := fun x hx => by
  have : x.1 ∈ evsOf s.K := List.mem_map_of_mem hx
  rw [h.kept, List.mem_reverse] at this
  exact this
theorem fitFrom_ok (ctx : List Dot) : ∀ (K : List EvIt) (p : Option Dot), fitFrom ctx p K = 0 → (∀ x ∈ K, evOk x.1 = true ∧ hasM ctx x.1.dot = true) ∧ SrtE (evsOf K) ∧ ∀ d, p = some d → ∀ x ∈ K, dotLt d x.1.dot = true
  | [], _, _ => ⟨fun x hx => (nomatch hx), List.Pairwise.nil, fun d _ x hx => (nomatch hx)⟩
  | x :: K, p, h => by
    unfold fitFrom at h
    split at h
    · rename_i h1
      split at h
      · rename_i h2
        split at h
        · rename_i h3
          obtain ⟨i1, i2, i3⟩ := fitFrom_ok ctx K _ h
          refine ⟨fun z hz => ?_, List.pairwise_cons.2 ⟨fun e he => ?_, i2⟩, fun d hd z hz => ?_⟩
          · rcases List.mem_cons.1 hz with rfl | hz
            · exact ⟨h1, h3⟩
            · exact i1 z hz
          · obtain ⟨z, hz, rfl⟩ := List.mem_map.1 he
            exact i3 _ rfl z hz
          · subst hd
            rcases List.mem_cons.1 hz with rfl | hz
            · exact h2
            · exact dotLt_trans h2 (i3 _ rfl z hz)
        · cases h
      · cases h
    · cases h
theorem risFrom_ok : ∀ (l : List Dot) (p : Option Dot), risFrom p l = 0 → (∀ d ∈ l, dotOk d = true) ∧ SrtD l ∧ ∀ d, p = some d → ∀ x ∈ l, dotLt d x = true
  | [], _, _ => ⟨fun x hx => (nomatch hx), List.Pairwise.nil, fun d _ x hx => (nomatch hx)⟩
  | x :: l, p, h => by
    unfold risFrom at h
    split at h
    · rename_i h1
      split at h
      · rename_i h2
        obtain ⟨i1, i2, i3⟩ := risFrom_ok l _ h
        refine ⟨fun z hz => ?_, List.pairwise_cons.2 ⟨fun z hz => i3 _ rfl z hz, i2⟩, fun d hd z hz => ?_⟩
        · rcases List.mem_cons.1 hz with rfl | hz
          · exact h1
          · exact i1 z hz
        · subst hd
          rcases List.mem_cons.1 hz with rfl | hz
          · exact h2
          · exact dotLt_trans h2 (i3 _ rfl z hz)
      · cases h
    · cases h
/-- what may be loaded -/
structure LoadOk (C : List Dot) (E : List Ev) (Dd : List Dot) : Prop where
  ctx : SrtM C
  ctxOk : ∀ d ∈ C, dotOk d = true
  kept : ∀ e ∈ E, evOk e = true ∧ hasM C e.dot = true
  srt : SrtE E
  dead : ∀ d ∈ Dd, dotOk d = true
  dsrt : SrtD Dd
  len : E.length ≤ 2048
  dlen : Dd.length ≤ 65536
  clen : C.length ≤ 4096
theorem loadErr_ok {ctx : List Dot} {K : List EvIt} {dead : List Dot} (h : loadErr ctx K dead = 0) : (marksErr ctx = 0 ∧ ¬ (2048 < K.length) ∧ ¬ (65536 < dead.length) ∧ fitFrom ctx none K = 0 ∧ risFrom none dead = 0) ∧ LoadOk ctx (evsOf K) dead := by
  unfold loadErr or2 at h
  by_cases h1 : marksErr ctx = 0
  · rw [if_pos h1] at h
    by_cases h2 : 2048 < K.length ∨ 65536 < dead.length
    · rw [if_pos h2] at h; cases h
    · rw [if_neg h2] at h
      by_cases h3 : fitFrom ctx none K = 0
      · rw [if_pos h3] at h
        obtain ⟨a1, a2, a3⟩ := marksErr_ok h1
        obtain ⟨b1, b2, _⟩ := fitFrom_ok ctx K none h3
        obtain ⟨c1, c2, _⟩ := risFrom_ok dead none h
        refine ⟨⟨h1, by omega, by omega, h3, h⟩, ⟨a3, a2, fun e he => ?_, b2, c1, c2, by rw [evsOf_length]; omega, by omega, a1⟩⟩
        obtain ⟨x, hx, rfl⟩ := List.mem_map.1 he
        exact b1 x hx
      · rw [if_neg h3] at h
        exact absurd h h3
  · rw [if_neg h1] at h
    exact absurd h h1
theorem LoadK.done {ctx dead D : List Dot} {E : List Ev} {s : MS} (h : LoadK ctx D E s) (ho : LoadOk ctx E dead) (hD : ∀ d, d ∈ D ↔ d ∈ dead) : MInv s ∧ Rel s ⟨ctx, E, dead⟩ := by
  have hne : (E.reverse.map (·.dot)).Nodup := by
    rw [List.map_reverse]
    exact List.pairwise_reverse.2 (List.pairwise_map.2 (ho.srt.imp fun {a b} h e => by rw [e, dotLt_irrefl] at h; cases h))
  have hnd : (s.K.map (·.1.dot)).Nodup := by
    have h1 : s.K.map (·.1.dot) = (evsOf s.K).map (·.dot) := by unfold evsOf; rw [List.map_map]; rfl
    rw [h1, h.kept]
    exact hne
  have hmem : ∀ e, (∃ x ∈ s.K, x.1 = e) ↔ e ∈ E := fun e => by
    rw [← List.mem_reverse, ← h.kept]
    exact (List.mem_map (f := fun x : EvIt => x.1)).symm
  refine ⟨⟨by rw [h.ctx]; exact ho.ctx, by rw [h.ctx]; exact ho.ctxOk, fun x hx => by rw [h.ctx]; exact ho.kept _ (h.dots x hx), fun k d => ?_, ?_, fun d hd => ho.dead d (by rw [h.dead] at hd; exact (hD d).1 hd), ?_⟩, ⟨hnd, h.ctx.symm, ?_, ?_⟩⟩
  · rw [h.pairs, List.mem_map, h.dead]
    constructor
    · rintro ⟨e, he, e9⟩
      obtain ⟨h1, h2⟩ := List.mem_filter.1 he
      obtain ⟨x, hx, rfl⟩ := (hmem e).2 (List.mem_reverse.1 h1)
      simp only [livB, Bool.and_eq_true, decide_eq_true_eq, Bool.not_eq_true', decide_eq_false_iff_not] at h2
      simp only [keyDot, Prod.mk.injEq] at e9
      exact ⟨x, hx, h2.1, e9.2, e9.1, by rw [← e9.2]; exact h2.2⟩
    · rintro ⟨x, hx, h1, rfl, rfl, h2⟩
      refine ⟨x.1, List.mem_filter.2 ⟨List.mem_reverse.2 (h.dots x hx), ?_⟩, rfl⟩
      simp only [livB, Bool.and_eq_true, decide_eq_true_eq, Bool.not_eq_true', decide_eq_false_iff_not]
      exact ⟨h1, h2⟩
  · rw [h.pairs]
    have h1 : (E.reverse.filter (livB D)).Pairwise fun a b => a.dot ≠ b.dot := (List.pairwise_map.1 hne).sublist List.filter_sublist
    exact List.pairwise_map.2 (h1.imp fun {a b} h e => h (by simp only [keyDot, Prod.mk.injEq] at e; exact e.2))
  · rw [← evsOf_length, h.kept, List.length_reverse]
    exact ho.len
  · show E = eventsOf s
    exact srtE_ext ho.srt (eventsOf_srt hnd) fun e => by rw [eventsOf_mem hnd, hmem]
  · show dead = sortD s.dead
    rw [h.dead, sortD_congr hD, sortD_self ho.dsrt]

set_option maxRecDepth 100000 in
set_option maxHeartbeats 4000000 in
theorem mLoad_no (y : RMIt) (w : World) (hc : y.ctx.length ≤ 1048576) (hk : y.K.length ≤ 1048576) (hdl : y.dead.length ≤ 1048576) (hsm : EvsSmall y.K) (hI : RMIn w y) (hne : loadErr y.ctx y.K y.dead ≠ 0) :
    Calls Tryz.prog 57 #[.slice y.ac y.ctx.length y.cc, .slice y.aK y.K.length y.cK, .slice y.ad y.dead.length y.cd] w fun x w' => x = .returned (.tuple #[.pointer none, .int .i64 (loadErr y.ctx y.K y.dead)]) ∧ Below w.heap.size w w' := by
  obtain ⟨ac, ctx, cc, aK, K, cK, ad, dead, cd⟩ := y
  obtain ⟨hcx, hE, hd, _, _, _⟩ := hI
  simp only at hc hk hdl hsm hcx hE hd hne ⊢
  have hun : loadErr ctx K dead = or2 (marksErr ctx) (if 2048 < K.length ∨ 65536 < dead.length then 3 else or2 (fitFrom ctx none K) (risFrom none dead)) := rfl
  have HUN := Lib.hid hun
  clear hun
  by_cases hm0 : marksErr ctx = 0
  case neg =>
    have hmb : (marksErr ctx != 0) = true := bne_iff_ne.2 hm0
    have HE : Hid (loadErr ctx K dead = marksErr ctx) := by unfold Hid; rw [HUN.out]; unfold or2; rw [if_neg hm0]
    have HC := Lib.hid (vOf_no ac cc ctx w (by omega) hcx hm0)
    clear hm0 HUN hne
    generalize marksErr ctx = me at *
    go_enter Tryz.func57, Tryz.ntmps57
    go_wp2_with (go_at_call 75; (with_reducible refine HC.out.mono ?_); rintro v9 w9 ⟨rfl, hb9⟩)
    go_ret2
    exact ⟨by rw [HE.out]; rfl, hb9⟩
  have HO := Lib.hid (vOf_yes ac cc ctx w hcx hm0)
  have HE0 : Hid (loadErr ctx K dead = if 2048 < K.length ∨ 65536 < dead.length then 3 else or2 (fitFrom ctx none K) (risFrom none dead)) := by unfold Hid; rw [HUN.out, hm0]; rfl
  clear hm0 HUN
  by_cases hkl : 2048 < K.length
  · have hdk : decide ((2048 : Int) < (K.length : Int)) = true := decide_eq_true (by omega)
    have HE : Hid (loadErr ctx K dead = 3) := by unfold Hid; rw [HE0.out, if_pos (Or.inl hkl)]
    clear hkl HE0 hne
    go_enter Tryz.func57, Tryz.ntmps57
    go_wp2_with (go_at_call 75; (with_reducible refine HO.out.mono ?_); rintro v9 w9 ⟨v, vb, rfl, _, hb9, _, _⟩)
    go_ret2
    exact ⟨by rw [HE.out]; rfl, hb9⟩
  have hdk : decide ((2048 : Int) < (K.length : Int)) = false := decide_eq_false (by omega)
  by_cases hdl2 : 65536 < dead.length
  · have hdk2 : decide ((65536 : Int) < (dead.length : Int)) = true := decide_eq_true (by omega)
    have HE : Hid (loadErr ctx K dead = 3) := by unfold Hid; rw [HE0.out, if_pos (Or.inr hdl2)]
    clear hdl2 HE0 hne
    go_enter Tryz.func57, Tryz.ntmps57
    go_wp2_with (go_at_call 75; (with_reducible refine HO.out.mono ?_); rintro v9 w9 ⟨v, vb, rfl, _, hb9, _, _⟩)
    go_ret2
    exact ⟨by rw [HE.out]; rfl, hb9⟩
  have hdk2 : decide ((65536 : Int) < (dead.length : Int)) = false := decide_eq_false (by omega)
  have HE1 : Hid (loadErr ctx K dead = or2 (fitFrom ctx none K) (risFrom none dead)) := by unfold Hid; rw [HE0.out, if_neg (by omega)]
  have hF0 := fun (v vb : Nat) (X : World) (hV : VecIn X v vb ctx) (hE : EvsIn X aK K) => fits_any aK cK K X hV (by omega) hsm hE
  have hR0 := fun (X : World) (h : DotsIn X ad dead) => rising_any ad cd dead X (by omega) h
  clear HE0 hsm
  by_cases hf0 : fitFrom ctx none K = 0
  · have hr0 : risFrom none dead ≠ 0 := fun e => hne (by rw [HE1.out, hf0, e]; rfl)
    have hrb : (risFrom none dead != 0) = true := bne_iff_ne.2 hr0
    have HE : Hid (loadErr ctx K dead = risFrom none dead) := by unfold Hid; rw [HE1.out, hf0]; rfl
    rw [hf0] at hF0
    have HF := Lib.hid hF0
    have HR := Lib.hid hR0
    clear hf0 hr0 hne HE1 hF0 hR0
    generalize risFrom none dead = re at *
    go_enter Tryz.func57, Tryz.ntmps57
    go_wp2_with (first
      | (go_at_call 75; (with_reducible refine HO.out.mono ?_); rintro v9 w9 ⟨v, vb, rfl, hV9, hb9, _, _⟩; have hE9 := hE.kept hb9)
      | (go_at_call 93; (with_reducible refine (HF.out _ _ _ hV9 hE9).mono ?_); rintro v8 w8 ⟨rfl, hb8⟩; have hb98 := hb9.trans (hb8.mono hb9.size); have hd8 := hd.kept hb98)
      | (go_at_call 94; (with_reducible refine (HR.out _ hd8).mono ?_); rintro v7 w7 ⟨rfl, hb7⟩))
    go_ret2
    exact ⟨by rw [HE.out]; rfl, hb98.trans (hb7.mono hb98.size)⟩
  · have hfb : (fitFrom ctx none K != 0) = true := bne_iff_ne.2 hf0
    have HE : Hid (loadErr ctx K dead = fitFrom ctx none K) := by unfold Hid; rw [HE1.out]; unfold or2; rw [if_neg hf0]
    have HF := Lib.hid hF0
    clear hf0 hne HE1 hF0 hR0
    generalize fitFrom ctx none K = fe at *
    go_enter Tryz.func57, Tryz.ntmps57
    go_wp2_with (first
      | (go_at_call 75; (with_reducible refine HO.out.mono ?_); rintro v9 w9 ⟨v, vb, rfl, hV9, hb9, _, _⟩; have hE9 := hE.kept hb9)
      | (go_at_call 93; (with_reducible refine (HF.out _ _ _ hV9 hE9).mono ?_); rintro v8 w8 ⟨rfl, hb8⟩; have hb98 := hb9.trans (hb8.mono hb9.size)))
    go_ret2
    exact ⟨by rw [HE.out]; rfl, hb98⟩
def RetLd (y : RMIt) (w : World) (x : Ending) (w' : World) : Prop := ∃ m b s, x = .returned (.tuple #[.pointer (some ⟨m, 0, none⟩), .int .i64 0]) ∧ MpIn w' m b s ∧ MInv s ∧ Rel s y.rm ∧ s.dead.length ≤ y.dead.length ∧ (∀ k, foot b s.A k → w.heap.size ≤ k) ∧ (∀ x ∈ s.K, x.1 ∈ evsOf y.K) ∧ Below w.heap.size w w'
set_option maxRecDepth 100000 in
set_option maxHeartbeats 8000000 in
theorem mLoad_yes (y : RMIt) (w : World) (hsm : EvsSmall y.K) (hI : RMIn w y) (hok : loadErr y.ctx y.K y.dead = 0) :
    Calls Tryz.prog 57 #[.slice y.ac y.ctx.length y.cc, .slice y.aK y.K.length y.cK, .slice y.ad y.dead.length y.cd] w (RetLd y w) := by
  obtain ⟨ac, ctx, cc, aK, K, cK, ad, dead, cd⟩ := y
  obtain ⟨hcx, hE, hd, _, _, _⟩ := hI
  simp only at hsm hcx hE hd hok ⊢
  obtain ⟨⟨hm0, hkl, hdl2, hf0, hr0⟩, hld⟩ := loadErr_ok hok
  have hdk : decide ((2048 : Int) < (K.length : Int)) = false := decide_eq_false (by omega)
  have hdk2 : decide ((65536 : Int) < (dead.length : Int)) = false := decide_eq_false (by omega)
  have HO := Lib.hid (vOf_yes ac cc ctx w hcx hm0)
  have hF0 := fun (v vb : Nat) (X : World) (hV : VecIn X v vb ctx) (hE : EvsIn X aK K) => fits_any aK cK K X hV (by omega) hsm hE
  have hR0 := fun (X : World) (h : DotsIn X ad dead) => rising_any ad cd dead X (by omega) h
  rw [hf0] at hF0
  rw [hr0] at hR0
  have HF := Lib.hid hF0
  have HR := Lib.hid hR0
  have HN := Lib.hid (fun X => mNew_any X)
  have HLD := Lib.hid hld
  have HSM := Lib.hid hsm
  clear hF0 hR0 hm0 hf0 hr0 hok hsm
  go_enter Tryz.func57, Tryz.ntmps57
  go_upto_region 12 with (first
    | (go_at_call 75; (with_reducible refine HO.out.mono ?_); rintro v9 w9 ⟨v, vb, rfl, hV9, hb9, hlv, hlb⟩; have hE9 := hE.kept hb9)
    | (go_at_call 93; (with_reducible refine (HF.out _ _ _ hV9 hE9).mono ?_); rintro v8 w8 ⟨rfl, hb8⟩; have hb98 := hb9.trans (hb8.mono hb9.size); have hd8 := hd.kept hb98)
    | (go_at_call 94; (with_reducible refine (HR.out _ hd8).mono ?_); rintro v7 w7 ⟨rfl, hb7⟩))
  have hb97 := hb98.trans (hb7.mono hb98.size)
  have hV7 := (hV9.kept hb8).kept hb7
  clear hV9 hE9 hd8 hb9 hb8 hb98 hb7 HO HF HR
  go_upto_region 13 with (go_at_call 16; (with_reducible refine (HN.out _).mono ?_); rintro v6 w6 ⟨m, b0, rfl, hm6, hb6, hlm, hfo⟩)
  have hV6 := hV7.kept hb6
  have hvbl := hV7.tab.lt
  have hb96 : Below w.heap.size w w6 := hb97.trans (hb6.mono hb97.size)
  have hmS := mp_setSeen hm6 hV6 (fun k hk => by have := hfo k hk; omega)
  have z3 := (four_cells hm6.cell).2.2.2
  have zf : w6.frozen? ⟨m, 3, none⟩ = false := by simp [World.frozen?, hm6.cell]
  have hz97 := hb97.size
  have hfoS : ∀ k, foot ⟨b0.kb, b0.ab, b0.db, v, vb⟩ [] k → w.heap.size ≤ k := fun k hk => by
    simp only [foot, blocks, List.map_nil, List.mem_cons, List.not_mem_nil, or_false] at hk
    have h1 := hfo _ (foot_kb b0 _)
    have h2 := hfo _ (foot_ab b0 _)
    have h3 := hfo _ (foot_db b0 _)
    rcases hk with rfl | rfl | rfl | rfl <;> omega
  have hmw : w.heap.size ≤ m := Nat.le_trans hz97 hlm
  go_upto_region 14 with fail
  refine wp_name (fun V hV => ?_)
  have hVe : V = w6.setCell ⟨m, 3, none⟩ (.pointer (some ⟨v, 0, none⟩)) := hV.out
  have hbS : Below w.heap.size w V := by
    rw [hVe, setCell_eq_setRow _ _ _ _ _ _ _ hm6.cell]
    exact below_setRow hb96 hmw _
  have hmV : MpIn V m ⟨b0.kb, b0.ab, b0.db, v, vb⟩ ⟨ctx, [], [], [], []⟩ := by rw [hVe]; exact hmS
  obtain ⟨b, hb⟩ : ∃ b, b = (⟨b0.kb, b0.ab, b0.db, v, vb⟩ : MB) := ⟨_, rfl⟩
  rw [← hb] at hmV hfoS
  have hdl3 : dead.length ≤ 65536 := by omega
  have hkl3 : K.length ≤ 2048 := by omega
  clear hV hVe hmS hV6 hV7 hm6 hb6 hb97 hb96 hlm hfo hvbl hb HN z3 zf hlv hlb hz97
  go_wp2
  go_loopw [51] (fun i wr => ∃ k : Nat, i = .int .i64 k ∧ k ≤ dead.length ∧ MpIn wr m b ⟨ctx, [], (dead.take k).foldl (fun l d => addD d l) [], [], []⟩ ∧ Below w.heap.size w wr) (fun i _ => dead.length - (intOf i).toNat)
  case atStart => exact ⟨0, rfl, Nat.zero_le _, hmV, hbS⟩
  case round =>
    obtain ⟨k, rfl, hk, hmr, hbr⟩ := hrel
    clear hmV hbS
    have hzr := hbr.size
    by_cases hlt : k < dead.length
    · obtain ⟨A, off, rfl, c0, c1, c2⟩ := (hd.kept hbr).at hlt
      have HT : Hid (dead.take (k + 1) = dead.take k ++ [dead[k]]) := by
        unfold Hid
        rw [List.take_add_one, List.getElem?_eq_getElem hlt]
        rfl
      have hdok := HLD.out.dead _ (List.getElem_mem hlt)
      have hfl := foldAdd_len (dead.take k) []
      rw [List.length_take, List.length_nil] at hfl
      generalize dead[k] = d at c0 c1 c2 HT hdok
      have HLT := Lib.hid hlt
      obtain ⟨l0, hl0⟩ : ∃ l0, l0 = (dead.take k).foldl (fun l d => addD d l) [] := ⟨_, rfl⟩
      rw [← hl0] at hmr hfl
      have HL0 := Lib.hid hl0
      clear hl0
      go_upto_region 17 with fail
      refine wp_name (fun W hW => ?_)
      have hbw : Below wr.heap.size wr W.drew := by rw [hW.out]; go_grown
      have x0 : W.drew.cell? ⟨wr.heap.size, 0, none⟩ = some (.int .i64 d.a.dev) := by rw [hW.out]; go_simp
      have x1 : W.drew.cell? ⟨wr.heap.size, 1, none⟩ = some (.int .i64 d.a.inc) := by rw [hW.out]; go_simp
      have x2 : W.drew.cell? ⟨wr.heap.size, 2, none⟩ = some (.int .i64 d.seq) := by rw [hW.out]; go_simp
      have h1 := hmr.kept_w hbw
      have xm : W.drew.cell? ⟨m, 2, none⟩ = some (.map (some b.db)) := (four_cells h1.cell).2.2.1
      have hbW : Below w.heap.size w W.drew := hbr.trans (hbw.mono hzr)
      clear hW hmr c0 c1 c2
      obtain ⟨w2, hrun, htab, hfr⟩ := h1.dead.add (dotOk_W hdok) (by show l0.length ≤ _; omega)
      have h2 := h1.setDead htab hfr
      have hb2 : Below w.heap.size w w2 := hbW.trans (hfr.below hbW.size (fun q hq => by rw [show q = b.db from hq]; exact hfoS _ (foot_db b _)))
      clear htab hfr
      refine wp_region_noPanic ?_
      refine wp_region_late (fun W' => (W'.cell? ⟨wr.heap.size, 0, none⟩ = some (.int .i64 d.a.dev) ∧ W'.cell? ⟨wr.heap.size, 1, none⟩ = some (.int .i64 d.a.inc) ∧ W'.cell? ⟨wr.heap.size, 2, none⟩ = some (.int .i64 d.seq)) ∧ W'.cell? ⟨m, 2, none⟩ = some (.map (some b.db))) [5] (by kernel_rfl) ?_
      have hS := And.intro (And.intro x0 (And.intro x1 x2)) xm
      refine wpAnyL_take (i := 0) (oi := ⟨some 55, _, _, _, _, _⟩) (v := ?_) rfl (by kernel_rfl) (by kernel_rfl) (by kernel_rfl) (by kernel_rfl) (by kernel_rfl) (fun _ _ _ h => h) (Or.inl ⟨by rfl, ?_⟩) (by assumption) ?_
      case refine_2 => (rintro w ⟨⟨s0, s1, s2⟩, sm⟩; go_simp; try with_reducible rfl)
      try simp only [Act.put, List.setIfInBounds_toArray, List.set_cons_zero, List.set_cons_succ]
      refine wpAnyL_take (i := 1) (oi := ⟨some 56, _, _, _, _, _⟩) (v := ?_) rfl (by kernel_rfl) (by kernel_rfl) (by kernel_rfl) (by kernel_rfl) (by kernel_rfl) (fun _ _ _ h => h) (Or.inl ⟨by rfl, ?_⟩) (by assumption) ?_
      case refine_2 => (rintro w ⟨⟨s0, s1, s2⟩, sm⟩; go_simp; try with_reducible rfl)
      try simp only [Act.put, List.setIfInBounds_toArray, List.set_cons_zero, List.set_cons_succ]
      refine wpAnyL_take (i := 2) (oi := ⟨some 57, _, _, _, _, _⟩) (v := ?_) rfl (by kernel_rfl) (by kernel_rfl) (by kernel_rfl) (by kernel_rfl) (by kernel_rfl) (fun _ _ _ h => h) (Or.inl ⟨by rfl, ?_⟩) (by assumption) ?_
      case refine_2 => (rintro w ⟨⟨s0, s1, s2⟩, sm⟩; go_simp; try with_reducible rfl)
      try simp only [Act.put, List.setIfInBounds_toArray, List.set_cons_zero, List.set_cons_succ]
      refine wpAnyL_take (i := 3) (oi := ⟨some 58, _, _, _, _, _⟩) (v := ?_) rfl (by kernel_rfl) (by kernel_rfl) (by kernel_rfl) (by kernel_rfl) (by kernel_rfl) (fun _ _ _ h => h) (Or.inl ⟨by rfl, ?_⟩) (by assumption) ?_
      case refine_2 => (rintro w ⟨⟨s0, s1, s2⟩, sm⟩; go_simp; try with_reducible rfl)
      try simp only [Act.put, List.setIfInBounds_toArray, List.set_cons_zero, List.set_cons_succ]
      refine wpAnyL_take (i := 4) (oi := ⟨some 59, _, _, _, _, _⟩) (v := ?_) rfl (by kernel_rfl) (by kernel_rfl) (by kernel_rfl) (by kernel_rfl) (by kernel_rfl) (fun _ _ _ h => h) (Or.inl ⟨by rfl, ?_⟩) (by assumption) ?_
      case refine_2 => (rintro w ⟨⟨s0, s1, s2⟩, sm⟩; go_simp; try with_reducible rfl)
      try simp only [Act.put, List.setIfInBounds_toArray, List.set_cons_zero, List.set_cons_succ]
      refine wpAnyL_one (i := 5) (o := ⟨none, _, _, _, _, _⟩) (by kernel_rfl) rfl ?_
      intro K hK
      go_simp
      refine hK.out _ _ (Or.inl (by kernel_rfl)) ?_
      clear hK K
      try simp only [Act.put, List.setIfInBounds_toArray, List.set_cons_zero, List.set_cons_succ]
      refine wpAnyL_done (by kernel_rfl) ?_ _
      refine NoPanic.normal ?_
      have HZ : Hid (MpIn w2 m b ⟨ctx, [], (dead.take (k + 1)).foldl (fun l d => addD d l) [], [], []⟩ ∧ Below w.heap.size w w2) := by
        refine ⟨?_, hb2⟩
        rw [HT.out, List.foldl_append, ← HL0.out]
        exact h2
      clear hS hrun xm h1 hbw x0 x1 x2 h2 hb2
      go_wp2
      go_roundw
      case rel => exact ⟨k + 1, by go_num, HLT.out, HZ.out.1, HZ.out.2⟩
      case measure => have := HLT.out; simp [intOf] <;> omega
    · obtain rfl : k = dead.length := by omega
      rw [List.take_length] at hmr
      obtain ⟨D, hD⟩ : ∃ D, D = dead.foldl (fun l d => addD d l) [] := ⟨_, rfl⟩
      rw [← hD] at hmr
      have hDl : D.length ≤ dead.length := by rw [hD]; have := foldAdd_len dead []; simpa using this
      have HDm : Hid (∀ d, d ∈ D ↔ d ∈ dead) := fun d => by rw [hD, foldAdd_mem]; simp
      clear hD
      obtain ⟨wo, rfl⟩ : ∃ wo : World, wo = wr := ⟨_, rfl⟩
      go_wp2
      go_loopw [63] (fun i wr => ∃ (k : Nat) (s : MS), i = .int .i64 k ∧ k ≤ K.length ∧ MpIn wr m b s ∧ LoadK ctx D ((evsOf K).take k) s ∧ (∀ q, foot b s.A q → w.heap.size ≤ q) ∧ Below w.heap.size w wr) (fun i _ => K.length - (intOf i).toNat)
      case atStart => exact ⟨0, _, rfl, Nat.zero_le _, hmr, ⟨rfl, rfl, rfl, rfl⟩, hfoS, hbr⟩
      case round =>
        obtain ⟨k, s, rfl, hk, hms, hLK, hfs, hbs⟩ := hrel
        have HLK := Lib.hid hLK
        have HFS := Lib.hid hfs
        clear hmr hfs
        have hzs := hbs.size
        by_cases hlt : k < K.length
        · obtain ⟨A, off, rfl, hra, hda⟩ := (hE.kept hbs).at hlt
          have r1 := hra k hlt
          have HT : Hid ((evsOf K).take (k + 1) = (evsOf K).take k ++ [K[k].1]) := by
            unfold Hid
            rw [List.take_add_one, List.getElem?_eq_getElem (by rw [evsOf_length]; exact hlt), evsOf_at hlt]
            rfl
          have hse := HSM.out _ (List.getElem_mem hlt)
          have hev := (HLD.out.kept K[k].1 (List.mem_map_of_mem (List.getElem_mem hlt))).1
          have HAH : Hid (∀ x ∈ (evsOf K).take k, x.dot ≠ K[k].1.dot) := fun x hx e => by
            have h1 := HLD.out.srt
            have h3 := HT.out
            have h4 := List.take_append_drop (k + 1) (evsOf K)
            rw [h3] at h4
            rw [← h4, List.append_assoc] at h1
            have h5 := (List.pairwise_append.1 h1).2.2 x hx K[k].1 (by simp)
            rw [e, dotLt_irrefl] at h5
            cases h5
          have HLT := Lib.hid hlt
          clear hra
          generalize K[k] = x at r1 hda HT hse hev HAH
          obtain ⟨e, ax, cx⟩ := x
          simp only [itEv] at r1
          simp only at hda HT hse hev HAH
          obtain ⟨hdo, _, hov64, hkw, _⟩ := evOk_parts hev
          have hn0 : ax = none → e.over = [] := fun hn => by rcases hda with h | ⟨A, off, h3, _⟩; exact h; rw [hn] at h3; cases h3
          have hKl : s.K.length ≤ 2048 := by
            rw [← evsOf_length, hLK.kept, List.length_reverse, List.length_take, evsOf_length]
            omega
          have hPl : s.pairs.length ≤ 2048 := by
            have h1 := congrArg List.length hLK.pairs
            rw [List.length_map] at h1
            have h2 := List.length_filter_le (livB D) ((evsOf K).take k).reverse
            rw [List.length_reverse, List.length_take, evsOf_length] at h2
            omega
          clear hLK hev
          go_upto_region 22 with (first
            | ((with_reducible refine wpList_load_evo _ A (off + k * 19) e ax cx r1 ?_ rfl ?_); exact rfl)
            | (refine wpList_store_new 42 _ _ _ (evCells e ax cx).toArray rfl rfl (by kernel_rfl) rfl (by kernel_rfl) ?_))
          refine wp_name (fun W hW => ?_)
          have hbW : Below wr.heap.size wr W.drew := by rw [hW.out]; exact ((Below.refl wr.heap.size wr).alloc (Nat.le_refl _) _).drew
          have hR4 : W.drew.rangeAt wr.heap.size 0 (evCells e ax cx) := by rw [hW.out]; exact evCells_box e ax cx wr _
          have h4 := hms.kept_w hbW
          have hin4 := hda.kept hbW
          have hbW9 : Below w.heap.size w W.drew := hbs.trans (hbW.mono hzs)
          have z0 := hR4 0 _ rfl
          have z1 := hR4 1 _ rfl
          have z2 := hR4 2 _ rfl
          simp only [Nat.zero_add] at z0 z1 z2
          have z3 := (four_cells h4.cell).1
          have HCL : Hid (∀ X : World, DotsIn X ax e.over → Calls Tryz.prog 65 #[.agg (evCells e ax cx).toArray] X (RetClone e X)) := Lib.hid (fun (X : World) (h : DotsIn X ax e.over) => evClone_any e ax cx X (by omega) hn0 h)
          clear hW hbW hms hda r1 hn0
          refine wp_region_noPanic ?_
          refine wp_region_late (fun X => Below W.drew.heap.size W.drew X) [8] (by kernel_rfl) ?_
          have hb0 : Below W.drew.heap.size W.drew W.drew := Below.refl _ _
          refine wpAnyL_take (i := 0) (oi := ⟨some 67, _, _, _, _, _⟩) (v := ?_) rfl (by kernel_rfl) (by kernel_rfl) (by kernel_rfl) (by kernel_rfl) (by kernel_rfl) (fun _ _ _ h => h) (Or.inl ⟨by rfl, ?_⟩) (by assumption) ?_
          case refine_2 => (rintro w hSw; have s0 := kept hSw z0; have s1 := kept hSw z1; have s2 := kept hSw z2; have s3 := kept hSw z3; go_simp; try with_reducible rfl)
          try simp only [Act.put, List.setIfInBounds_toArray, List.set_cons_zero, List.set_cons_succ]
          refine wpAnyL_take (i := 1) (oi := ⟨some 68, _, _, _, _, _⟩) (v := ?_) rfl (by kernel_rfl) (by kernel_rfl) (by kernel_rfl) (by kernel_rfl) (by kernel_rfl) (fun _ _ _ h => h) (Or.inl ⟨by rfl, ?_⟩) (by assumption) ?_
          case refine_2 => (rintro w hSw; have s0 := kept hSw z0; have s1 := kept hSw z1; have s2 := kept hSw z2; have s3 := kept hSw z3; go_simp; try with_reducible rfl)
          try simp only [Act.put, List.setIfInBounds_toArray, List.set_cons_zero, List.set_cons_succ]
          refine wpAnyL_take (i := 2) (oi := ⟨some 69, _, _, _, _, _⟩) (v := ?_) rfl (by kernel_rfl) (by kernel_rfl) (by kernel_rfl) (by kernel_rfl) (by kernel_rfl) (fun _ _ _ h => h) (Or.inl ⟨by rfl, ?_⟩) (by assumption) ?_
          case refine_2 => (rintro w hSw; have s0 := kept hSw z0; have s1 := kept hSw z1; have s2 := kept hSw z2; have s3 := kept hSw z3; go_simp; try with_reducible rfl)
          try simp only [Act.put, List.setIfInBounds_toArray, List.set_cons_zero, List.set_cons_succ]
          refine wpAnyL_take (i := 3) (oi := ⟨some 70, _, _, _, _, _⟩) (v := ?_) rfl (by kernel_rfl) (by kernel_rfl) (by kernel_rfl) (by kernel_rfl) (by kernel_rfl) (fun _ _ _ h => h) (Or.inl ⟨by rfl, ?_⟩) (by assumption) ?_
          case refine_2 => (rintro w hSw; have s0 := kept hSw z0; have s1 := kept hSw z1; have s2 := kept hSw z2; have s3 := kept hSw z3; go_simp; try with_reducible rfl)
          try simp only [Act.put, List.setIfInBounds_toArray, List.set_cons_zero, List.set_cons_succ]
          refine wpAnyL_take (i := 4) (oi := ⟨some 71, _, _, _, _, _⟩) (v := ?_) rfl (by kernel_rfl) (by kernel_rfl) (by kernel_rfl) (by kernel_rfl) (by kernel_rfl) (fun _ _ _ h => h) (Or.inl ⟨by rfl, ?_⟩) (by assumption) ?_
          case refine_2 => (rintro w hSw; have s0 := kept hSw z0; have s1 := kept hSw z1; have s2 := kept hSw z2; have s3 := kept hSw z3; go_simp; try with_reducible rfl)
          try simp only [Act.put, List.setIfInBounds_toArray, List.set_cons_zero, List.set_cons_succ]
          refine wpAnyL_take (i := 5) (oi := ⟨some 72, _, _, _, _, _⟩) (v := ?_) rfl (by kernel_rfl) (by kernel_rfl) (by kernel_rfl) (by kernel_rfl) (by kernel_rfl) (fun _ _ _ h => h) (Or.inl ⟨by rfl, ?_⟩) (by assumption) ?_
          case refine_2 => (rintro w hSw; have s0 := kept hSw z0; have s1 := kept hSw z1; have s2 := kept hSw z2; have s3 := kept hSw z3; go_simp; try with_reducible rfl)
          try simp only [Act.put, List.setIfInBounds_toArray, List.set_cons_zero, List.set_cons_succ]
          refine wpAnyL_take (i := 6) (oi := ⟨some 73, _, _, _, _, _⟩) rfl (by kernel_rfl) (by kernel_rfl) (by kernel_rfl) (by kernel_rfl) (by kernel_rfl) (fun _ _ _ h => h) (yieldsIf_load_mid (by rfl) 42 _ rfl wr.heap.size 0 rfl (evCells e ax cx) _ (fun X hX => rangeAt_kept hR4 hX) Tryz.underlying42 rfl (by kernel_rfl)) (by assumption) ?_
          try simp only [Act.put, List.setIfInBounds_toArray, List.set_cons_zero, List.set_cons_succ]
          refine wpAnyL_one (i := 7) (o := ⟨some 74, _, _, _, _, _⟩) (by kernel_rfl) rfl ?_
          intro K hK
          go_simp
          go_at_call 65
          (with_reducible refine (HCL.out _ hin4).mono ?_)
          rintro x w5 ⟨a5, c5, rfl, hown5, hb5⟩
          go_simp
          refine hK.out _ _ (Or.inr (hb5)) ?_
          clear hK K
          try simp only [Act.put, List.setIfInBounds_toArray, List.set_cons_zero, List.set_cons_succ]
          have h5 := h4.kept_w hb5
          have hnew : ∀ p ∈ keptE s.K, p.1 ≠ e.dot := fun p hp e2 => by
            obtain ⟨x, hx, rfl⟩ := List.mem_map.1 hp
            exact HAH.out _ (HLK.out.dots x hx) e2
          obtain ⟨w6, hrun6, htab6, hf6⟩ := h5.kept.store_new kDot Tryz.underlying96 (by show (keptE s.K).length < _; unfold keptE maxLen; rw [List.length_map]; omega) (dotOk_W hdo) hnew ((e, a5, c5) : EvIt)
          have hK6 := h5.keeps hf6 (fun i hi => by rw [show i = b.kb from hi]; exact foot_kb b _)
          obtain ⟨a5', c5', he5, hd5⟩ := own_dots hown5
          have hd6 : DotsIn w6 a5 e.over := by
            simp only [Value.slice.injEq] at he5
            rw [he5.1]
            exact hK6.dots hd5
          have h6 : MpIn w6 m b { s with K := (e, a5, c5) :: s.K } := h5.setKept htab6 (fun x hx => by
            rcases List.mem_cons.1 hx with rfl | hx
            · exact hd6
            · exact hK6.dots (h5.overs x hx)) hf6
          have hR6 : w6.rangeAt wr.heap.size 0 (evCells e ax cx) := hK6.range (rangeAt_kept hR4 hb5)
          have hb6 : Below w.heap.size w w6 := (hbW9.trans (hb5.mono hbW9.size)).trans (hf6.below (Nat.le_trans hbW9.size hb5.size) (fun q hq => by rw [show q = b.kb from hq]; exact HFS.out _ (foot_kb b _)))
          clear hd6 hd5 he5 hown5 htab6 hf6 hK6 hb5 h5 hnew h4 hR4 hin4 z0 z1 z2 z3 hbW9
          refine wpAnyL_one (i := 8) (o := ⟨none, _, _, _, _, _⟩) (by kernel_rfl) rfl ?_
          intro K hK
          go_simp
          refine hK.out _ _ (Or.inl (by kernel_rfl)) ?_
          clear hK K
          try simp only [Act.put, List.setIfInBounds_toArray, List.set_cons_zero, List.set_cons_succ]
          refine wpAnyL_done (by kernel_rfl) ?_ _
          refine NoPanic.normal ?_
          clear hrun6 hb0 HCL
          have HK6 : Hid (evsOf ((e, a5, c5) :: s.K) = ((evsOf K).take (k + 1)).reverse) := by
            unfold Hid
            show e :: evsOf s.K = _
            rw [HT.out, List.reverse_append, HLK.out.kept]
            rfl
          have y0 := hR6 0 _ rfl
          have y1 := hR6 1 _ rfl
          have y2 := hR6 2 _ rfl
          have y6 := hR6 6 _ rfl
          simp only [Nat.zero_add] at y0 y1 y2 y6
          have HDD0 := mDead_any e.dot (dotOk_W hdo) w6 h6
          rw [show ({ s with K := (e, a5, c5) :: s.K } : MS).dead = D from HLK.out.dead] at HDD0
          by_cases hk1 : e.kind = 1
          case neg =>
            have heq1 : (e.kind == 1) = false := beq_eq_false_iff_ne.2 hk1
            have HP : Hid (s.pairs = (((evsOf K).take (k + 1)).reverse.filter (livB D)).map keyDot) := by
              unfold Hid
              rw [HLK.out.pairs, HT.out, List.reverse_append]
              show _ = ((e :: _).filter _).map _
              rw [List.filter_cons, if_neg (by unfold livB; rw [decide_eq_false hk1, Bool.false_and]; decide)]
              rfl
            have HZ := Lib.hid (And.intro h6 hb6)
            clear HDD0 hk1 h6 hb6 y0 y1 y2 hR6
            go_wp2
            go_roundw
            case rel => exact ⟨k + 1, _, by go_num, HLT.out, HZ.out.1, ⟨HLK.out.ctx, HLK.out.dead, HK6.out, HP.out⟩, HFS.out, HZ.out.2⟩
            case measure => have := HLT.out; simp [intOf] <;> omega
          have heq1 : (e.kind == 1) = true := beq_iff_eq.2 hk1
          have HK1 := Lib.hid hk1
          clear hk1
          by_cases hdd : e.dot ∈ D
          case pos =>
            have HP : Hid (s.pairs = (((evsOf K).take (k + 1)).reverse.filter (livB D)).map keyDot) := by
              unfold Hid
              rw [HLK.out.pairs, HT.out, List.reverse_append]
              show _ = ((e :: _).filter _).map _
              rw [List.filter_cons, if_neg (by unfold livB; rw [decide_eq_true hdd]; simp)]
              rfl
            have hD1 : decide (e.dot ∈ D) = true := decide_eq_true hdd
            rw [hD1] at HDD0
            have HDd := Lib.hid HDD0
            have HZ := Lib.hid (And.intro h6 hb6)
            clear HDD0 hdd hD1 hR6 h6 hb6
            go_wp2_with (go_at_call 27; (with_reducible refine HDd.out.mono ?_); rintro x w7 ⟨rfl, hb7⟩)
            have HZ7 := Lib.hid (And.intro (HZ.out.1.kept_w hb7) (HZ.out.2.trans (hb7.mono HZ.out.2.size)))
            clear y0 y1 y2 y6
            go_roundw
            case rel => exact ⟨k + 1, _, by go_num, HLT.out, HZ7.out.1, ⟨HLK.out.ctx, HLK.out.dead, HK6.out, HP.out⟩, HFS.out, HZ7.out.2⟩
            case measure => have := HLT.out; simp [intOf] <;> omega
          have HP : Hid ((e.key, e.dot) :: s.pairs = (((evsOf K).take (k + 1)).reverse.filter (livB D)).map keyDot) := by
            unfold Hid
            rw [HLK.out.pairs, HT.out, List.reverse_append]
            show _ = ((e :: _).filter _).map _
            rw [List.filter_cons, if_pos (by unfold livB; rw [decide_eq_true HK1.out, decide_eq_false hdd]; rfl)]
            rfl
          have hnoP : ∀ q, (q, e.dot) ∉ s.pairs := fun q hq => by
            rw [HLK.out.pairs] at hq
            obtain ⟨x, hx, e9⟩ := List.mem_map.1 hq
            simp only [keyDot, Prod.mk.injEq] at e9
            exact HAH.out x (List.mem_reverse.1 (List.mem_filter.1 hx).1) e9.2
          have hD1 : decide (e.dot ∈ D) = false := decide_eq_false hdd
          rw [hD1] at HDD0
          have HDd := Lib.hid HDD0
          clear HDD0 hdd hD1
          go_upto_region 24 with (go_at_call 27; (with_reducible refine HDd.out.mono ?_); rintro x w7 ⟨rfl, hb7⟩)
          have h7 := h6.kept_w hb7
          have hR7 := rangeAt_kept hR6 hb7
          have hb79 := hb6.trans (hb7.mono hb6.size)
          have hAl : (atK s.pairs e.key).length ≤ 2048 := by
            have h1 : (atK s.pairs e.key).length ≤ s.pairs.length := by unfold atK; rw [List.length_map]; exact List.length_filter_le _ _
            omega
          have HLV := Lib.hid (live_any e ax cx w7 h7 hkw (dotOk_W hdo) (fun hm => hnoP _ (atK_mem.1 hm)) (Nat.le_trans hAl (by decide)) (by
            have h2 := nodup_len (l := s.A.map (·.1)) (m := s.pairs.map (·.1)) (List.pairwise_map.2 h7.alive.apart) (fun q hq => by
              obtain ⟨p, hp, rfl⟩ := List.mem_map.1 hq
              obtain ⟨d, hd⟩ := List.exists_mem_of_ne_nil _ (h7.some p hp)
              exact List.mem_map.2 ⟨(p.1, d), atK_mem.1 hd, rfl⟩)
            rw [List.length_map, List.length_map] at h2
            show s.A.length ≤ _
            omega))
          clear y0 y1 y2 y6 h6 hR6 hb6 hb7 hnoP hAl
          go_wp2_with (first
            | ((with_reducible refine wpList_load_evo _ wr.heap.size 0 e ax cx hR7 ?_ rfl ?_); exact rfl)
            | (go_at_call 66; (with_reducible refine HLV.out.mono ?_); rintro x w8 ⟨rfl, A8, h8, hf78, hft78⟩))
          have HZ8 : Hid (MpIn w8 m b { s with K := (e, a5, c5) :: s.K, A := A8, pairs := (e.key, e.dot) :: s.pairs } ∧ (∀ q, foot b A8 q → w.heap.size ≤ q) ∧ Below w.heap.size w w8) := by
            refine ⟨h8, fun q hq => ?_, hb79.trans (hf78.below hb79.size (fun q hq => HFS.out q hq))⟩
            rcases hft78 q hq with h9 | h9
            · exact HFS.out q h9
            · exact Nat.le_trans hb79.size h9
          clear h7 hR7 h8 hf78 hft78 HLV hb79
          go_roundw
          case rel => exact ⟨k + 1, _, by go_num, HLT.out, HZ8.out.1, ⟨HLK.out.ctx, HLK.out.dead, HK6.out, HP.out⟩, HZ8.out.2.1, HZ8.out.2.2⟩
          case measure => have := HLT.out; simp [intOf] <;> omega
        · obtain rfl : k = K.length := by omega
          have hLK2 : LoadK ctx D (evsOf K) s := by
            have := HLK.out
            rwa [List.take_of_length_le (by rw [evsOf_length]; exact Nat.le_refl _)] at this
          have HD2 := Lib.hid (hLK2.done HLD.out HDm.out)
          have HL2 := Lib.hid hLK2
          clear hLK hLK2 HLK
          go_wp2
          all_goals
            go_ret2
            exact ⟨m, b, s, rfl, hms, HD2.out.1, HD2.out.2, by rw [HL2.out.dead]; exact hDl, HFS.out, fun x hx => HL2.out.dots x hx, hbs⟩
end Go.Proofs.YtcijajjngmmbeaaGreat
