/- Vectors: Join into an empty one, Copy. Conditions: as in the text. -/
import Derived.Test.YtpbobhfnglikmaaGreatVecD
import Derived.Test.YtpbobhfnglikmaaGreatStepP
import Derived.Test.YtpbobhfnglikmaaGreatRefWs
set_option linter.unusedSimpArgs false
set_option linter.unusedVariables false
set_option linter.unnecessarySimpa false
namespace Go.Proofs.YtpbobhfnglikmaaGreat
open Go.RowKit
theorem getM_noA : ∀ {l : List Dot} {a : Actor}, (∀ x ∈ l, x.a ≠ a) → getM l a = 0
 | l, a, h => by
   unfold getM
   have : l.find? (fun d => decide (d.a = a)) = none := List.find?_eq_none.2 fun x hx => by simpa using h x hx
   rw [this]
theorem raise_take {l : List Dot} (hs : SrtM l) (hok : ∀ d ∈ l, dotOk d = true) {k : Nat} (hk : k < l.length) : raiseOk (l.take k) l[k].a l[k].seq = true := by
 have h0 : getM (l.take k) l[k].a = 0 := getM_noA fun x hx e => by
  obtain ⟨i, hi, rfl⟩ := List.getElem_of_mem hx
  rw [List.getElem_take] at e
  have hik : i < k := by rw [List.length_take] at hi; omega
  have := List.pairwise_iff_getElem.1 hs i k (by omega) hk hik
  rw [e, actorLt_irrefl] at this
  cases this
 have h1 := hok _ (List.getElem_mem hk)
 unfold raiseOk
 rw [h0]
 have h2 : dotOk ⟨l[k].a, l[k].seq⟩ = true := h1
 rw [h2]
 simp only [dotOk, Bool.and_eq_true, decide_eq_true_eq] at h1
 simp only [Bool.true_and, decide_eq_true_eq]
 omega
set_option maxRecDepth 100000 in
set_option maxHeartbeats 4000000 in
theorem vJoin0_any {v b o c : Nat} {l : List Dot} (w : World) (hv : VecIn w v b []) (ho : VecIn w o c l) (hbc : b ≠ c) (hs : SrtM l) (hok : ∀ d ∈ l, dotOk d = true) (hl : l.length ≤ 1073741824) :
 Calls Tryz.prog 137 #[.pointer (some ⟨v, 0, none⟩), .pointer (some ⟨o, 0, none⟩)] w fun e w' => e = .returned (.tuple #[]) ∧ VecIn w' v b l ∧ VecIn w' o c l ∧ Fr (isR b) w w' := by
 have HA := Lib.hid (vActors_any w ho hs hl)
 have HRs := Lib.hid (fun (T : List Dot) (d : Dot) (X : World) (h : VecIn X v b T) (hT : SrtM T) (hTl : T.length ≤ 1073741824) => vRaise_any d.a d.seq X h hT hTl)
 have HRT := Lib.hid (fun (k : Nat) (hk : k < l.length) => And.intro (raise_take hs hok hk) (setM_take hs hk))
 have HST := Lib.hid (fun (k : Nat) => show SrtM (l.take k) from List.Pairwise.sublist (List.take_sublist k l) hs)
 clear hs hok
 go_enter Tryz.func137, Tryz.ntmps137
 go_wp2_with (go_at_call 145; (with_reducible refine HA.out.mono ?_); rintro e w1 ⟨x1, rfl, hown, hnil, hb1⟩; obtain ⟨aL, cL, rfl, hcs⟩ := own_acts (by rw [List.length_map]) hown)
 have hv1 := hv.kept hb1
 have ho1 := ho.kept hb1
 clear hown hnil HA hv ho
 go_loopw [9] (fun i wr => ∃ k : Nat, i = .int .i64 k ∧ k ≤ l.length ∧ VecIn wr v b (l.take k) ∧ VecIn wr o c l ∧ Fr (isR b) w1 wr) (fun i _ => l.length - (intOf i).toNat)
 case atStart => exact ⟨0, rfl, Nat.zero_le _, hv1, ho1, Fr.refl _ _⟩
 case round =>
  obtain ⟨k, rfl, hk, hvr, hor, hfr⟩ := hrel
  by_cases hlt : k < l.length
  ·obtain ⟨A, rfl, hc⟩ : ∃ g, aL = some ⟨g, 0, none⟩ ∧ ∀ i (h : i < (List.map (fun x : Dot => x.a) l).length), w1.cell? ⟨g, i * 2, none⟩ = some (.int .i64 (List.map (fun x : Dot => x.a) l)[i].dev) ∧ w1.cell? ⟨g, i * 2 + 1, none⟩ = some (.int .i64 (List.map (fun x : Dot => x.a) l)[i].inc) := by
        rcases hcs with h0 | h0
        ·have := congrArg List.length h0
         rw [List.length_map] at this
         simp at this
         subst this
         simp at hlt
        ·exact h0
   obtain ⟨c0, c1⟩ := hc k (by rw [List.length_map]; exact hlt)
   rw [List.getElem_map] at c0 c1
   have hAlt : A < w1.heap.size := World.block_lt_of_cell? w1 _ c0
   have hAb : A ≠ b := fun e => by
        obtain ⟨es, cl, h9⟩ := hv1.tab.mapped
        rw [e] at c0
        simp [World.cell?, h9] at c0
   have hAk := hfr.block A hAlt hAb
   replace c0 := (World.cell?_of_block hAk).trans c0
   replace c1 := (World.cell?_of_block hAk).trans c1
   have hmem : l[k] ∈ l := List.getElem_mem hlt
   obtain ⟨hro, hst⟩ := HRT.out k hlt
   have HSt := Lib.hid hst
   have HSk := Lib.hid (HST.out k)
   have hTl : (l.take k).length ≤ 1073741824 := by rw [List.length_take]; omega
   have HLT := Lib.hid hlt
   clear hst hc hAk hAlt hAb
   generalize l[k] = d at *
   generalize l.take k = T at hvr HSt hTl hro HSk
   go_upto_region 3 with fail
   refine wp_name (fun W hW => ?_)
   have hbW : Below wr.heap.size wr W.drew := by rw [hW.out]; go_grown
   have y0 : W.drew.cell? ⟨wr.heap.size, 0, none⟩ = some (.int .i64 d.a.dev) := by rw [hW.out]; go_simp
   have y1 : W.drew.cell? ⟨wr.heap.size, 1, none⟩ = some (.int .i64 d.a.inc) := by rw [hW.out]; go_simp
   have h2 := hor.kept hbW
   have hv2 := hvr.kept hbW
   have ym : W.drew.cell? ⟨o, 0, none⟩ = some (.map (some c)) := by simp [World.cell?, h2.cell]
   have hlook : ∀ X : World, Tab Tryz.prog 33 actVal ActW intVal X c (ents l) → (Instr.lookup 168 (.map (some c)) (actVal d.a) false).run Tryz.prog X = .ok (.int .i64 d.seq) X := fun X hX => hX.look_hit kActor Tryz.underlying168 (z := .int .i64 0) (by kernel_rfl) (p := (d.a, d.seq)) (List.mem_map.2 ⟨d, hmem, rfl⟩) false
   have hfT : Fr (isR b) w1 W.drew := hfr.again (Fr.of_below hbW)
   have hR0 := HRs.out T d W.drew hv2 HSk.out hTl
   rw [hro, if_pos rfl, HSt.out] at hR0
   have HR := Lib.hid hR0
   clear hR0 hro hW c0 c1 hor hvr hbW
   have hb0 : Below W.drew.heap.size W.drew W.drew := Below.refl _ _
   refine wp_region_noPanic ?_
   refine wp_region_late (fun X => Below W.drew.heap.size W.drew X) [8] (by kernel_rfl) ?_
   refine wpAnyL_take (i := 0) (oi := ⟨some 13, _, _, _, _, _⟩) (v := ?_) rfl (by kernel_rfl) (by kernel_rfl) (by kernel_rfl) (by kernel_rfl) (by kernel_rfl) (fun _ _ _ h => h) (Or.inl ⟨by rfl, ?_⟩) (by assumption) ?_
   case refine_2 => (rintro w hSw; have s0 := kept hSw y0; have s1 := kept hSw y1; have sm := kept hSw ym; have sl := hlook w (h2.tab.kept hSw); go_simp; try with_reducible rfl)
   try simp only [pA, pB, pC, pD, pE]
   refine wpAnyL_take (i := 1) (oi := ⟨some 14, _, _, _, _, _⟩) (v := ?_) rfl (by kernel_rfl) (by kernel_rfl) (by kernel_rfl) (by kernel_rfl) (by kernel_rfl) (fun _ _ _ h => h) (Or.inl ⟨by rfl, ?_⟩) (by assumption) ?_
   case refine_2 => (rintro w hSw; have s0 := kept hSw y0; have s1 := kept hSw y1; have sm := kept hSw ym; have sl := hlook w (h2.tab.kept hSw); go_simp; try with_reducible rfl)
   try simp only [pA, pB, pC, pD, pE]
   refine wpAnyL_take (i := 2) (oi := ⟨some 15, _, _, _, _, _⟩) (v := ?_) rfl (by kernel_rfl) (by kernel_rfl) (by kernel_rfl) (by kernel_rfl) (by kernel_rfl) (fun _ _ _ h => h) (Or.inl ⟨by rfl, ?_⟩) (by assumption) ?_
   case refine_2 => (rintro w hSw; have s0 := kept hSw y0; have s1 := kept hSw y1; have sm := kept hSw ym; have sl := hlook w (h2.tab.kept hSw); go_simp; try with_reducible rfl)
   try simp only [pA, pB, pC, pD, pE]
   refine wpAnyL_take (i := 3) (oi := ⟨some 16, _, _, _, _, _⟩) (v := ?_) rfl (by kernel_rfl) (by kernel_rfl) (by kernel_rfl) (by kernel_rfl) (by kernel_rfl) (fun _ _ _ h => h) (Or.inl ⟨by rfl, ?_⟩) (by assumption) ?_
   case refine_2 => (rintro w hSw; have s0 := kept hSw y0; have s1 := kept hSw y1; have sm := kept hSw ym; have sl := hlook w (h2.tab.kept hSw); go_simp; try with_reducible rfl)
   try simp only [pA, pB, pC, pD, pE]
   refine wpAnyL_take (i := 4) (oi := ⟨some 17, _, _, _, _, _⟩) (v := ?_) rfl (by kernel_rfl) (by kernel_rfl) (by kernel_rfl) (by kernel_rfl) (by kernel_rfl) (fun _ _ _ h => h) (Or.inl ⟨by rfl, ?_⟩) (by assumption) ?_
   case refine_2 => (rintro w hSw; have s0 := kept hSw y0; have s1 := kept hSw y1; have sm := kept hSw ym; have sl := hlook w (h2.tab.kept hSw); go_simp; try with_reducible rfl)
   try simp only [pA, pB, pC, pD, pE]
   refine wpAnyL_take (i := 5) (oi := ⟨some 18, _, _, _, _, _⟩) (v := ?_) rfl (by kernel_rfl) (by kernel_rfl) (by kernel_rfl) (by kernel_rfl) (by kernel_rfl) (fun _ _ _ h => h) (Or.inl ⟨by rfl, ?_⟩) (by assumption) ?_
   case refine_2 => (rintro w hSw; have s0 := kept hSw y0; have s1 := kept hSw y1; have sm := kept hSw ym; have sl := hlook w (h2.tab.kept hSw); go_simp; try with_reducible rfl)
   try simp only [pA, pB, pC, pD, pE]
   refine wpAnyL_take (i := 6) (oi := ⟨some 19, _, _, _, _, _⟩) (v := ?_) rfl (by kernel_rfl) (by kernel_rfl) (by kernel_rfl) (by kernel_rfl) (by kernel_rfl) (fun _ _ _ h => h) (Or.inl ⟨by rfl, ?_⟩) (by assumption) ?_
   case refine_2 => (rintro w hSw; have s0 := kept hSw y0; have s1 := kept hSw y1; have sm := kept hSw ym; have sl := hlook w (h2.tab.kept hSw); go_simp; try with_reducible rfl)
   try simp only [pA, pB, pC, pD, pE]
   refine wpAnyL_take (i := 7) (oi := ⟨some 20, _, _, _, _, _⟩) (v := ?_) rfl (by kernel_rfl) (by kernel_rfl) (by kernel_rfl) (by kernel_rfl) (by kernel_rfl) (fun _ _ _ h => h) (Or.inl ⟨by rfl, ?_⟩) (by assumption) ?_
   case refine_2 => (rintro w hSw; have s0 := kept hSw y0; have s1 := kept hSw y1; have sm := kept hSw ym; have sl := hlook w (h2.tab.kept hSw); go_simp; try with_reducible rfl)
   try simp only [pA, pB, pC, pD, pE]
   refine wpAnyL_one (i := 8) (o := ⟨some 21, _, _, _, _, _⟩) (by kernel_rfl) rfl ?_
   intro K hK
   go_simp
   go_at_call 135
   (with_reducible refine HR.out.mono ?_)
   rintro x w4 ⟨rfl, hv4, hf4⟩
   go_simp
   refine hK.out _ _ (Or.inl (by kernel_rfl)) ?_
   clear hK K
   try simp only [pA, pB, pC, pD, pE]
   refine wpAnyL_done (by kernel_rfl) ?_ _
   refine NoPanic.normal ?_
   have HZ := Lib.hid (And.intro hv4 (And.intro (h2.fr hf4 (fun e9 => by
        have h8 := h2.cell
        obtain ⟨es, cl, h9⟩ := hv2.tab.mapped
        rw [show o = b from e9, h9] at h8
        cases h8) (fun e9 => hbc e9.symm)) (hfT.again hf4)))
   clear hv4 hf4 y0 y1 ym hlook hb0 h2 hv2 hfT HR
   go_wp2
   go_roundw
   case rel => exact ⟨k + 1, by go_num, HLT.out, HZ.out.1, HZ.out.2.1, HZ.out.2.2⟩
   case measure => have := HLT.out; simp [intOf] <;> omega
  ·obtain rfl : k = l.length := by omega
   rw [List.take_length] at hvr
   go_wp2
   go_end0
   exact ⟨rfl, hvr, hor, (Fr.of_below hb1).again hfr⟩
set_option maxHeartbeats 1000000 in
theorem vCopy_any {o c : Nat} {l : List Dot} (w : World) (ho : VecIn w o c l) (hs : SrtM l) (hok : ∀ d ∈ l, dotOk d = true) (hl : l.length ≤ 1073741824) :
 Calls Tryz.prog 84 #[.pointer (some ⟨o, 0, none⟩)] w fun e w' => ∃ v b, e = .returned (.pointer (some ⟨v, 0, none⟩)) ∧ VecIn w' v b l ∧ Below w.heap.size w w' ∧ w.heap.size ≤ v ∧ w.heap.size ≤ b := by
 have HN := Lib.hid (vNew_any w)
 have HJ := Lib.hid (fun (X : World) (hv : VecIn X (w.heap.size + 1) w.heap.size []) (h : VecIn X o c l) (hne : w.heap.size ≠ c) => vJoin0_any X hv h hne hs hok hl)
 have hc := ho.tab.lt
 go_enter Tryz.func84, Tryz.ntmps84
 go_wp2_with (first
  | (go_at_call 67; (with_reducible refine HN.out.mono ?_); rintro e w1 ⟨rfl, hv1, hb1⟩; have ho1 := ho.kept hb1)
  | (go_at_call 137; (with_reducible refine (HJ.out _ hv1 ho1 (by omega)).mono ?_); rintro e w2 ⟨rfl, hv2, ho2, hf2⟩))
 go_ret
 exact ⟨_, _, rfl, hv2, hb1.trans ((hf2.below hb1.size (fun k hk => by rw [show k = w.heap.size from hk]; exact Nat.le_refl _))), Nat.le_succ _, Nat.le_refl _⟩
end Go.Proofs.YtpbobhfnglikmaaGreat
/- The map of events: Copy. Conditions: as in the text. -/
namespace Go.Proofs.YtpbobhfnglikmaaGreat
open Go.RowKit
section
variable {P : Program} {k : TypeId} {α β : Type} {kv : α → Value} {ok : α → Prop} {vv : β → Value}
theorem TabIt.isIter {w : World} {b r cnt : Nat} {m rest : List (α × β)} (h : TabIt P k kv ok vv w b r m rest cnt) : ∃ x y z, w.heap[r]? = some (.mapIter (some b) x y z) := by
 obtain ⟨D, left, ⟨es, clock, since, seen, c0, h1, h2, h3, h4, h5, h6⟩, hh⟩ := h
 exact ⟨_, _, _, h5⟩
theorem TabIt.keepsC {w w' : World} {b r cnt : Nat} {m rest : List (α × β)} (h : TabIt P k kv ok vv w b r m rest cnt) (hf : Fr (isR r) w w') : KeepsC w w' := fun j cs t f hk => by
 refine (hf.block j (lt_of_block hk) (fun e => ?_)).trans hk
 obtain ⟨x, y, z, h5⟩ := h.isIter
 rw [show j = r from e, h5] at hk
 cases hk
end
theorem MpIn.notIter {w : World} {m : Nat} {b : MB} {s : MS} (h : MpIn w m b s) {r : Nat} (hr : ∃ a x y z, w.heap[r]? = Option.some (Obj.mapIter a x y z)) {j : Nat} (hj : foot b s.A j) : j ≠ r := fun e => by
 obtain ⟨a, x, y, z, h5⟩ := hr
 obtain ⟨es, cl, h1⟩ := h.maps hj
 rw [e, h5] at h1
 cases h1
theorem LoadK.copy {D : List Dot} {E : List Ev} {s s2 : MS} {n : Nat} (h : LoadK s.ctx D E s2) (hg : SGood s n) (hE : E.Perm (evsOf s.K)) (hD : ∀ d, d ∈ D ↔ d ∈ s.dead) (hDl : D.length ≤ s.dead.length) : SGood s2 n ∧ Rel s2 ⟨s.ctx, eventsOf s, sortD s.dead⟩ := by
 have hmE : ∀ e, e ∈ E ↔ ∃ x ∈ s.K, x.1 = e := fun e => hE.mem_iff.trans List.mem_map
 have hEd : (E.map (·.dot)).Nodup := by
  refine (hE.map fun e : Ev => e.dot).nodup_iff.2 ?_
  unfold evsOf
  rw [List.map_map]
  exact hg.nd
 have hne : (E.reverse.map (·.dot)).Nodup := by
  rw [List.map_reverse]
  exact List.pairwise_reverse.2 (hEd.imp fun h => Ne.symm h)
 have hnd : (s2.K.map (·.1.dot)).Nodup := by
  have h1 : s2.K.map (·.1.dot) = (evsOf s2.K).map (·.dot) := by unfold evsOf; rw [List.map_map]; rfl
  rw [h1, h.kept]
  exact hne
 have hmem : ∀ e, (∃ x ∈ s2.K, x.1 = e) ↔ e ∈ E := fun e => by
  rw [← List.mem_reverse, ← h.kept]
  exact (List.mem_map (f := fun x : EvIt => x.1)).symm
 have hK2 : ∀ x ∈ s2.K, ∃ y ∈ s.K, y.1 = x.1 := fun x hx => (hmE _).1 ((hmem x.1).1 ⟨x, hx, rfl⟩)
 have hi : MInv s2 := by
  refine ⟨by rw [h.ctx]; exact hg.inv.ctx, by rw [h.ctx]; exact hg.inv.ctxOk, fun x hx => ?_, fun k d => ?_, ?_, fun d hd => hg.inv.dead d (by rw [h.dead] at hd; exact (hD d).1 hd), ?_⟩
  ·obtain ⟨y, hy, e⟩ := hK2 x hx
   rw [h.ctx, ← e]
   exact hg.inv.kept y hy
  ·rw [h.pairs, List.mem_map, h.dead]
   constructor
   ·rintro ⟨e, he, e9⟩
    obtain ⟨h1, h2⟩ := List.mem_filter.1 he
    obtain ⟨x, hx, rfl⟩ := (hmem e).2 (List.mem_reverse.1 h1)
    simp only [livB, Bool.and_eq_true, decide_eq_true_eq, Bool.not_eq_true', decide_eq_false_iff_not] at h2
    simp only [keyDot, Prod.mk.injEq] at e9
    exact ⟨x, hx, h2.1, e9.2, e9.1, by rw [← e9.2]; exact h2.2⟩
   ·rintro ⟨x, hx, h1, rfl, rfl, h2⟩
    refine ⟨x.1, List.mem_filter.2 ⟨List.mem_reverse.2 (h.dots x hx), ?_⟩, rfl⟩
    simp only [livB, Bool.and_eq_true, decide_eq_true_eq, Bool.not_eq_true', decide_eq_false_iff_not]
    exact ⟨h1, h2⟩
  ·rw [h.pairs]
   have h1 : (E.reverse.filter (livB D)).Pairwise fun a b => a.dot ≠ b.dot := (List.pairwise_map.1 hne).sublist List.filter_sublist
   exact List.pairwise_map.2 (h1.imp fun {a b} h e => h (by simp only [keyDot, Prod.mk.injEq] at e; exact e.2))
  ·rw [← evsOf_length, h.kept, List.length_reverse, hE.length_eq, evsOf_length]
   exact hg.inv.len
 refine ⟨⟨hi, hnd, by rw [h.ctx]; exact hg.ctx, by rw [h.dead]; exact Nat.le_trans hDl hg.dead, fun x hx => ?_⟩, ⟨hnd, h.ctx.symm, ?_, ?_⟩⟩
 ·obtain ⟨y, hy, e⟩ := hK2 x hx
  rw [← e]
  exact hg.small y hy
 ·show eventsOf s = eventsOf s2
  exact srtE_ext (eventsOf_srt hg.nd) (eventsOf_srt hnd) fun e => by rw [eventsOf_mem hg.nd, eventsOf_mem hnd, hmem, hmE]
 ·show sortD s.dead = sortD s2.dead
  rw [h.dead]
  exact (sortD_congr hD).symm
def RetCp (m : Nat) (b : MB) (s : MS) (n : Nat) (w : World) (x : Ending) (w' : World) : Prop :=
 ∃ m2 b2 s2, x = .returned (.pointer (some ⟨m2, 0, none⟩)) ∧ MpIn w' m b s ∧ MpIn w' m2 b2 s2 ∧ SGood s2 n ∧ Rel s2 ⟨s.ctx, eventsOf s, sortD s.dead⟩ ∧ (∀ k, foot b2 s2.A k → w.heap.size ≤ k) ∧ Below w.heap.size w w'
set_option maxRecDepth 100000 in
set_option maxHeartbeats 16000000 in
theorem mCopy_any {m : Nat} {b : MB} {s : MS} {n : Nat} (hg : SGood s n) (hn : n ≤ 1000) (w : World) (h : MpIn w m b s) :
 Calls Tryz.prog 24 #[.pointer (some ⟨m, 0, none⟩)] w (RetCp m b s n w) := by
 have HN := Lib.hid (fun X => mNew_any X)
 have hcl := hg.ctx
 have hdl := hg.dead
 have hKl := hg.inv.len
 have HVC := Lib.hid (fun (X : World) (h : MpIn X m b s) => vCopy_any X h.vec hg.inv.ctx hg.inv.ctxOk (by omega))
 have HG := Lib.hid hg
 have HH := Lib.hid h
 clear hg
 go_enter Tryz.func24, Tryz.ntmps24
 go_upto_region 4 with (go_at_call 15; (with_reducible refine (HN.out _).mono ?_); rintro v1 w1 ⟨m2, b0, rfl, hm1, hb1, hlm, hfo⟩)
 have ho1 := h.kept_w hb1
 have y3 := (four_cells ho1.cell).2.2.2
 have hm1low : ∀ k, foot b0 [] k → k < w1.heap.size := fun k hk => hm1.low hk
 have hm2lt : m2 < w1.heap.size := lt_of_block hm1.cell
 have z3 := (four_cells hm1.cell).2.2.2
 have zf : w1.frozen? ⟨m2, 3, none⟩ = false := by simp [World.frozen?, hm1.cell]
 go_upto_region 5 with (go_at_call 84; (with_reducible refine (HVC.out _ ho1).mono ?_); rintro v2 w2 ⟨v, vb, rfl, hv2, hb2, hlv, hlb⟩; have z3' := kept hb2 z3; have zf' : w2.frozen? ⟨m2, 3, none⟩ = false := by simp [World.frozen?, (hm1.kept_w hb2).cell])
 refine wp_name (fun V hV => ?_)
 have hm2 := hm1.kept_w hb2
 have ho2 := ho1.kept_w hb2
 have hVe : V = w2.setCell ⟨m2, 3, none⟩ (.pointer (some ⟨v, 0, none⟩)) := hV.out
 have hbw2 : Below w.heap.size w w2 := hb1.trans (hb2.mono hb1.size)
 have hbV : Below w.heap.size w V := by
  rw [hVe, setCell_eq_setRow _ _ _ _ _ _ _ hm2.cell]
  exact below_setRow hbw2 hlm _
 have hmV0 : MpIn V m2 ⟨b0.kb, b0.ab, b0.db, v, vb⟩ ⟨s.ctx, [], [], [], []⟩ := by
  rw [hVe]
  exact mp_setSeen hm2 hv2 (fun k hk e => by have := hm1low k hk; omega)
 have hz1 := hb1.size
 have hfoV : ∀ k, foot ⟨b0.kb, b0.ab, b0.db, v, vb⟩ [] k → w.heap.size ≤ k := fun k hk => by
  simp only [foot, blocks, List.map_nil, List.mem_cons, List.not_mem_nil, or_false] at hk
  have h1 := hfo _ (foot_kb b0 _)
  have h2 := hfo _ (foot_ab b0 _)
  have h3 := hfo _ (foot_db b0 _)
  rcases hk with rfl | rfl | rfl | rfl <;> omega
 obtain ⟨b2, hb2e⟩ : ∃ b2, b2 = (⟨b0.kb, b0.ab, b0.db, v, vb⟩ : MB) := ⟨_, rfl⟩
 rw [← hb2e] at hmV0 hfoV
 have hoV : MpIn V m b s := HH.out.kept_w hbV
 clear hV hVe hm2 ho2 hbw2 hv2 hb2 hlv hlb ho1 y3 z3 zf hm1 hm1low hm2lt hb1 hlm hfo hb2e hz1 HN HVC h
 have htd := hoV.dead
 have y2 := (four_cells hoV.cell).2.2.1
 go_wp2_with (at_range; refine wpList_range_tab kDot _ rfl _ 105 rfl 3 Tryz.underlying105 b.db rfl htd ?_; intro w0 cnt0 hrg0 hb0 hs0)
 go_frame
 have hzV := hbV.size
 have hmw0 := hmV0.kept_w hb0
 have hbw0 : Below w.heap.size w w0 := hbV.trans (hb0.mono hbV.size)
 have HLo : Hid (∀ k, foot b s.A k → k < w.heap.size) := fun k hk => HH.out.low hk
 have HFo := Lib.hid hfoV
 clear hmV0 hb0 hs0 hfoV
 go_loopw [] (fun wr => ∃ rest cnt ks, TabIt Tryz.prog 35 dotVal DotW intVal wr b.db V.heap.size (ones s.dead) rest cnt ∧ (ks ++ rest.map (·.1)).Perm ((ones s.dead).map (·.1)) ∧ MpIn wr m2 b2 ⟨s.ctx, [], ks.foldl (fun l d => addD d l) [], [], []⟩ ∧ Below w.heap.size w wr) (fun wr => wr.rangeLeft b.db V.heap.size)
 case atStart => exact ⟨ones s.dead, _, [], hrg0, List.Perm.refl _, hmw0, hbw0⟩
 case round =>
  obtain ⟨rest, cnt, ks, hrg, hC, hmr, hbr⟩ := hrel
  have HLE := Lib.hid hrg.left_eq
  have HIT := Lib.hid hrg
  clear hrg0 hmw0 hbw0
  go_wp2_with (at_next; refine wpList_next_tab kDot _ rfl _ rfl b.db V.heap.size cnt rfl hrg ?_ ?_)
  rotate_left
  ·intro x n rest' w2 cnt2 hperm hpm hrg2 hlt hg2 hs2 hen
   have hxd : x ∈ s.dead := by
        have h9 : x ∈ (ones s.dead).map (·.1) := List.mem_map.2 ⟨_, hpm, rfl⟩
        rwa [ones_keys] at h9
   have HXd := Lib.hid (HG.out.inv.dead x hxd)
   have hkl : ks.length ≤ s.dead.length := by
        have h1 := hC.length_eq
        rw [List.length_append, ones_keys] at h1
        omega
   have HC2 : Hid (((ks ++ [x]) ++ rest'.map (·.1)).Perm ((ones s.dead).map (·.1))) := by
        have h3 : (ks ++ rest.map (·.1)).Perm ((ks ++ [x]) ++ rest'.map (·.1)) := by
         have := (hperm.map (·.1)).append_left ks
         simpa using this
        exact h3.symm.trans hC
   have hiter : ∃ a x y z, wr.heap[V.heap.size]? = some (Obj.mapIter a x y z) := by
        obtain ⟨x, y, z, h9⟩ := HIT.out.isIter
        exact ⟨_, x, y, z, h9⟩
   have hm2 := hmr.other hg2 (HIT.out.keepsC hg2) (fun q hq hq2 => hmr.notIter hiter hq2 hq)
   have hb2 : Below w.heap.size w w2 := hbr.trans (hg2.below hbr.size (fun q hq => by rw [show q = V.heap.size from hq]; exact hzV))
   have HLT := Lib.hid hlt
   have hzw2 := hb2.size
   clear hperm hpm hC hmr hbr hg2 hs2 hrg hlt hxd hiter
   go_upto_region 8 with fail
   refine wp_name (fun W hW => ?_)
   have hbW : Below w2.heap.size w2 W.drew := by rw [hW.out]; go_grown
   have x0 : W.drew.cell? ⟨w2.heap.size, 0, none⟩ = some (.int .i64 x.a.dev) := by rw [hW.out]; go_simp
   have x1 : W.drew.cell? ⟨w2.heap.size, 1, none⟩ = some (.int .i64 x.a.inc) := by rw [hW.out]; go_simp
   have x2 : W.drew.cell? ⟨w2.heap.size, 2, none⟩ = some (.int .i64 x.seq) := by rw [hW.out]; go_simp
   have h1 := hm2.kept_w hbW
   have hrgW := hrg2.kept hbW
   have xm : W.drew.cell? ⟨m2, 2, none⟩ = some (.map (some b2.db)) := (four_cells h1.cell).2.2.1
   have hbWw : Below w.heap.size w W.drew := hb2.trans (hbW.mono hb2.size)
   clear hW hm2 hrg2 hen hb2 hbW
   obtain ⟨w4, hrun, htab, hfr⟩ := h1.dead.add (dotOk_W HXd.out) (by have := foldAdd_len ks []; simp only [List.length_nil] at this; show (ks.foldl (fun l d => addD d l) []).length ≤ _; omega)
   have h2 := h1.setDead htab hfr
   have hit : ∃ a x y z, W.drew.heap[V.heap.size]? = some (Obj.mapIter a x y z) := by
        obtain ⟨x, y, z, h9⟩ := hrgW.isIter
        exact ⟨_, x, y, z, h9⟩
   have hrg4 := hrgW.fr hfr (fun e9 => by have h8 := HFo.out _ (foot_db b2 _); have h7 := HLo.out _ (foot_db b s.A); rw [show b.db = b2.db from e9] at h7; omega) (fun e9 => h1.notIter hit (foot_db b2 _) e9.symm)
   have hb4 : Below w.heap.size w w4 := hbWw.trans (hfr.below hbWw.size (fun q hq => by rw [show q = b2.db from hq]; exact HFo.out _ (foot_db b2 _)))
   clear htab hfr hit hrgW
   refine wp_region_noPanic ?_
   refine wp_region_late (fun W' => (W'.cell? ⟨w2.heap.size, 0, none⟩ = some (.int .i64 x.a.dev) ∧ W'.cell? ⟨w2.heap.size, 1, none⟩ = some (.int .i64 x.a.inc) ∧ W'.cell? ⟨w2.heap.size, 2, none⟩ = some (.int .i64 x.seq)) ∧ W'.cell? ⟨m2, 2, none⟩ = some (.map (some b2.db))) [5] (by kernel_rfl) ?_
   have hS := And.intro (And.intro x0 (And.intro x1 x2)) xm
   refine wpAnyL_take (i := 0) (oi := ⟨some 27, _, _, _, _, _⟩) (v := ?_) rfl (by kernel_rfl) (by kernel_rfl) (by kernel_rfl) (by kernel_rfl) (by kernel_rfl) (fun _ _ _ h => h) (Or.inl ⟨by rfl, ?_⟩) (by assumption) ?_
   case refine_2 => (rintro w ⟨⟨s0, s1, s2⟩, sm⟩; go_simp; try with_reducible rfl)
   try simp only [pA, pB, pC, pD, pE]
   refine wpAnyL_take (i := 1) (oi := ⟨some 28, _, _, _, _, _⟩) (v := ?_) rfl (by kernel_rfl) (by kernel_rfl) (by kernel_rfl) (by kernel_rfl) (by kernel_rfl) (fun _ _ _ h => h) (Or.inl ⟨by rfl, ?_⟩) (by assumption) ?_
   case refine_2 => (rintro w ⟨⟨s0, s1, s2⟩, sm⟩; go_simp; try with_reducible rfl)
   try simp only [pA, pB, pC, pD, pE]
   refine wpAnyL_take (i := 2) (oi := ⟨some 29, _, _, _, _, _⟩) (v := ?_) rfl (by kernel_rfl) (by kernel_rfl) (by kernel_rfl) (by kernel_rfl) (by kernel_rfl) (fun _ _ _ h => h) (Or.inl ⟨by rfl, ?_⟩) (by assumption) ?_
   case refine_2 => (rintro w ⟨⟨s0, s1, s2⟩, sm⟩; go_simp; try with_reducible rfl)
   try simp only [pA, pB, pC, pD, pE]
   refine wpAnyL_take (i := 3) (oi := ⟨some 30, _, _, _, _, _⟩) (v := ?_) rfl (by kernel_rfl) (by kernel_rfl) (by kernel_rfl) (by kernel_rfl) (by kernel_rfl) (fun _ _ _ h => h) (Or.inl ⟨by rfl, ?_⟩) (by assumption) ?_
   case refine_2 => (rintro w ⟨⟨s0, s1, s2⟩, sm⟩; go_simp; try with_reducible rfl)
   try simp only [pA, pB, pC, pD, pE]
   refine wpAnyL_take (i := 4) (oi := ⟨some 31, _, _, _, _, _⟩) (v := ?_) rfl (by kernel_rfl) (by kernel_rfl) (by kernel_rfl) (by kernel_rfl) (by kernel_rfl) (fun _ _ _ h => h) (Or.inl ⟨by rfl, ?_⟩) (by assumption) ?_
   case refine_2 => (rintro w ⟨⟨s0, s1, s2⟩, sm⟩; go_simp; try with_reducible rfl)
   try simp only [pA, pB, pC, pD, pE]
   refine wpAnyL_one (i := 5) (o := ⟨none, _, _, _, _, _⟩) (by kernel_rfl) rfl ?_
   intro K hK
   go_simp
   refine hK.out _ _ (Or.inl (by kernel_rfl)) ?_
   clear hK K
   try simp only [pA, pB, pC, pD, pE]
   refine wpAnyL_done (by kernel_rfl) ?_ _
   refine NoPanic.normal ?_
   have HZ : Hid (TabIt Tryz.prog 35 dotVal DotW intVal w4 b.db V.heap.size (ones s.dead) rest' cnt2 ∧ MpIn w4 m2 b2 ⟨s.ctx, [], (ks ++ [x]).foldl (fun l d => addD d l) [], [], []⟩ ∧ Below w.heap.size w w4) := by
        refine ⟨hrg4, ?_, hb4⟩
        rw [List.foldl_append]
        exact h2
   clear hS hrun xm h1 x0 x1 x2 h2 hb4 hrg4 hbWw
   go_wp2
   go_roundw
   case rel => exact ⟨rest', cnt2, ks ++ [x], HZ.out.1, HC2.out, HZ.out.2.1, HZ.out.2.2⟩
   case measure => rw [HZ.out.1.left_eq, HLE.out]; exact HLT.out
  ·intro hr0
   subst hr0
   have hpermK : ks.Perm s.dead := by have h9 := hC; rw [ones_keys] at h9; simpa using h9
   obtain ⟨D, hD⟩ : ∃ D, D = ks.foldl (fun l d => addD d l) [] := ⟨_, rfl⟩
   rw [← hD] at hmr
   have hDl : D.length ≤ s.dead.length := by
        rw [hD]
        have h1 := foldAdd_len ks []
        have h2 := hpermK.length_eq
        simp only [List.length_nil] at h1
        omega
   have HDm : Hid (∀ d, d ∈ D ↔ d ∈ s.dead) := fun d => by rw [hD, foldAdd_mem]; simp [hpermK.mem_iff]
   have HDL := Lib.hid hDl
   have hoW := HH.out.kept_w hbr
   have htk := hoW.kept
   have y0 := (four_cells hoW.cell).1
   have HFS : Hid (∀ q, foot b2 [] q → w.heap.size ≤ q) := HFo.out
   clear hD hpermK hC hrg HLE HIT hDl HFo
   obtain ⟨wo, rfl⟩ : ∃ wo : World, wo = wr := ⟨_, rfl⟩
   go_wp2_with (at_range; refine wpList_range_tab kDot _ rfl _ 103 rfl 43 Tryz.underlying103 b.kb rfl htk ?_; intro w0 cnt0 hrg0 hb0 hs0)
   go_frame
   have hmw0 := hmr.kept_w hb0
   have hbw0 := hbr.trans (hb0.mono hbr.size)
   have hzo := hbr.size
   clear hoW hmr hb0 hs0 hbr htk y0
   go_loopw [] (fun wr => ∃ rest cnt E s2, TabIt Tryz.prog 35 dotVal DotW evV wr b.kb wo.heap.size (keptE s.K) rest cnt ∧ (E ++ rest.map (fun p => p.2.1)).Perm (evsOf s.K) ∧ MpIn wr m2 b2 s2 ∧ LoadK s.ctx D E s2 ∧ (∀ q, foot b2 s2.A q → w.heap.size ≤ q) ∧ Below w.heap.size w wr) (fun wr => wr.rangeLeft b.kb wo.heap.size)
   case atStart => exact ⟨keptE s.K, _, [], _, hrg0, by unfold keptE evsOf; rw [List.map_map, List.nil_append]; exact List.Perm.refl _, hmw0, ⟨rfl, rfl, rfl, rfl⟩, HFS.out, hbw0⟩
   case round =>
        obtain ⟨rest, cnt, E, s2, hrg, hC, hms, hLK, hfs, hbs⟩ := hrel
        have HLE := Lib.hid hrg.left_eq
        have HIT := Lib.hid hrg
        have HLK := Lib.hid hLK
        have HFS2 := Lib.hid hfs
        clear hrg0 hmw0 hbw0 hfs
        go_wp2_with (at_next; refine wpList_next_tab kDot _ rfl _ rfl b.kb wo.heap.size cnt rfl hrg ?_ ?_)
        rotate_left
        ·intro x e ea ec rest' w2 cnt2 hperm hpm hrg2 hlt hg2 hs2 hen
         obtain ⟨z, hz, e9⟩ := List.mem_map.1 hpm
         simp only [Prod.mk.injEq] at e9
         obtain ⟨rfl, e9⟩ := e9
         subst e9
         have HZK := Lib.hid hz
         have hC2 : (E ++ [e] ++ rest'.map (fun p => p.2.1)).Perm (evsOf s.K) := by
          have h3 : (E ++ rest.map (fun p => p.2.1)).Perm (E ++ [e] ++ rest'.map (fun p => p.2.1)) := by
           have := (hperm.map (fun p => p.2.1)).append_left E
           simpa using this
          exact h3.symm.trans hC
         have HC2 := Lib.hid hC2
         have hiter : ∃ a x y z, wr.heap[wo.heap.size]? = some (Obj.mapIter a x y z) := by
          obtain ⟨x, y, z, h9⟩ := HIT.out.isIter
          exact ⟨_, x, y, z, h9⟩
         have hms2 := hms.other hg2 (HIT.out.keepsC hg2) (fun q hq hq2 => hms.notIter hiter hq2 hq)
         have hb2 : Below w.heap.size w w2 := hbs.trans (hg2.below hbs.size (fun q hq => by rw [show q = wo.heap.size from hq]; exact hzo))
         have hdz := (HH.out.kept_w hb2).overs (e, ea, ec) hz
         have hev := (HG.out.inv.kept (e, ea, ec) hz).1
         have hEl : E.length ≤ 2048 := by
          have h1 := hC.length_eq
          rw [List.length_append, evsOf_length] at h1
          omega
         have hKl2 : s2.K.length = E.length := by rw [← evsOf_length, hLK.kept, List.length_reverse]
         have HLT := Lib.hid hlt
         clear hpm hperm hC hms hbs hg2 hs2 hrg hlt hiter hz hLK hC2
         simp only at hdz hev hen hrg2
         have hd0 : ((w2.alloc (.cells #[.int .i64 0, .int .i64 0, .int .i64 0] 35)).alloc (.cells #[.int .i64 0, .int .i64 0, .int .i64 0, .int .i64 0, .int .i64 0, .int .i64 0, .int .i64 0, .string ⟨#[]⟩, .string ⟨#[]⟩, .string ⟨#[]⟩, .string ⟨#[]⟩, .bool false, .bool false, .bool false, .bool false, .int .i64 0, .int .i64 0, .int .i64 0, .slice none 0 0] 43)).heap[w2.heap.size]? = some (.cells #[.int .i64 0, .int .i64 0, .int .i64 0] 35 (0, 0)) := (((Below.refl _ _).alloc (Nat.le_refl _) _).block _ (by simp)).trans (heap_last0 _ _)
         have he0 : (((w2.alloc (.cells #[.int .i64 0, .int .i64 0, .int .i64 0] 35)).alloc (.cells #[.int .i64 0, .int .i64 0, .int .i64 0, .int .i64 0, .int .i64 0, .int .i64 0, .int .i64 0, .string ⟨#[]⟩, .string ⟨#[]⟩, .string ⟨#[]⟩, .string ⟨#[]⟩, .bool false, .bool false, .bool false, .bool false, .int .i64 0, .int .i64 0, .int .i64 0, .slice none 0 0] 43)).setRow w2.heap.size #[.int .i64 e.dot.a.dev, .int .i64 e.dot.a.inc, .int .i64 e.dot.seq]).heap[w2.heap.size + 1]? = some (.cells (evCells ev0 none 0).toArray 43 (0, 0)) := (heap_setRow_other _ _ _ _ (by omega)).trans (heap_last1 w2 _ _)
         have hbx : Below w2.heap.size w2 ((w2.alloc (.cells #[.int .i64 0, .int .i64 0, .int .i64 0] 35)).alloc (.cells #[.int .i64 0, .int .i64 0, .int .i64 0, .int .i64 0, .int .i64 0, .int .i64 0, .int .i64 0, .string ⟨#[]⟩, .string ⟨#[]⟩, .string ⟨#[]⟩, .string ⟨#[]⟩, .bool false, .bool false, .bool false, .bool false, .int .i64 0, .int .i64 0, .int .i64 0, .slice none 0 0] 43)) := ((Below.refl w2.heap.size w2).alloc (Nat.le_refl _) _).alloc (by simp) _
         go_upto_region 12 with (first
          | (refine wpList_store_row rfl 35 _ _ rfl w2.heap.size #[.int .i64 e.dot.a.dev, .int .i64 e.dot.a.inc, .int .i64 e.dot.seq] rfl rfl 35 #[.int .i64 0, .int .i64 0, .int .i64 0] hd0 (by kernel_rfl) rfl (by kernel_rfl) ?_)
          | (refine wpList_store_row rfl 43 _ _ rfl (w2.heap.size + 1) (evCells e ea ec).toArray rfl rfl 43 (evCells ev0 none 0).toArray he0 (by kernel_rfl) rfl (by kernel_rfl) ?_))
         refine wp_name (fun W hW => ?_)
         have hbW : Below w2.heap.size w2 W.drew := by rw [hW.out]; exact (below_setRow (below_setRow hbx (Nat.le_refl _) _) (Nat.le_succ _) _).drew
         have hrow1 : W.heap[w2.heap.size]? = some (.cells #[.int .i64 e.dot.a.dev, .int .i64 e.dot.a.inc, .int .i64 e.dot.seq] 35 (0, 0)) := by rw [hW.out]; exact (heap_setRow_other _ _ _ _ (by omega)).trans (setRow_heap _ _ _ _ _ _ hd0)
         have hrow2 : W.heap[w2.heap.size + 1]? = some (.cells (evCells e ea ec).toArray 43 (0, 0)) := by rw [hW.out]; exact setRow_heap _ _ _ _ _ _ he0
         have hR4 : W.drew.rangeAt (w2.heap.size + 1) 0 (evCells e ea ec) := show W.rangeAt _ _ _ from ev_range hrow2
         have q0 : W.drew.cell? ⟨w2.heap.size, 0, none⟩ = some (.int .i64 e.dot.a.dev) := by show W.cell? _ = _; simp [World.cell?, hrow1]
         have q1 : W.drew.cell? ⟨w2.heap.size, 1, none⟩ = some (.int .i64 e.dot.a.inc) := by show W.cell? _ = _; simp [World.cell?, hrow1]
         have q2 : W.drew.cell? ⟨w2.heap.size, 2, none⟩ = some (.int .i64 e.dot.seq) := by show W.cell? _ = _; simp [World.cell?, hrow1]
         clear hd0 he0 hbx hrow1 hrow2
         have h4 := hms2.kept_w hbW
         have hrg4 := hrg2.kept hbW
         have hin4 := hdz.kept hbW
         have z3 := (four_cells h4.cell).1
         have hbW9 : Below w.heap.size w W.drew := hb2.trans (hbW.mono hb2.size)
         obtain ⟨hdo, _, hov64, hkw, _⟩ := evOk_parts hev
         have hn0 : ea = none → e.over = [] := fun hn => by rcases hin4 with h | ⟨A, off, h3, _⟩; exact h; rw [hn] at h3; cases h3
         have HCL : Hid (∀ X : World, DotsIn X ea e.over → Calls Tryz.prog 78 #[.agg (evCells e ea ec).toArray] X (RetClone e X)) := Lib.hid (fun (X : World) (h : DotsIn X ea e.over) => evClone_any e ea ec X (by omega) hn0 h)
         have hAH : ∀ y ∈ s2.K, y.1.dot ≠ e.dot := fun y hy e9 => by
          have h1 : y.1 ∈ E := by
           have : y.1 ∈ evsOf s2.K := List.mem_map_of_mem hy
           rw [HLK.out.kept, List.mem_reverse] at this
           exact this
          have h2 : ((E ++ [e] ++ rest'.map (fun p => p.2.1)).map (·.dot)).Nodup := by
           refine (HC2.out.map fun x : Ev => x.dot).nodup_iff.2 ?_
           unfold evsOf
           rw [List.map_map]
           exact HG.out.nd
          rw [List.append_assoc, List.map_append, List.nodup_append] at h2
          exact h2.2.2 y.1.dot (List.mem_map_of_mem h1) e.dot (by simp) e9
         have HAH := Lib.hid hAH
         clear hW hbW hms2 hdz hrg2 hen hb2 hev hn0 hAH
         refine wp_region_noPanic ?_
         refine wp_region_late (fun X => Below W.drew.heap.size W.drew X) [7] (by kernel_rfl) ?_
         have hb0 : Below W.drew.heap.size W.drew W.drew := Below.refl _ _
         refine wpAnyL_take (i := 0) (oi := ⟨some 42, _, _, _, _, _⟩) (v := ?_) rfl (by kernel_rfl) (by kernel_rfl) (by kernel_rfl) (by kernel_rfl) (by kernel_rfl) (fun _ _ _ h => h) (Or.inl ⟨by rfl, ?_⟩) (by assumption) ?_
         case refine_2 => (rintro w hSw; have s0 := kept hSw q0; have s1 := kept hSw q1; have s2 := kept hSw q2; have s3 := kept hSw z3; go_simp; try with_reducible rfl)
         try simp only [pA, pB, pC, pD, pE]
         refine wpAnyL_take (i := 1) (oi := ⟨some 43, _, _, _, _, _⟩) (v := ?_) rfl (by kernel_rfl) (by kernel_rfl) (by kernel_rfl) (by kernel_rfl) (by kernel_rfl) (fun _ _ _ h => h) (Or.inl ⟨by rfl, ?_⟩) (by assumption) ?_
         case refine_2 => (rintro w hSw; have s0 := kept hSw q0; have s1 := kept hSw q1; have s2 := kept hSw q2; have s3 := kept hSw z3; go_simp; try with_reducible rfl)
         try simp only [pA, pB, pC, pD, pE]
         refine wpAnyL_take (i := 2) (oi := ⟨some 44, _, _, _, _, _⟩) (v := ?_) rfl (by kernel_rfl) (by kernel_rfl) (by kernel_rfl) (by kernel_rfl) (by kernel_rfl) (fun _ _ _ h => h) (Or.inl ⟨by rfl, ?_⟩) (by assumption) ?_
         case refine_2 => (rintro w hSw; have s0 := kept hSw q0; have s1 := kept hSw q1; have s2 := kept hSw q2; have s3 := kept hSw z3; go_simp; try with_reducible rfl)
         try simp only [pA, pB, pC, pD, pE]
         refine wpAnyL_take (i := 3) (oi := ⟨some 45, _, _, _, _, _⟩) (v := ?_) rfl (by kernel_rfl) (by kernel_rfl) (by kernel_rfl) (by kernel_rfl) (by kernel_rfl) (fun _ _ _ h => h) (Or.inl ⟨by rfl, ?_⟩) (by assumption) ?_
         case refine_2 => (rintro w hSw; have s0 := kept hSw q0; have s1 := kept hSw q1; have s2 := kept hSw q2; have s3 := kept hSw z3; go_simp; try with_reducible rfl)
         try simp only [pA, pB, pC, pD, pE]
         refine wpAnyL_take (i := 4) (oi := ⟨some 46, _, _, _, _, _⟩) (v := ?_) rfl (by kernel_rfl) (by kernel_rfl) (by kernel_rfl) (by kernel_rfl) (by kernel_rfl) (fun _ _ _ h => h) (Or.inl ⟨by rfl, ?_⟩) (by assumption) ?_
         case refine_2 => (rintro w hSw; have s0 := kept hSw q0; have s1 := kept hSw q1; have s2 := kept hSw q2; have s3 := kept hSw z3; go_simp; try with_reducible rfl)
         try simp only [pA, pB, pC, pD, pE]
         refine wpAnyL_take (i := 5) (oi := ⟨some 47, _, _, _, _, _⟩) rfl (by kernel_rfl) (by kernel_rfl) (by kernel_rfl) (by kernel_rfl) (by kernel_rfl) (fun _ _ _ h => h) (yieldsIf_load_mid (by rfl) 43 _ rfl (w2.heap.size + 1) 0 rfl (evCells e ea ec) _ (fun X hX => rangeAt_kept hR4 hX) Tryz.underlying43 rfl (by kernel_rfl)) (by assumption) ?_
         try simp only [pA, pB, pC, pD, pE]
         refine wpAnyL_one (i := 6) (o := ⟨some 48, _, _, _, _, _⟩) (by kernel_rfl) rfl ?_
         intro K hK
         go_simp
         go_at_call 78
         (with_reducible refine (HCL.out _ hin4).mono ?_)
         rintro x w5 ⟨a5, c5, rfl, hown5, hb5⟩
         go_simp
         refine hK.out _ _ (Or.inr (hb5)) ?_
         clear hK K
         try simp only [pA, pB, pC, pD, pE]
         have h5 := h4.kept_w hb5
         have hnew : ∀ p ∈ keptE s2.K, p.1 ≠ e.dot := fun p hp e2 => by
          obtain ⟨x, hx, rfl⟩ := List.mem_map.1 hp
          exact HAH.out x hx e2
         obtain ⟨w6, hrun6, htab6, hf6⟩ := h5.kept.store_new kDot Tryz.underlying103 (by show (keptE s2.K).length < _; unfold keptE maxLen; rw [List.length_map]; omega) (dotOk_W hdo) hnew ((e, a5, c5) : EvIt)
         have hK6 := h5.keeps hf6 (fun i hi => by rw [show i = b2.kb from hi]; exact foot_kb b2 _)
         obtain ⟨a5', c5', he5, hd5⟩ := own_dots hown5
         have hd6 : DotsIn w6 a5 e.over := by
          simp only [Value.slice.injEq] at he5
          rw [he5.1]
          exact hK6.dots hd5
         have h6 : MpIn w6 m2 b2 { s2 with K := (e, a5, c5) :: s2.K } := h5.setKept htab6 (fun x hx => by
          rcases List.mem_cons.1 hx with rfl | hx
          ·exact hd6
          ·exact hK6.dots (h5.overs x hx)) hf6
         have hR6 : w6.rangeAt (w2.heap.size + 1) 0 (evCells e ea ec) := hK6.range (rangeAt_kept hR4 hb5)
         have g0 : w6.cell? ⟨w2.heap.size, 0, none⟩ = some (.int .i64 e.dot.a.dev) := hK6.cell (kept hb5 q0)
         have g1 : w6.cell? ⟨w2.heap.size, 1, none⟩ = some (.int .i64 e.dot.a.inc) := hK6.cell (kept hb5 q1)
         have g2 : w6.cell? ⟨w2.heap.size, 2, none⟩ = some (.int .i64 e.dot.seq) := hK6.cell (kept hb5 q2)
         have hrg5 := hrg4.kept hb5
         have hit5 : ∃ a x y z, w5.heap[wo.heap.size]? = some (Obj.mapIter a x y z) := by
          obtain ⟨x, y, z, h9⟩ := hrg5.isIter
          exact ⟨_, x, y, z, h9⟩
         have hrg6 := hrg5.fr hf6 (fun e9 => by have h8 := HFS2.out _ (foot_kb b2 _); have h7 := HLo.out _ (foot_kb b s.A); rw [show b.kb = b2.kb from e9] at h7; omega) (fun e9 => h5.notIter hit5 (foot_kb b2 _) e9.symm)
         have hb6 : Below w.heap.size w w6 := (hbW9.trans (hb5.mono hbW9.size)).trans (hf6.below (Nat.le_trans hbW9.size hb5.size) (fun q hq => by rw [show q = b2.kb from hq]; exact HFS2.out _ (foot_kb b2 _)))
         clear hd6 hd5 he5 hown5 htab6 hf6 hK6 hb5 h5 hnew h4 hR4 hin4 q0 q1 q2 z3 hbW9 hrg4 hrg5 hit5
         refine wpAnyL_one (i := 7) (o := ⟨none, _, _, _, _, _⟩) (by kernel_rfl) rfl ?_
         intro K hK
         go_simp
         refine hK.out _ _ (Or.inl (by kernel_rfl)) ?_
         clear hK K
         try simp only [pA, pB, pC, pD, pE]
         refine wpAnyL_done (by kernel_rfl) ?_ _
         refine NoPanic.normal ?_
         clear hrun6 hb0 HCL
         have HK6 : Hid (evsOf ((e, a5, c5) :: s2.K) = (E ++ [e]).reverse) := by
          unfold Hid
          show e :: evsOf s2.K = _
          rw [List.reverse_append, HLK.out.kept]
          rfl
         have y6 := hR6 6 _ rfl
         simp only [Nat.zero_add] at y6
         have ho6 := HH.out.kept_w hb6
         have HDD0 := mDead_any e.dot (dotOk_W hdo) w6 ho6
         have hdq : decide (e.dot ∈ s.dead) = decide (e.dot ∈ D) := decide_eq_decide.2 (HDm.out e.dot).symm
         rw [hdq] at HDD0
         clear hdq ho6
         by_cases hk1 : e.kind = 1
         case neg =>
          have heq1 : (e.kind == 1) = false := beq_eq_false_iff_ne.2 hk1
          have HP : Hid (s2.pairs = ((E ++ [e]).reverse.filter (livB D)).map keyDot) := by
           unfold Hid
           rw [HLK.out.pairs, List.reverse_append]
           show _ = ((e :: _).filter _).map _
           rw [List.filter_cons, if_neg (by unfold livB; rw [decide_eq_false hk1, Bool.false_and]; decide)]
           rfl
          have HZ := Lib.hid (And.intro h6 (And.intro hb6 hrg6))
          clear HDD0 hk1 h6 hb6 g0 g1 g2 hR6 hrg6
          go_wp2
          go_roundw
          case rel => exact ⟨rest', cnt2, E ++ [e], _, HZ.out.2.2, HC2.out, HZ.out.1, ⟨HLK.out.ctx, HLK.out.dead, HK6.out, HP.out⟩, HFS2.out, HZ.out.2.1⟩
          case measure => rw [HZ.out.2.2.left_eq, HLE.out]; exact HLT.out
         have heq1 : (e.kind == 1) = true := beq_iff_eq.2 hk1
         have HK1 := Lib.hid hk1
         clear hk1
         by_cases hdd : e.dot ∈ D
         case pos =>
          have HP : Hid (s2.pairs = ((E ++ [e]).reverse.filter (livB D)).map keyDot) := by
           unfold Hid
           rw [HLK.out.pairs, List.reverse_append]
           show _ = ((e :: _).filter _).map _
           rw [List.filter_cons, if_neg (by unfold livB; rw [decide_eq_true hdd]; simp)]
           rfl
          have hD1 : decide (e.dot ∈ D) = true := decide_eq_true hdd
          rw [hD1] at HDD0
          have HDd := Lib.hid HDD0
          have HZ := Lib.hid (And.intro h6 (And.intro hb6 hrg6))
          clear HDD0 hdd hD1 hR6 h6 hb6 hrg6
          go_wp2_with (go_at_call 66; (with_reducible refine HDd.out.mono ?_); rintro x w7 ⟨rfl, hb7⟩)
          have HZ7 := Lib.hid (And.intro (HZ.out.1.kept_w hb7) (And.intro (HZ.out.2.1.trans (hb7.mono HZ.out.2.1.size)) (HZ.out.2.2.kept hb7)))
          clear g0 g1 g2 y6
          go_roundw
          case rel => exact ⟨rest', cnt2, E ++ [e], _, HZ7.out.2.2, HC2.out, HZ7.out.1, ⟨HLK.out.ctx, HLK.out.dead, HK6.out, HP.out⟩, HFS2.out, HZ7.out.2.1⟩
          case measure => rw [HZ7.out.2.2.left_eq, HLE.out]; exact HLT.out
         have HP : Hid ((e.key, e.dot) :: s2.pairs = ((E ++ [e]).reverse.filter (livB D)).map keyDot) := by
          unfold Hid
          rw [HLK.out.pairs, List.reverse_append]
          show _ = ((e :: _).filter _).map _
          rw [List.filter_cons, if_pos (by unfold livB; rw [decide_eq_true HK1.out, decide_eq_false hdd]; rfl)]
          rfl
         have hnoP : ∀ q, (q, e.dot) ∉ s2.pairs := fun q hq => by
          rw [HLK.out.pairs] at hq
          obtain ⟨x, hx, e9⟩ := List.mem_map.1 hq
          simp only [keyDot, Prod.mk.injEq] at e9
          have h1 : x ∈ evsOf s2.K := by rw [HLK.out.kept]; exact (List.mem_filter.1 hx).1
          obtain ⟨y, hy, rfl⟩ := List.mem_map.1 h1
          exact HAH.out y hy e9.2
         have hPl : s2.pairs.length ≤ 2048 := by
          have h1 := congrArg List.length HLK.out.pairs
          rw [List.length_map] at h1
          have h2 := List.length_filter_le (livB D) E.reverse
          rw [List.length_reverse] at h2
          omega
         have hD1 : decide (e.dot ∈ D) = false := decide_eq_false hdd
         rw [hD1] at HDD0
         have HDd := Lib.hid HDD0
         clear HDD0 hdd hD1
         go_upto_region 14 with (go_at_call 66; (with_reducible refine HDd.out.mono ?_); rintro x w7 ⟨rfl, hb7⟩)
         have h7 := h6.kept_w hb7
         have hR7 := rangeAt_kept hR6 hb7
         have hrg7 := hrg6.kept hb7
         have hb79 := hb6.trans (hb7.mono hb6.size)
         have hAl : (atK s2.pairs e.key).length ≤ 2048 := by
          have h1 : (atK s2.pairs e.key).length ≤ s2.pairs.length := by unfold atK; rw [List.length_map]; exact List.length_filter_le _ _
          omega
         have HLV := Lib.hid (live_any e ea ec w7 h7 hkw (dotOk_W hdo) (fun hm => hnoP _ (atK_mem.1 hm)) (Nat.le_trans hAl (by decide)) (by
          have h2 := nodup_len (l := s2.A.map (·.1)) (m := s2.pairs.map (·.1)) (List.pairwise_map.2 h7.alive.apart) (fun q hq => by
           obtain ⟨p, hp, rfl⟩ := List.mem_map.1 hq
           obtain ⟨d, hd⟩ := List.exists_mem_of_ne_nil _ (h7.some p hp)
           exact List.mem_map.2 ⟨(p.1, d), atK_mem.1 hd, rfl⟩)
          rw [List.length_map, List.length_map] at h2
          show s2.A.length ≤ _
          omega))
         have hit7 : ∃ a x y z, w7.heap[wo.heap.size]? = some (Obj.mapIter a x y z) := by
          obtain ⟨x, y, z, h9⟩ := hrg7.isIter
          exact ⟨_, x, y, z, h9⟩
         have HZ7 := Lib.hid (And.intro hrg7 (And.intro hb79 (And.intro hit7 h7)))
         clear g0 g1 g2 y6 h6 hR6 hb6 hb7 hnoP hAl hrg6 hrg7 hb79 hit7 h7 hPl
         go_wp2_with (first
          | ((with_reducible refine wpList_load_evo _ (w2.heap.size + 1) 0 e ea ec hR7 ?_ rfl ?_); exact rfl)
          | (go_at_call 79; (with_reducible refine HLV.out.mono ?_); rintro x w8 ⟨rfl, A8, h8, hf78, hft78⟩))
         have HZ8 : Hid (TabIt Tryz.prog 35 dotVal DotW evV w8 b.kb wo.heap.size (keptE s.K) rest' cnt2 ∧ MpIn w8 m2 b2 { s2 with K := (e, a5, c5) :: s2.K, A := A8, pairs := (e.key, e.dot) :: s2.pairs } ∧ (∀ q, foot b2 A8 q → w.heap.size ≤ q) ∧ Below w.heap.size w w8) := by
          obtain ⟨hrg7, hb79, hit7, h7⟩ := HZ7.out
          refine ⟨hrg7.fr hf78 (fun e9 => by have h8' := HFS2.out _ e9; have h7' := HLo.out _ (foot_kb b s.A); omega) (fun e9 => h7.notIter hit7 e9 rfl), h8, fun q hq => ?_, hb79.trans (hf78.below hb79.size (fun q hq => HFS2.out q hq))⟩
          rcases hft78 q hq with h9 | h9
          ·exact HFS2.out q h9
          ·exact Nat.le_trans hb79.size h9
         clear hR7 h8 hf78 hft78 HLV HZ7
         go_roundw
         case rel => exact ⟨rest', cnt2, E ++ [e], _, HZ8.out.1, HC2.out, HZ8.out.2.1, ⟨HLK.out.ctx, HLK.out.dead, HK6.out, HP.out⟩, HZ8.out.2.2.1, HZ8.out.2.2.2⟩
         case measure => rw [HZ8.out.1.left_eq, HLE.out]; exact HLT.out
        ·intro hr0
         subst hr0
         have hE : E.Perm (evsOf s.K) := by simpa using hC
         have hfin := hLK.copy HG.out hE HDm.out HDL.out
         have HE := Lib.hid (And.intro hfin (And.intro hms (And.intro HFS2.out hbs)))
         clear hE hfin hC hms hbs hLK hrg
         go_wp2
         go_ret
         exact ⟨m2, b2, s2, rfl, HH.out.kept_w HE.out.2.2.2, HE.out.2.1, HE.out.1.1, HE.out.1.2, HE.out.2.2.1, HE.out.2.2.2⟩
end Go.Proofs.YtpbobhfnglikmaaGreat
