/- The index: how many nodes; all items; an index made. Conditions: as in the text. -/
import Derived.Test.YtohmadchgacafaaIxM
set_option linter.unusedSimpArgs false
set_option linter.unusedVariables false
set_option linter.unnecessarySimpa false
namespace Go.Proofs.Ytohmadchgacafaa
open Go.RowKit
variable {lo : Nat}
/-! ### Nodes -/
set_option maxHeartbeats 400000 in
theorem nodesC_any (b O : Nat) (n : Int) (w : World) (h : w.heap[O]? = some (.cells #[.int .i64 n] 3 (0, 0))) :
 Calls Try.prog 38 #[ndVal b, .pointer (some ⟨O, 0, none⟩)] w fun e w' => e = .returned (.tuple #[]) ∧ w' = w.setCell ⟨O, 0, none⟩ (.int .i64 (IntKind.i64.wrap (n + 1))) := by
 have c0 : w.cell? ⟨O, 0, none⟩ = some (.int .i64 n) := by simp [World.cell?, h]
 have f0 : w.frozen? ⟨O, 0, none⟩ = false := by simp [World.frozen?, h]
 clear h
 go_enter Try.func38, Try.ntmps38
 go_wp2
 go_end0
 exact ⟨rfl, by rw [IntWalk.i64_left]⟩
theorem one_setI {w : World} {R : Nat} {x : Value} {t : TypeId} {f : Nat × Nat} (h : w.heap[R]? = some (.cells #[x] t f)) (v : Value) : (w.setCell ⟨R, 0, none⟩ v).heap[R]? = some (.cells #[v] t f) := by
 simp [World.setCell, Array.getElem?_modify, h]
theorem wrap_next (n : Nat) : IntKind.i64.wrap (IntKind.i64.wrap (n : Int) + 1) = IntKind.i64.wrap ((n + 1 : Nat) : Int) := by
 simp only [IntKind.wrap_i64]
 omega
theorem keepS_set {w : World} {O : Nat} {cs : Array Value} {t : TypeId} {f : Nat × Nat} (h : w.heap[O]? = some (.cells cs t f)) (ht : t ≠ 9) (v : Value) : KeepS w (w.setCell ⟨O, 0, none⟩ v) :=
 ⟨by simp, fun k ks g hk => heap_setCell_other _ _ _ _ (fun e => by
  have e' : O = k := e
  subst e'
  rw [h] at hk
  simp only [Option.some.injEq, Obj.cells.injEq] at hk
  exact ht hk.2.1)⟩
def RetNodes (T : Tree) (w : World) (e : Ending) (w' : World) : Prop :=
 ∃ us : List Path, e = .returned (.int .i64 (IntKind.i64.wrap (us.length : Int))) ∧ us.Nodup ∧ (∀ q, q ∈ us ↔ (q ≠ [] ∧ (T q).isSome = true)) ∧ Below w.heap.size w w'
set_option maxHeartbeats 1000000 in
theorem ixNodes_any {w : World} {x : Nat} {n : Int} {B : Nat} {T : Tree} (h : TrIn lo w x n B T) (hB : B ≤ 1073741824) (N : Nat) (hN : ∀ q, (T q).isSome = true → q.length ≤ N) :
 Calls Try.prog 23 #[ndVal x] w (RetNodes T w) := by
 have hmf : ∀ (fn : Fn) (first cap : Array Value) (w : World), (Instr.makeFunc fn first cap).run Try.prog w = .ok (.func fn first cap) w := fun _ _ _ _ => rfl
 obtain ⟨r, hr, hrb⟩ := h.top
 let Inv : List Path → World → Prop := fun vs X => Below w.heap.size w X ∧ X.heap[w.heap.size]? = some (.cells #[.int .i64 (IntKind.i64.wrap (vs.length : Int))] 3 (0, 0))
 have HW := Lib.hid (fun (X : World) (hX : Inv [] X) => walk_any (T := T) hB N hN 38 (enters_of Try.func38 (by kernel_rfl) rfl) w.heap.size Inv
  (fun vs X hI => h.kept hI.1) (fun vs X Y hI hY => ⟨hI.1.trans (hY.mono hI.1.size), (hY.block _ (Array.getElem?_eq_some_iff.1 hI.2).1).trans hI.2⟩)
  (fun vs q c X hq _ _ hI => (nodesC_any c.b w.heap.size _ X hI.2).mono fun e w' ⟨he, hw'⟩ => ⟨he, by
   rw [hw', wrap_next]
   refine ⟨hI.1.setCell (by simp) _, ?_⟩
   rw [List.length_append]
   exact one_setI hI.2 _, by rw [hw']; exact keepS_set hI.2 (by decide) _⟩) N [] r [] X (by simp) hr ⟨List.nodup_nil, fun q hq => (nomatch hq), fun q hq => (nomatch hq)⟩ hX)
 rw [hrb] at HW
 clear hr hrb h
 go_enter Try.func23, Try.ntmps23
 go_upto_region 4 with fail
 refine wp_name (fun W hW => ?_)
 have hI0 : Inv [] W := by
  rw [hW.out]
  refine ⟨by go_grown, ?_⟩
  first | exact heap_last0 _ _ | (exact one_setI (heap_last0 w _) _)
 have HW0 := Lib.hid (HW.out W hI0)
 clear hW hI0
 go_upto_region 5 with (go_at_call 37; refine HW0.out.mono ?_; rintro e w1 ⟨us, rfl, hI, _, hnd, hmem⟩)
 obtain ⟨hb1, hO⟩ := hI
 rw [List.nil_append] at hO
 have c0 : w1.cell? ⟨w.heap.size, 0, none⟩ = some (.int .i64 (IntKind.i64.wrap (us.length : Int))) := by simp [World.cell?, hO]
 have HF := Lib.hid (And.intro hnd hmem)
 clear hO hnd hmem HW HW0
 have HU : Hid (∃ z, z = IntKind.i64.wrap (us.length : Int)) := ⟨_, rfl⟩
 obtain ⟨z, hz⟩ := HU.out
 have HZ := Lib.hid hz
 rw [← hz] at c0
 clear hz HU
 go_wp2
 all_goals
  go_ret
  exact ⟨us, by rw [HZ.out]; rfl, HF.out.1, fun q => by
   rw [HF.out.2 q]
   constructor
   ·rintro ⟨_, h1, h2⟩; exact ⟨h1, h2⟩
   ·rintro ⟨h1, h2⟩; exact ⟨List.nil_prefix, h1, h2⟩, hb1⟩
/-! ### Items -/
def itsL (T : Tree) (vs : List Path) : List It := vs.flatMap (itsOf T)
theorem itsOf_tree {S : List It} {T : Tree} (h : TreeOf S T.its) {q : Path} (hq : (T q).isSome = true) : itsOf T q = itsAt S q := by
 obtain ⟨i, hi⟩ := Option.isSome_iff_exists.1 hq
 unfold itsOf
 rw [hi]
 exact (h.its q _ (its_some hi)).1
theorem mem_itsL {S : List It} {T : Tree} (h : TreeOf S T.its) : ∀ {vs : List Path}, (∀ q ∈ vs, (T q).isSome = true) → ∀ x, x ∈ itsL T vs ↔ x ∈ S ∧ labs x.key.domain ∈ vs := fun {vs} hv x => by
 unfold itsL
 rw [List.mem_flatMap]
 constructor
 ·rintro ⟨q, hq, hx⟩
  rw [itsOf_tree h (hv q hq)] at hx
  obtain ⟨h1, h2⟩ := mem_itsAt.1 hx
  exact ⟨h1, by rw [h2]; exact hq⟩
 ·rintro ⟨h1, h2⟩
  exact ⟨_, h2, by rw [itsOf_tree h (hv _ h2)]; exact mem_itsAt.2 ⟨h1, rfl⟩⟩
theorem itsL_nodup {S : List It} (hS : SrtI S) {T : Tree} (h : TreeOf S T.its) : ∀ {vs : List Path}, vs.Nodup → (∀ q ∈ vs, (T q).isSome = true) → (itsL T vs).Nodup
 | [], _, _ => List.nodup_nil
 | q :: vs, hn, hv => by
   have hn' := List.nodup_cons.1 hn
   have hv' : ∀ r ∈ vs, (T r).isSome = true := fun r hr => hv r (List.mem_cons_of_mem _ hr)
   show (itsOf T q ++ itsL T vs).Nodup
   rw [itsOf_tree h (hv q List.mem_cons_self)]
   refine List.nodup_append.2 ⟨srtI_nodup (itsAt_srt hS q), itsL_nodup hS h hn'.2 hv', fun a ha b hb e => ?_⟩
   subst e
   have h1 := (mem_itsAt.1 ha).2
   have h2 := ((mem_itsL h hv' a).1 hb).2
   rw [h1] at h2
   exact hn'.1 h2
theorem itsL_length {S : List It} (hS : SrtI S) {T : Tree} (h : TreeOf S T.its) {vs : List Path} (hn : vs.Nodup) (hv : ∀ q ∈ vs, (T q).isSome = true) : (itsL T vs).length ≤ S.length := by
 have hp : (itsL T vs).Perm (S.filter fun x => decide (labs x.key.domain ∈ vs)) := (List.perm_ext_iff_of_nodup (itsL_nodup hS h hn hv) ((srtI_nodup hS).filter _)).2 fun x => by
  rw [mem_itsL h hv, List.mem_filter, decide_eq_true_eq]
 rw [hp.length_eq]
 exact List.length_filter_le ..
theorem itsL_snoc (T : Tree) (vs : List Path) (q : Path) : itsL T (vs ++ [q]) = itsL T vs ++ itsOf T q := by simp [itsL]
/-- the block O holds a row of one's own of items -/
def RowAt (O : Nat) (L : List It) (X : World) : Prop := ∃ v, X.heap[O]? = some (.cells #[v] 22 (0, 0)) ∧ X.ownsRow (O + 1) 38 11 v L.length (itsVals L)
set_option maxRecDepth 100000 in
set_option maxHeartbeats 1000000 in
theorem itemsC_any (b O : Nat) (a : Option Addr) (cap : Nat) (l L : List It) (w : World) (hO : RowAt O L w) (hc : w.cell? ⟨b, 0, none⟩ = some (.slice a l.length cap)) (hin : ItsIn w a l) (hl : L.length + l.length ≤ 1073741824) :
 Calls Try.prog 39 #[ndVal b, .pointer (some ⟨O, 0, none⟩)] w fun e w' => e = .returned (.tuple #[]) ∧ RowAt O (L ++ l) w' ∧ KeepS w w' ∧ ∀ k, k ≤ O → Below k w w' := by
 obtain ⟨i0, hi, hz0, hz1, hz2⟩ := info_parts Try.infoItem
 obtain ⟨v, hv, hown⟩ := hO
 have hOl : O < w.heap.size := (Array.getElem?_eq_some_iff.1 hv).1
 have HV := Lib.hid hv
 have y0 : w.drew.cell? ⟨O, 0, none⟩ = some v := (show w.cell? ⟨O, 0, none⟩ = some v by simp [World.cell?, hv])
 have y1 : w.drew.cell? ⟨b, 0, none⟩ = some (.slice a l.length cap) := hc
 have hownD : w.drew.ownsRow (O + 1) 38 11 v L.length (itsVals L) := hown
 have hinD : ItsIn w.drew a l := hin
 have hOD : O + 1 ≤ w.drew.heap.size := hOl
 clear hv hc hown hin
 go_enter Try.func39, Try.ntmps39
 go_upto_region 0 with fail
 refine wp_region_noPanic ?_
 refine wp_region_late (fun W' => Below w.drew.heap.size w.drew W') [5, 6] (by kernel_rfl) ?_
 have hHeld := Below.refl w.drew.heap.size w.drew
 refine wpAnyL_take (i := 0) (oi := ⟨some 3, _, _, _, _, _⟩) (v := ?_) rfl (by kernel_rfl) (by kernel_rfl) (by kernel_rfl) (by kernel_rfl) (by kernel_rfl) (fun _ _ _ h => h) (Or.inl ⟨by rfl, ?_⟩) (by assumption) ?_
 case refine_2 => (intro Xw hSw; have sy0 := kept hSw y0; have sy1 := kept hSw y1; go_simp; try with_reducible rfl)
 try simp only [pA, pB, pC, pD, pE]
 refine wpAnyL_take (i := 1) (oi := ⟨some 4, _, _, _, _, _⟩) (v := ?_) rfl (by kernel_rfl) (by kernel_rfl) (by kernel_rfl) (by kernel_rfl) (by kernel_rfl) (fun _ _ _ h => h) (Or.inl ⟨by rfl, ?_⟩) (by assumption) ?_
 case refine_2 => (intro Xw hSw; have sy0 := kept hSw y0; have sy1 := kept hSw y1; go_simp; try with_reducible rfl)
 try simp only [pA, pB, pC, pD, pE]
 refine wpAnyL_take (i := 2) (oi := ⟨some 5, _, _, _, _, _⟩) (v := ?_) rfl (by kernel_rfl) (by kernel_rfl) (by kernel_rfl) (by kernel_rfl) (by kernel_rfl) (fun _ _ _ h => h) (Or.inl ⟨by rfl, ?_⟩) (by assumption) ?_
 case refine_2 => (intro Xw hSw; have sy0 := kept hSw y0; have sy1 := kept hSw y1; go_simp; try with_reducible rfl)
 try simp only [pA, pB, pC, pD, pE]
 refine wpAnyL_take (i := 3) (oi := ⟨some 6, _, _, _, _, _⟩) (v := ?_) rfl (by kernel_rfl) (by kernel_rfl) (by kernel_rfl) (by kernel_rfl) (by kernel_rfl) (fun _ _ _ h => h) (Or.inl ⟨by rfl, ?_⟩) (by assumption) ?_
 case refine_2 => (intro Xw hSw; have sy0 := kept hSw y0; have sy1 := kept hSw y1; go_simp; try with_reducible rfl)
 try simp only [pA, pB, pC, pD, pE]
 refine wpAnyL_take (i := 4) (oi := ⟨some 7, _, _, _, _, _⟩) (v := ?_) rfl (by kernel_rfl) (by kernel_rfl) (by kernel_rfl) (by kernel_rfl) (by kernel_rfl) (fun _ _ _ h => h) (Or.inl ⟨by rfl, ?_⟩) (by assumption) ?_
 case refine_2 => (intro Xw hSw; have sy0 := kept hSw y0; have sy1 := kept hSw y1; go_simp; try with_reducible rfl)
 try simp only [pA, pB, pC, pD, pE]
 refine wpAnyL_one (i := 5) (o := ⟨some 8, _, _, _, _, _⟩) (by kernel_rfl) rfl ?_
 intro K hK
 refine step_append_cells (by rfl) (.tmp 3) (.tmp 7) 22 rfl (O + 1) 38 i0 (itVal it0) 11 96 Try.underlying22 hi hz0 hz1 hz2 rfl (by decide) v _ (itsVals L) rfl hownD a l.length cap (itsVals l) rfl (itsVals_length l) hinD (itsVals_one' l) (by unfold maxLen; omega) (by omega) hOD ?_
 intro v5 w5 hown5 hg5
 refine hK.out _ _ (Or.inl (by kernel_rfl)) ?_
 clear hK K
 try simp only [pA, pB, pC, pD, pE]
 obtain ⟨a5, c5, rfl, _, _⟩ := own_cellsIn hown5
 have hne : ∀ q, v.ownBlock = some q → O + 1 ≤ q ∧ q < w.drew.heap.size := fun q hq => hownD.lt q hq
 have hO5 : w5.heap[O]? = some (.cells #[v] 22 (0, 0)) := (hg5.block O hOl (fun e => by have := (hne _ e.symm).1; omega)).trans HV.out
 have z0 : w5.cell? ⟨O, 0, none⟩ = some v := by simp [World.cell?, hO5]
 have z1 : w5.frozen? ⟨O, 0, none⟩ = false := by simp [World.frozen?, hO5]
 have HF : Hid (RowAt O (L ++ l) (w5.setCell ⟨O, 0, none⟩ (.slice a5 (L.length + l.length) c5)) ∧ KeepS w (w5.setCell ⟨O, 0, none⟩ (.slice a5 (L.length + l.length) c5)) ∧ ∀ k, k ≤ O → Below k w (w5.setCell ⟨O, 0, none⟩ (.slice a5 (L.length + l.length) c5))) := by
  refine ⟨⟨_, one_setI hO5 _, ?_⟩, ?_, fun k hk => ?_⟩
  ·rw [List.length_append, itsVals_append]
   exact own_frame hown5 fun q hq => heap_setCell_other _ _ _ _ (show O ≠ q by omega)
  ·refine KeepS.trans (b := w5) ⟨hg5.size, fun k cs f hk => ?_⟩ (keepS_set hO5 (by decide) _)
   refine hg5.block k (Array.getElem?_eq_some_iff.1 hk).1 (fun e => ?_)
   rcases hownD.2 with ⟨hvn, _⟩ | ⟨g, cp, cur, hvg, _, hgb, _⟩
   ·rw [hvn] at e; cases e
   ·rw [hvg] at e
    cases e
    have hgb' : w.heap[g]? = some (.cells cur 38 (0, 0)) := hgb
    rw [hk] at hgb'
    simp at hgb'
  ·exact ((Below.refl k w).drew.grown hg5 (by show k ≤ w.heap.size; omega) (fun q hq => by have := (hne q hq).1; omega)).setCell (by simpa using hk) _
 clear hne hO5 hHeld y0 y1 hownD hinD hown5 hg5
 refine wpAnyL_one (i := 6) (o := ⟨none, _, _, _, _, _⟩) (by kernel_rfl) rfl ?_
 intro K hK
 go_simp
 refine hK.out _ _ (Or.inl (by kernel_rfl)) ?_
 clear hK K
 try simp only [pA, pB, pC, pD, pE]
 refine wpAnyL_done (by kernel_rfl) ?_ _
 refine NoPanic.normal ?_
 go_wp2
 go_end0
 exact ⟨rfl, HF.out.1, HF.out.2.1, HF.out.2.2⟩
set_option maxHeartbeats 1000000 in
theorem ixItems_any {w : World} {x : Nat} {n : Int} {B : Nat} {T : Tree} (h : TrIn lo w x n B T) (hB : B ≤ 1073741824) (N : Nat) (hN : ∀ q, (T q).isSome = true → q.length ≤ N) (S : List It) (hS : SrtI S) (hl : S.length ≤ 1073741824) (hTO : TreeOf S T.its) :
 Calls Try.prog 24 #[ndVal x] w (RetIts S w) := by
 have hmf : ∀ (fn : Fn) (first cap : Array Value) (w : World), (Instr.makeFunc fn first cap).run Try.prog w = .ok (.func fn first cap) w := fun _ _ _ _ => rfl
 obtain ⟨r, hr, hrb⟩ := h.top
 let Inv : List Path → World → Prop := fun vs X => Below w.heap.size w X ∧ RowAt w.heap.size (itsL T vs) X
 have HW := Lib.hid (fun (X : World) (hX : Inv [] X) => walk_any (T := T) hB N hN 39 (enters_of Try.func39 (by kernel_rfl) rfl) w.heap.size Inv
  (fun vs X hI => h.kept hI.1) (fun vs X Y hI hY => ⟨hI.1.trans (hY.mono hI.1.size), by
   obtain ⟨v, h1, h2⟩ := hI.2
   exact ⟨v, (hY.block _ (Array.getElem?_eq_some_iff.1 h1).1).trans h1, ownsRow_below h2 hY⟩⟩)
  (fun vs q c X hq hnd hsm hI => by
   obtain ⟨a, cap, hc0, hcap, hin⟩ := ((h.kept hI.1).nodes _ _ hq).its
   have hlen := itsL_length hS hTO hnd hsm
   have hio : itsOf T q = c.its := by unfold itsOf; rw [hq]
   rw [itsL_snoc, List.length_append, hio] at hlen
   refine (itemsC_any c.b w.heap.size a cap c.its (itsL T vs) X hI.2 hc0 hin (by omega)).mono ?_
   rintro e w' ⟨rfl, h1, h2, h3⟩
   exact ⟨rfl, ⟨hI.1.trans (h3 _ (Nat.le_refl _)), by rw [itsL_snoc, hio]; exact h1⟩, h2⟩) N [] r [] X (by simp) hr ⟨List.nodup_nil, fun q hq => (nomatch hq), fun q hq => (nomatch hq)⟩ hX)
 rw [hrb] at HW
 clear hr hrb
 have HSO := Lib.hid (fun (us : List Path) (hnd : us.Nodup) (hmem : ∀ q, q ∈ us ↔ ([] <+: q ∧ q ≠ [] ∧ (T q).isSome = true)) (v : Value) (X : World) (ho : X.ownsRow (w.heap.size + 1) 38 11 v (itsL T us).length (itsVals (itsL T us))) =>
  ixSorted_any (w.heap.size + 1) v (itsL T us) S X ho (Nat.le_trans (itsL_length hS hTO hnd fun q hq => ((hmem q).1 hq).2.2) hl) hS (fun y => by
   rw [mem_itsL hTO (fun q hq => ((hmem q).1 hq).2.2)]
   exact ⟨fun g => g.1, fun g => ⟨g, (hmem _).2 ⟨List.nil_prefix, labs_ne _, by
        have := hTO.all _ (there_labs g)
        obtain ⟨l, hl⟩ := Option.isSome_iff_exists.1 this
        obtain ⟨i, hi, _⟩ := its_inv hl
        rw [hi]; rfl⟩⟩⟩) (itsL_nodup hS hTO hnd fun q hq => ((hmem q).1 hq).2.2))
 clear h
 go_enter Try.func24, Try.ntmps24
 go_upto_region 4 with fail
 refine wp_name (fun W hW => ?_)
 have hI0 : Inv [] W := by
  rw [hW.out]
  exact ⟨by go_grown, .slice none 0 0, heap_last0 _ _, World.ownsRow_nil _ _ _ _⟩
 have HW0 := Lib.hid (HW.out W hI0)
 clear hW hI0
 go_upto_region 5 with (go_at_call 37; refine HW0.out.mono ?_; rintro e w1 ⟨us, rfl, hI, _, hnd, hmem⟩)
 obtain ⟨hb1, v, hO, hown⟩ := hI
 rw [List.nil_append] at hown
 have c0 : w1.cell? ⟨w.heap.size, 0, none⟩ = some v := by simp [World.cell?, hO]
 have HC := Lib.hid (HSO.out us hnd hmem v w1 hown)
 have HOW := Lib.hid hown
 clear hO hnd hmem HW HW0 hown HSO
 go_wp2_with (go_at_call 28; refine HC.out.mono ?_; rintro e w2 ⟨rfl, hown2, hfr2⟩)
 all_goals
  go_ret
  exact ⟨_, rfl, own_low hown2 (Nat.le_succ _), hb1.trans (hfr2.below hb1.size fun q hq => Nat.le_trans (Nat.le_succ _) (HOW.out.lt q hq).1)⟩
end Go.Proofs.Ytohmadchgacafaa
