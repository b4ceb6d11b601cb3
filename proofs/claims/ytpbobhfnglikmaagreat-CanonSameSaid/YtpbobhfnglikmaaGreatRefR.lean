/- The reference's map: Fold. Conditions: as in the text. -/
import Derived.Test.YtpbobhfnglikmaaGreatRelP
set_option linter.unusedSimpArgs false
set_option linter.unusedVariables false
set_option linter.unnecessarySimpa false
set_option maxHeartbeats 16000000
set_option maxRecDepth 100000
namespace Go.Proofs.YtpbobhfnglikmaaGreat
open Go.RowKit
/-- a block of slices is no list's -/
def Sl3 (w : World) (R : Nat) : Prop := ∃ a n c a2 n2 c2 a3 n3 c3 t f, w.heap[R]? = some (.cells #[.slice a n c, .slice a2 n2 c2, .slice a3 n3 c3] t f)
theorem Sl3.int {w : World} {R : Nat} (h : Sl3 w R) {A o : Nat} {k : IntKind} {n : Int} (hc : w.cell? ⟨A, o, none⟩ = some (.int k n)) : A ≠ R := by
 rintro rfl
 obtain ⟨a, n, c, a2, n2, c2, a3, n3, c3, t, f, hh⟩ := h
 simp only [World.cell?, hh] at hc
 match o, hc with
 | 0, hc => simp at hc
 | 1, hc => simp at hc
 | 2, hc => simp at hc
 | o + 3, hc => simp at hc
theorem DotsIn.not3 {w w' : World} {R : Nat} {a : Option Addr} {l : List Dot} (h : DotsIn w a l) (hR : Sl3 w R) (hk : ∀ k, k ≠ R → w'.heap[k]? = w.heap[k]?) : DotsIn w' a l := by
 refine h.imp id fun ⟨A, off, h1, h2⟩ => ⟨A, off, h1, ?_⟩
 have hkc : ∀ o n, w.cell? ⟨A, o, none⟩ = some (.int .i64 n) → w'.cell? ⟨A, o, none⟩ = some (.int .i64 n) := fun o n hc => (World.cell?_of_block (hk A (hR.int hc))).trans hc
 exact ⟨fun i hi => hkc _ _ (h2.dev i hi), fun i hi => hkc _ _ (h2.inc i hi), fun i hi => hkc _ _ (h2.seq i hi)⟩
theorem EvsIn.not3 {w w' : World} {R : Nat} {a : Option Addr} {ls : List EvIt} (h : EvsIn w a ls) (hR : Sl3 w R) (hk : ∀ k, k ≠ R → w'.heap[k]? = w.heap[k]?) : EvsIn w' a ls := by
 refine ⟨h.rows.imp id fun ⟨A, off, h1, h2⟩ => ⟨A, off, h1, fun i hi j v hv => ?_⟩, fun x hx => (h.dots x hx).not3 hR hk⟩
 have hA : A ≠ R := hR.int (h2 i hi 0 _ rfl)
 exact (World.cell?_of_block (hk A hA)).trans (h2 i hi j v hv)
theorem RMIn.not3 {w w' : World} {R : Nat} {x : RMIt} (h : RMIn w x) (hR : Sl3 w R) (hk : ∀ k, k ≠ R → w'.heap[k]? = w.heap[k]?) : RMIn w' x := ⟨h.ctx.not3 hR hk, h.kept.not3 hR hk, h.dead.not3 hR hk, h.cc, h.cK, h.cd⟩
abbrev rmRow (x : RMIt) : Array Value := #[.slice x.ac x.ctx.length x.cc, .slice x.aK x.K.length x.cK, .slice x.ad x.dead.length x.cd]
def RMAt (w : World) (R : Nat) (x : RMIt) : Prop := w.heap[R]? = some (.cells (rmRow x) 31 (0, 0))
theorem RMAt.sl3 {w : World} {R : Nat} {x : RMIt} (h : RMAt w R x) : Sl3 w R := ⟨_, _, _, _, _, _, _, _, _, _, _, h⟩
theorem RMAt.cells {w : World} {R : Nat} {x : RMIt} (h : RMAt w R x) : w.cell? ⟨R, 0, none⟩ = some (.slice x.ac x.ctx.length x.cc) ∧ w.cell? ⟨R, 1, none⟩ = some (.slice x.aK x.K.length x.cK) ∧ w.cell? ⟨R, 2, none⟩ = some (.slice x.ad x.dead.length x.cd) := by
 simp only [RMAt, rmRow] at h
 simp [World.cell?, h]
theorem RMAt.kept {w w' : World} {R : Nat} {x : RMIt} (h : RMAt w R x) (hb : Below w.heap.size w w') : RMAt w' R x := (hb.block _ (lt_of_block h)).trans h
def rm0 : RMIt := ⟨none, [], 0, none, [], 0, none, [], 0⟩
theorem rm0_in (w : World) : RMIn w rm0 := ⟨Or.inl rfl, ⟨Or.inl rfl, fun x hx => (nomatch hx)⟩, Or.inl rfl, Nat.le_refl _, Nat.le_refl _, Nat.le_refl _⟩
def RetFold (l : List Ev) (w : World) (e : Ending) (w' : World) : Prop := ∃ y, e = .returned (rmVal y) ∧ RMIn w' y ∧ y.rm = l.foldl rmAp RM.empty ∧ Below w.heap.size w w'
theorem rFold_any (a : Option Addr) (cap : Nat) (ls : List EvIt) (w : World) (hl : ls.length ≤ 4095) (hE : EvsIn w a ls) (hsm : EvsSmall ls) :
 Calls Tryz.prog 88 #[.slice a ls.length cap] w (RetFold (evsOf ls) w) := by
 go_enter Tryz.func88, Tryz.ntmps88
 go_upto_region 2 with fail
 refine wp_name (fun W0 hW0 => ?_)
 have hb0 : Below w.heap.size w W0 := by rw [hW0.out]; go_grown
 have hA0 : RMAt W0 (w.heap.size + 1) rm0 := by
  rw [hW0.out]
  exact heap_last1 _ _ _
 have hZ : W0.heap[w.heap.size]? = some (.cells #[.slice none 0 0, .slice none 0 0, .slice none 0 0] 31 (0, 0)) := by
  rw [hW0.out]
  exact (((Below.refl _ _).alloc (Nat.le_refl _) _).block _ (by simp)).trans (heap_last0 _ _)
 have hz0 := hb0.size
 have HSM := Lib.hid hsm
 clear hW0 hsm
 go_wp2
 go_loopw [4] (fun i wr => ∃ (k : Nat) (y : RMIt), i = .int .i64 k ∧ k ≤ ls.length ∧ RMAt wr (w.heap.size + 1) y ∧ RMIn wr y ∧ y.rm = ((evsOf ls).take k).foldl rmAp RM.empty ∧ wr.heap[w.heap.size]? = some (.cells #[.slice none 0 0, .slice none 0 0, .slice none 0 0] 31 (0, 0)) ∧ Below w.heap.size w wr) (fun i _ => ls.length - (intOf i).toNat)
 case atStart => exact ⟨0, rm0, rfl, Nat.zero_le _, hA0, rm0_in _, rfl, hZ, hb0⟩
 case round =>
  obtain ⟨k, y, rfl, hk, hAt, hIn, hY, hZr, hbw⟩ := hrel
  have HY := Lib.hid hY
  obtain ⟨c0, c1, c2⟩ := hAt.cells
  by_cases hlt : k < ls.length
  ·obtain ⟨A, off, rfl, hra, hda⟩ := (hE.kept hbw).at hlt
   have r1 := hra k hlt
   have hse := HSM.out _ (List.getElem_mem hlt)
   have HT : Hid ((evsOf ls).take (k + 1) = (evsOf ls).take k ++ [ls[k].1]) := by
        unfold Hid
        rw [List.take_add_one, List.getElem?_eq_getElem (by rw [evsOf_length]; exact hlt), evsOf_at hlt]
        rfl
   have HLT := Lib.hid hlt
   have hkl : k ≤ 4095 := by omega
   generalize ls[k] = x at *
   obtain ⟨e, ax, cx⟩ := x
   simp only [itEv] at r1
   simp only at hda hse HT
   have hgood : RMGood y.rm k := by
        have := RMGood.empty.fold ((evsOf ls).take k)
        rw [← HY.out, List.length_take, evsOf_length, Nat.zero_add, Nat.min_eq_left hk] at this
        exact this
   have HAp := Lib.hid (fun (X : World) (hIn : RMIn X y) (hd : DotsIn X ax e.over) => show Calls Tryz.prog 16 #[rmVal y, .agg (evCells e ax cx).toArray] X (RetRA y.rm e X) from rApply_any y e ax cx X hIn (hgood.size (by omega)) hse hd)
   clear hra hgood hse
   go_upto_region 5 with fail
   refine wp_name (fun V hV => ?_)
   have hbV : Below wr.heap.size wr V.drew := by rw [hV.out]; go_grown
   have vC0 := kept hbV c0
   have vC1 := kept hbV c1
   have vC2 := kept hbV c2
   have vR := rangeAt_kept r1 hbV
   have vI := hIn.keep hbV
   have vd := hda.kept hbV
   have vA := hAt.kept hbV
   have hbwV : Below w.heap.size w V.drew := hbw.trans (hbV.mono hbw.size)
   have vZ := (hbV.block _ (lt_of_block hZr)).trans hZr
   have hlo : w.heap.size + 1 < V.drew.heap.size := lt_of_block vA
   clear hV hbV hIn hAt hZr c0 c1 c2 r1 hda hbw
   refine wp_region_noPanic ?_
   refine wp_region_held_drew (S := fun W' => Below V.drew.heap.size V.drew W') (by kernel_rfl) (Below.refl _ _) (fun hHeld => ?_)
   refine tH (v := ?_) 0 16 rfl (Or.inl ⟨by rfl, ?_⟩) ?_
   case refine_2 => (intro w hSw; have sC0 := kept hSw vC0; have sC1 := kept hSw vC1; have sC2 := kept hSw vC2; go_simp; try with_reducible rfl)
   try simp only [pS]
   refine tH (v := ?_) 1 17 rfl (Or.inl ⟨by rfl, ?_⟩) ?_
   case refine_2 => (intro w hSw; have sC0 := kept hSw vC0; have sC1 := kept hSw vC1; have sC2 := kept hSw vC2; go_simp; try with_reducible rfl)
   try simp only [pS]
   refine tH (v := ?_) 2 18 rfl (Or.inl ⟨by rfl, ?_⟩) ?_
   case refine_2 => (intro w hSw; have sC0 := kept hSw vC0; have sC1 := kept hSw vC1; have sC2 := kept hSw vC2; go_simp; try with_reducible rfl)
   try simp only [pS]
   refine tH (v := ?_) 3 19 rfl (Or.inl ⟨by rfl, ?_⟩) ?_
   case refine_2 => (intro w hSw; have sC0 := kept hSw vC0; have sC1 := kept hSw vC1; have sC2 := kept hSw vC2; go_simp; try with_reducible rfl)
   try simp only [pS]
   refine tH 4 20 rfl (yieldsIf_load_mid (by rfl) 43 _ rfl A (off + k * 19) rfl (evCells e ax cx) _ (fun X h => rangeAt_kept vR h) Tryz.underlying43 rfl (by kernel_rfl)) ?_
   try simp only [pS]
   refine wpAnyH_ready (rs := [5, 10]) (by kernel_rfl) (by simp) ?_
   refine AllReadyH.cons (o := ⟨some 21, _, _, _, _, _⟩) rfl (fun K hK => ?_) (AllReadyH.cons (o := ⟨some 5, _, _, _, _, _⟩) rfl (fun K hK => ?_) AllReadyH.nil)
   ·skip
    go_simp
    go_at_call 16
    (with_reducible refine (HAp.out _ (vI.keep hHeld) (vd.kept hHeld)).mono ?_)
    rintro v w5 ⟨z, rfl, hz5, hzr, hb5⟩
    go_simp
    have hNext := hHeld.trans (hb5.mono hHeld.size)
    refine hK.out _ _ hNext (fun hHeld2 => ?_)
    clear hK K hHeld
    have hHeld := hNext
    clear hHeld2 hNext
    try simp only [pS]
    refine tH (v := ?_) 6 15 rfl (Or.inl ⟨by rfl, ?_⟩) ?_
    case refine_2 => (intro w hSw; go_simp; try with_reducible rfl)
    try simp only [pS]
    refine tH (v := ?_) 7 22 rfl (Or.inl ⟨by rfl, ?_⟩) ?_
    case refine_2 => (intro w hSw; go_simp; try with_reducible rfl)
    try simp only [pS]
    refine tH (v := ?_) 8 23 rfl (Or.inl ⟨by rfl, ?_⟩) ?_
    case refine_2 => (intro w hSw; go_simp; try with_reducible rfl)
    try simp only [pS]
    refine tH (v := ?_) 9 24 rfl (Or.inl ⟨by rfl, ?_⟩) ?_
    case refine_2 => (intro w hSw; go_simp; try with_reducible rfl)
    try simp only [pS]
    refine rH 10 5 rfl fun K hK => ?_
    have hz59 := hHeld.size
    go_simp
    have hNext := hHeld.alloc hHeld.size (.cells #[.slice none 0 0, .slice none 0 0, .slice none 0 0] 31)
    refine hK.out _ _ hNext (fun hHeld2 => ?_)
    clear hK K hHeld
    have hHeld := hNext
    clear hHeld2 hNext
    try simp only [pS]
    refine wpAnyH_ready (rs := [11]) (by kernel_rfl) (by simp) ?_
    refine AllReadyH.cons (o := ⟨none, _, _, _, _, _⟩) rfl (fun K hK => ?_) AllReadyH.nil
    have hq0 : (w5.alloc (.cells #[.slice none 0 0, .slice none 0 0, .slice none 0 0] 31)).heap[w5.heap.size]? = some (.cells #[.slice none 0 0, .slice none 0 0, .slice none 0 0] 31 (0, 0)) := heap_last0 _ _
    refine step_store_row (by rfl) 31 _ _ rfl (w5.heap.size) #[.slice z.ac z.ctx.length z.cc, .slice z.aK z.K.length z.cK, .slice z.ad z.dead.length z.cd] rfl rfl 31 _ hq0 (by kernel_rfl) rfl (by kernel_rfl) ?_
    have hNext : Below V.drew.heap.size V.drew ((w5.alloc (.cells #[.slice none 0 0, .slice none 0 0, .slice none 0 0] 31)).setRow (w5.heap.size) #[.slice z.ac z.ctx.length z.cc, .slice z.aK z.K.length z.cK, .slice z.ad z.dead.length z.cd]) := below_setRow hHeld (by omega : V.drew.heap.size ≤ w5.heap.size) #[.slice z.ac z.ctx.length z.cc, .slice z.aK z.K.length z.cK, .slice z.ad z.dead.length z.cd]
    refine hK.out _ _ hNext (fun hHeld2 => ?_)
    clear hK K hHeld
    have hHeld := hNext
    clear hHeld2 hNext
    try simp only [pS]
    refine tH (v := ?_) 12 6 rfl (Or.inl ⟨by rfl, ?_⟩) ?_
    case refine_2 => (intro w hSw; go_simp; try with_reducible rfl)
    try simp only [pS]
    refine tH (v := ?_) 13 7 rfl (Or.inl ⟨by rfl, ?_⟩) ?_
    case refine_2 => (intro w hSw; go_simp; try with_reducible rfl)
    try simp only [pS]
    refine wpAnyH_done (by kernel_rfl) ?_ _
    refine NoPanic.normal ?_
    obtain ⟨X, hX⟩ : ∃ X, X = (w5.alloc (.cells #[.slice none 0 0, .slice none 0 0, .slice none 0 0] 31)).setRow (w5.heap.size) #[.slice z.ac z.ctx.length z.cc, .slice z.aK z.K.length z.cK, .slice z.ad z.dead.length z.cd] := ⟨_, rfl⟩
    rw [← hX] at hHeld ⊢
    have hqX : RMAt X (w5.heap.size) z := by rw [hX]; exact setRow_heap _ _ _ _ _ _ hq0
    have hzX : RMIn X z := by
     rw [hX]
     exact RMIn.not3 (R := w5.heap.size) (hz5.keep ((Below.refl _ _).alloc (Nat.le_refl _) _)) ⟨_, _, _, _, _, _, _, _, _, _, _, hq0⟩ (fun k9 hk9 => heap_setRow_other _ _ _ _ (fun e9 => hk9 e9.symm))
    generalize hqn : w5.heap.size = q at *
    clear hX hq0 hqn
    obtain ⟨d0, d1, d2⟩ := hqX.cells
    have xA : RMAt X (w.heap.size + 1) y := (hHeld.block _ hlo).trans vA
    have xZ := (hHeld.block w.heap.size (by omega)).trans vZ
    have HX := Lib.hid (And.intro hzX (And.intro xA (And.intro xZ (And.intro hbwV (And.intro hHeld hlo)))))
    have hx3 := xA
    clear hzX xZ vA vI vd vZ vR vC0 vC1 vC2 hqX xA hlo hbwV hHeld hb5 hz5
    unfold RMAt at hx3
    go_wp2_with (refine wpList_store_row rfl 31 _ _ rfl (w.heap.size + 1) #[.slice z.ac z.ctx.length z.cc, .slice z.aK z.K.length z.cK, .slice z.ad z.dead.length z.cd] rfl rfl 31 _ hx3 (by kernel_rfl) rfl (by kernel_rfl) ?_)
    obtain ⟨hzX, xA, xZ, hbwV, hHeld, hlo⟩ := HX.out
    have HF : Hid (RMAt (X.setRow (w.heap.size + 1) #[.slice z.ac z.ctx.length z.cc, .slice z.aK z.K.length z.cK, .slice z.ad z.dead.length z.cd]) (w.heap.size + 1) z ∧ RMIn (X.setRow (w.heap.size + 1) #[.slice z.ac z.ctx.length z.cc, .slice z.aK z.K.length z.cK, .slice z.ad z.dead.length z.cd]) z ∧ z.rm = ((evsOf ls).take (k + 1)).foldl rmAp RM.empty ∧ (X.setRow (w.heap.size + 1) #[.slice z.ac z.ctx.length z.cc, .slice z.aK z.K.length z.cK, .slice z.ad z.dead.length z.cd]).heap[w.heap.size]? = some (.cells #[.slice none 0 0, .slice none 0 0, .slice none 0 0] 31 (0, 0)) ∧ Below w.heap.size w (X.setRow (w.heap.size + 1) #[.slice z.ac z.ctx.length z.cc, .slice z.aK z.K.length z.cK, .slice z.ad z.dead.length z.cd])) := by
     refine ⟨setRow_heap _ _ _ _ _ _ hx3, RMIn.not3 (R := w.heap.size + 1) hzX xA.sl3 (fun k9 hk9 => heap_setRow_other _ _ _ _ (fun e9 => hk9 e9.symm)), ?_, (heap_setRow_other _ _ _ _ (by omega)).trans xZ, below_setRow (hbwV.trans (hHeld.mono (by omega))) (by omega) _⟩
     rw [HT.out, List.foldl_append, ← HY.out]
     exact hzr
    clear hzX xA xZ hbwV hHeld hlo hx3 d0 d1 d2
    go_roundw
    case rel => exact ⟨k + 1, z, by go_num, HLT.out, HF.out.1, HF.out.2.1, HF.out.2.2.1, HF.out.2.2.2.1, HF.out.2.2.2.2⟩
    case measure => have := HLT.out; simp [intOf] <;> omega
   ·skip
    go_simp
    have hNext := hHeld.alloc hHeld.size (.cells #[.slice none 0 0, .slice none 0 0, .slice none 0 0] 31)
    refine hK.out _ _ hNext (fun hHeld2 => ?_)
    clear hK K hHeld
    have hHeld := hNext
    clear hHeld2 hNext
    try simp only [pS]
    replace hHeld : Below V.drew.heap.size V.drew (V.alloc (.cells #[.slice none 0 0, .slice none 0 0, .slice none 0 0] 31)).drew := hHeld
    refine rH 5 21 rfl fun K hK => ?_
    go_simp
    go_at_call 16
    (with_reducible refine (HAp.out _ (vI.keep hHeld) (vd.kept hHeld)).mono ?_)
    rintro v w5 ⟨z, rfl, hz5, hzr, hb5⟩
    go_simp
    have hNext := hHeld.trans (hb5.mono hHeld.size)
    refine hK.out _ _ hNext (fun hHeld2 => ?_)
    clear hK K hHeld
    have hHeld := hNext
    clear hHeld2 hNext
    try simp only [pS]
    refine tH (v := ?_) 6 15 rfl (Or.inl ⟨by rfl, ?_⟩) ?_
    case refine_2 => (intro w hSw; go_simp; try with_reducible rfl)
    try simp only [pS]
    refine tH (v := ?_) 7 22 rfl (Or.inl ⟨by rfl, ?_⟩) ?_
    case refine_2 => (intro w hSw; go_simp; try with_reducible rfl)
    try simp only [pS]
    refine tH (v := ?_) 8 23 rfl (Or.inl ⟨by rfl, ?_⟩) ?_
    case refine_2 => (intro w hSw; go_simp; try with_reducible rfl)
    try simp only [pS]
    refine tH (v := ?_) 9 24 rfl (Or.inl ⟨by rfl, ?_⟩) ?_
    case refine_2 => (intro w hSw; go_simp; try with_reducible rfl)
    try simp only [pS]
    refine wpAnyH_ready (rs := [11]) (by kernel_rfl) (by simp) ?_
    refine AllReadyH.cons (o := ⟨none, _, _, _, _, _⟩) rfl (fun K hK => ?_) AllReadyH.nil
    have hq0 : w5.heap[V.heap.size]? = some (.cells #[.slice none 0 0, .slice none 0 0, .slice none 0 0] 31 (0, 0)) := (hb5.block V.drew.heap.size (by show V.heap.size < (V.heap.push _).size; simp)).trans (heap_last0 V _)
    refine step_store_row (by rfl) 31 _ _ rfl (V.heap.size) #[.slice z.ac z.ctx.length z.cc, .slice z.aK z.K.length z.cK, .slice z.ad z.dead.length z.cd] rfl rfl 31 _ hq0 (by kernel_rfl) rfl (by kernel_rfl) ?_
    have hNext : Below V.drew.heap.size V.drew (w5.setRow (V.heap.size) #[.slice z.ac z.ctx.length z.cc, .slice z.aK z.K.length z.cK, .slice z.ad z.dead.length z.cd]) := below_setRow hHeld (Nat.le_refl _ : V.drew.heap.size ≤ V.heap.size) #[.slice z.ac z.ctx.length z.cc, .slice z.aK z.K.length z.cK, .slice z.ad z.dead.length z.cd]
    refine hK.out _ _ hNext (fun hHeld2 => ?_)
    clear hK K hHeld
    have hHeld := hNext
    clear hHeld2 hNext
    try simp only [pS]
    refine tH (v := ?_) 12 6 rfl (Or.inl ⟨by rfl, ?_⟩) ?_
    case refine_2 => (intro w hSw; go_simp; try with_reducible rfl)
    try simp only [pS]
    refine tH (v := ?_) 13 7 rfl (Or.inl ⟨by rfl, ?_⟩) ?_
    case refine_2 => (intro w hSw; go_simp; try with_reducible rfl)
    try simp only [pS]
    refine wpAnyH_done (by kernel_rfl) ?_ _
    refine NoPanic.normal ?_
    obtain ⟨X, hX⟩ : ∃ X, X = w5.setRow (V.heap.size) #[.slice z.ac z.ctx.length z.cc, .slice z.aK z.K.length z.cK, .slice z.ad z.dead.length z.cd] := ⟨_, rfl⟩
    rw [← hX] at hHeld ⊢
    have hqX : RMAt X (V.heap.size) z := by rw [hX]; exact setRow_heap _ _ _ _ _ _ hq0
    have hzX : RMIn X z := by
     rw [hX]
     exact RMIn.not3 (R := V.heap.size) (hz5) ⟨_, _, _, _, _, _, _, _, _, _, _, hq0⟩ (fun k9 hk9 => heap_setRow_other _ _ _ _ (fun e9 => hk9 e9.symm))
    generalize hqn : V.heap.size = q at *
    clear hX hq0 hqn
    obtain ⟨d0, d1, d2⟩ := hqX.cells
    have xA : RMAt X (w.heap.size + 1) y := (hHeld.block _ hlo).trans vA
    have xZ := (hHeld.block w.heap.size (by omega)).trans vZ
    have HX := Lib.hid (And.intro hzX (And.intro xA (And.intro xZ (And.intro hbwV (And.intro hHeld hlo)))))
    have hx3 := xA
    clear hzX xZ vA vI vd vZ vR vC0 vC1 vC2 hqX xA hlo hbwV hHeld hb5 hz5
    unfold RMAt at hx3
    go_wp2_with (refine wpList_store_row rfl 31 _ _ rfl (w.heap.size + 1) #[.slice z.ac z.ctx.length z.cc, .slice z.aK z.K.length z.cK, .slice z.ad z.dead.length z.cd] rfl rfl 31 _ hx3 (by kernel_rfl) rfl (by kernel_rfl) ?_)
    obtain ⟨hzX, xA, xZ, hbwV, hHeld, hlo⟩ := HX.out
    have HF : Hid (RMAt (X.setRow (w.heap.size + 1) #[.slice z.ac z.ctx.length z.cc, .slice z.aK z.K.length z.cK, .slice z.ad z.dead.length z.cd]) (w.heap.size + 1) z ∧ RMIn (X.setRow (w.heap.size + 1) #[.slice z.ac z.ctx.length z.cc, .slice z.aK z.K.length z.cK, .slice z.ad z.dead.length z.cd]) z ∧ z.rm = ((evsOf ls).take (k + 1)).foldl rmAp RM.empty ∧ (X.setRow (w.heap.size + 1) #[.slice z.ac z.ctx.length z.cc, .slice z.aK z.K.length z.cK, .slice z.ad z.dead.length z.cd]).heap[w.heap.size]? = some (.cells #[.slice none 0 0, .slice none 0 0, .slice none 0 0] 31 (0, 0)) ∧ Below w.heap.size w (X.setRow (w.heap.size + 1) #[.slice z.ac z.ctx.length z.cc, .slice z.aK z.K.length z.cK, .slice z.ad z.dead.length z.cd])) := by
     refine ⟨setRow_heap _ _ _ _ _ _ hx3, RMIn.not3 (R := w.heap.size + 1) hzX xA.sl3 (fun k9 hk9 => heap_setRow_other _ _ _ _ (fun e9 => hk9 e9.symm)), ?_, (heap_setRow_other _ _ _ _ (by omega)).trans xZ, below_setRow (hbwV.trans (hHeld.mono (by omega))) (by omega) _⟩
     rw [HT.out, List.foldl_append, ← HY.out]
     exact hzr
    clear hzX xA xZ hbwV hHeld hlo hx3 d0 d1 d2
    go_roundw
    case rel => exact ⟨k + 1, z, by go_num, HLT.out, HF.out.1, HF.out.2.1, HF.out.2.2.1, HF.out.2.2.2.1, HF.out.2.2.2.2⟩
    case measure => have := HLT.out; simp [intOf] <;> omega
  ·obtain rfl : k = ls.length := by omega
   have hYe : y.rm = (evsOf ls).foldl rmAp RM.empty := by rw [HY.out, List.take_of_length_le (by rw [evsOf_length]; exact Nat.le_refl _)]
   have HE := Lib.hid hYe
   have HB := Lib.hid (And.intro hbw (And.intro hIn hAt))
   clear hYe hbw hIn hAt
   go_wp2_with (refine wpList_store_row rfl 31 _ _ rfl w.heap.size #[.slice y.ac y.ctx.length y.cc, .slice y.aK y.K.length y.cK, .slice y.ad y.dead.length y.cd] rfl rfl 31 _ hZr (by kernel_rfl) rfl (by kernel_rfl) ?_)
   refine ret_cell 2 31 31 w.heap.size #[.slice y.ac y.ctx.length y.cc, .slice y.aK y.K.length y.cK, .slice y.ad y.dead.length y.cd] _ rfl rfl (setRow_heap _ _ _ _ _ _ hZr) Tryz.underlying31 rfl (by kernel_rfl) rfl ?_
   obtain ⟨hbw, hIn, hAt⟩ := HB.out
   have hbS := below_setRow hbw (Nat.le_refl _) #[.slice y.ac y.ctx.length y.cc, .slice y.aK y.K.length y.cK, .slice y.ad y.dead.length y.cd]
   exact ⟨y, rfl, RMIn.not3 (R := w.heap.size) hIn ⟨_, _, _, _, _, _, _, _, _, _, _, hZr⟩ (fun k9 hk9 => heap_setRow_other _ _ _ _ (fun e9 => hk9 e9.symm)), HE.out, hbS⟩
theorem results_tmp_cell {fn : Func} {p u : Tmp} {ty : TypeId} (h : fn.results = #[.tmp u, .cell p ty]) (tmps : Array Value) (P : Program) (w : World) :
 (results fn tmps).run P w =
  ((asAddr (tmps.getD p undef)).run P w).andThen fun a w₁ => ((loadVar ty a).run P w₁).andThen fun x w₂ => .ok (.tuple #[tmps.getD u undef, x]) w₂ := by
 simp only [results, h]
 simp [Sem.run_bind, Result.andThen]
theorem ret_tmp_cell {P : Program} {fn : Func} {R : Ending → World → Prop} {a : Act} {w : World} (u p : Tmp) (ty t : TypeId) (g : Nat) (c : Array Value) (d : TypeDesc) (v : Value) (hr : fn.results = #[.tmp u, .cell p ty])
 (hp : a.tmps.getD p undef = .pointer (some ⟨g, 0, none⟩)) (hv : a.tmps.getD u undef = v) (hg : w.heap[g]? = some (.cells c t (0, 0))) (hu : P.underlying ty = some d) (hd : d.isRow = true) (hi : (P.info? ty).map (·.size) = some c.size)
 (hde : a.defers = []) (hR : R (.returned (.tuple #[v, .agg c])) w) : bodyPost P fn R .ret a w := by
 have h1 : w.rangeAt g 0 c.toList := fun j v hv => by
  rw [Nat.zero_add]
  simp only [World.cell?, hg]
  simpa using hv
 have h2 := run_loadVar_mid (P := P) w g 0 ty c.toList d h1 hu hd (by simpa using hi)
 refine bodyPost_ret ?_ hde hR
 rw [results_tmp_cell hr, hp, hv]
 simp [asAddr, h2, Result.andThen]
/-- a map made of events, and the reference's -/
structure MadeIn (w : World) (m : Nat) (b : MB) (s : MS) (y : RMIt) (l : List Ev) (base : Nat) : Prop where
 map : MpIn w m b s
 inv : MInv s
 ref : RMIn w y
 rel : Rel s y.rm
 good : RMGood y.rm l.length
 ctx : s.ctx.length ≤ l.length
 dead : s.dead.length ≤ 64 * l.length
 low : ∀ k, foot b s.A k → base ≤ k
 merged : ∃ n f, Merged MS.empty l s n f
def RetMade (l : List Ev) (w : World) (e : Ending) (w' : World) : Prop := ∃ m b s y, e = .returned (.tuple #[.pointer (some ⟨m, 0, none⟩), rmVal y]) ∧ MadeIn w' m b s y l w.heap.size ∧ Below w.heap.size w w'
theorem MpIn.set3 {w : World} {m R : Nat} {b : MB} {s : MS} (h : MpIn w m b s) (hR : Sl3 w R) (hRf : ¬ foot b s.A R) (cs : Array Value) : MpIn (w.setRow R cs) m b s := by
 have hk : ∀ k, k ≠ R → (w.setRow R cs).heap[k]? = w.heap[k]? := fun k hk => heap_setRow_other _ _ _ _ (fun e => hk e.symm)
 have hm : m ≠ R := fun e => by
  obtain ⟨a, n, c, a2, n2, c2, a3, n3, c3, t, f, hh⟩ := hR
  have := h.cell
  rw [e, hh] at this
  simp at this
 have hv : b.v ≠ R := fun e => by
  obtain ⟨a, n, c, a2, n2, c2, a3, n3, c3, t, f, hh⟩ := hR
  have := h.vec.cell
  rw [e, hh] at this
  simp at this
 have hf : ∀ k, foot b s.A k → k ≠ R := fun k hk e => hRf (e ▸ hk)
 exact ⟨(hk m hm).trans h.cell, h.vec.block (hk _ hv) (hk _ (hf _ (foot_vb b _))), h.kept.block (hk _ (hf _ (foot_kb b _))), fun x hx => (h.overs x hx).not3 hR hk, h.dead.block (hk _ (hf _ (foot_db b _))), h.alive.block (hk _ (hf _ (foot_ab b _))), fun p hp => (h.inner p hp).block (hk _ (hf _ (foot_in b hp))), h.some, h.keys, h.nodup⟩
theorem made24_any (a : Option Addr) (cap : Nat) (ls : List EvIt) (w : World) (hl : ls.length ≤ 4095) (hE : EvsIn w a ls) (hsm : EvsSmall ls) :
 Calls Tryz.prog 52 #[.slice a ls.length cap] w (RetMade (evsOf ls) w) := by
 have HN := Lib.hid (fun X => mNew_any X)
 have HFo := Lib.hid (fun (X : World) (hE : EvsIn X a ls) => rFold_any a cap ls X hl hE hsm)
 have HSM := Lib.hid hsm
 go_enter Tryz.func52, Tryz.ntmps52
 go_upto_region 2 with (go_at_call 15; (with_reducible refine (HN.out _).mono ?_); rintro x w1 ⟨m, b, rfl, hm, hb1, hlo, hfo⟩)
 have hb01 : Below w.heap.size w (w.alloc (.cells #[.slice none 0 0, .slice none 0 0, .slice none 0 0] 31)) := (Below.refl _ _).alloc (Nat.le_refl _) _
 have hsz1 : (w.alloc (.cells #[.slice none 0 0, .slice none 0 0, .slice none 0 0] 31)).heap.size = w.heap.size + 1 := by simp
 have hZ : w1.heap[w.heap.size]? = some (.cells #[.slice none 0 0, .slice none 0 0, .slice none 0 0] 31 (0, 0)) := (hb1.block _ (by simp)).trans (heap_last0 _ _)
 have hbw1 : Below w.heap.size w w1 := hb01.trans (hb1.mono (by simp))
 have hfo1 : ∀ k, foot b [] k → w.heap.size + 1 ≤ k := fun k hk => by have := hfo k hk; omega
 clear hb01 hsz1 hb1 hfo hlo HN
 go_wp2
 go_loopw [5] (fun i wr => ∃ (k : Nat) (s : MS) (n : Nat) (f : Int), i = .int .i64 k ∧ k ≤ ls.length ∧ MpIn wr m b s ∧ Merged MS.empty ((evsOf ls).take k) s n f ∧ (∀ q, foot b s.A q → w.heap.size + 1 ≤ q) ∧ wr.heap[w.heap.size]? = some (.cells #[.slice none 0 0, .slice none 0 0, .slice none 0 0] 31 (0, 0)) ∧ Below w.heap.size w wr) (fun i _ => ls.length - (intOf i).toNat)
 case atStart => exact ⟨0, MS.empty, 0, 0, rfl, Nat.zero_le _, hm, Merged.nil, hfo1, hZ, hbw1⟩
 case round =>
  obtain ⟨k, s, n, f, rfl, hk, hmr, hM, hfr, hZr, hbw⟩ := hrel
  obtain ⟨hi, g1, g2, g3⟩ := hM.facts MInv.empty
  rw [List.length_take, evsOf_length] at g1 g2 g3
  have hMe : MS.empty.ctx.length = 0 ∧ MS.empty.dead.length = 0 := ⟨rfl, rfl⟩
  have HM := Lib.hid hM
  by_cases hlt : k < ls.length
  ·obtain ⟨A, off, rfl, hra, hda⟩ := (hE.kept hbw).at hlt
   have r1 := hra k hlt
   have hse := HSM.out _ (List.getElem_mem hlt)
   have HT : Hid ((evsOf ls).take (k + 1) = (evsOf ls).take k ++ [ls[k].1]) := by
        unfold Hid
        rw [List.take_add_one, List.getElem?_eq_getElem (by rw [evsOf_length]; exact hlt), evsOf_at hlt]
        rfl
   have HLT := Lib.hid hlt
   have hkl : k ≤ 4095 := by omega
   generalize ls[k] = x at *
   obtain ⟨e, ax, cx⟩ := x
   simp only [itEv] at r1
   simp only at hda hse HT
   have hn0 : ax = none → e.over = [] := fun hn => by rcases hda with h | ⟨A, off, h3, _⟩; exact h; rw [hn] at h3; cases h3
   have HAp := Lib.hid (mApply_any e ax cx wr hmr hi hse hda hn0 (by omega) (by omega))
   have HB := Lib.hid (And.intro hbw (And.intro hfr (And.intro hZr hmr)))
   clear hra hse hda hM hmr hfr hZr hi g1 g2 g3 hbw hn0
   go_wp2_with (first
        | ((with_reducible refine wpList_load_evo _ A (off + k * 19) e ax cx r1 ?_ rfl ?_); exact rfl)
        | (go_at_call 17; (with_reducible refine HAp.out.mono ?_); rintro v w2 ⟨s2, rfl, hm2, hf2, hft2, hap2⟩))
   have HZ : Hid (MpIn w2 m b s2 ∧ Merged MS.empty ((evsOf ls).take (k + 1)) s2 (if apOk s e = true then n + 1 else n) (if f = 0 then apErr s e else f) ∧ (∀ q, foot b s2.A q → w.heap.size + 1 ≤ q) ∧ w2.heap[w.heap.size]? = some (.cells #[.slice none 0 0, .slice none 0 0, .slice none 0 0] 31 (0, 0)) ∧ Below w.heap.size w w2) := by
        obtain ⟨hbw, hfr, hZr, hmr⟩ := HB.out
        refine ⟨hm2, by rw [HT.out]; exact Merged.snoc HM.out hap2, fun q hq => ?_, (hf2.block _ (lt_of_block hZr) (fun hq => by have := hfr _ hq; omega)).trans hZr, hbw.trans (hf2.below hbw.size (fun q hq => by have := hfr q hq; omega))⟩
        rcases hft2 q hq with h3 | h3
        ·exact hfr q h3
        ·have := lt_of_block hZr; omega
   clear hm2 hf2 hft2 hap2 HAp r1
   go_roundw
   case rel => exact ⟨k + 1, s2, _, _, by go_num, HLT.out, HZ.out.1, HZ.out.2.1, HZ.out.2.2.1, HZ.out.2.2.2.1, HZ.out.2.2.2.2⟩
   case measure => have := HLT.out; simp [intOf] <;> omega
  ·obtain rfl : k = ls.length := by omega
   have hM2 : Merged MS.empty (evsOf ls) s n f := by
        have := HM.out
        rwa [List.take_of_length_le (by rw [evsOf_length]; exact Nat.le_refl _)] at this
   have HFo1 := Lib.hid (HFo.out wr (hE.kept hbw))
   have HB := Lib.hid (And.intro hbw (And.intro hfr (And.intro hmr (And.intro hi hM2))))
   have hZlt := lt_of_block hZr
   clear hM hmr hfr hi hM2 HM g1 g2 g3
   go_upto_region 6 with fail
   refine wp_name (fun W hW => ?_)
   have hWe : W = wr := hW.out
   subst hWe
   clear hW
   go_wp2_with (first
        | (go_at_call 88; (with_reducible refine HFo1.out.mono ?_); rintro v w3 ⟨y, rfl, hIn, hy, hb3⟩; have hZ3 := (hb3.block _ hZlt).trans hZr)
        | (refine wpList_store_row rfl 31 _ _ rfl w.heap.size #[.slice y.ac y.ctx.length y.cc, .slice y.aK y.K.length y.cK, .slice y.ad y.dead.length y.cd] rfl rfl 31 _ hZ3 (by kernel_rfl) rfl (by kernel_rfl) ?_))
   refine ret_tmp_cell 2 3 31 31 w.heap.size #[.slice y.ac y.ctx.length y.cc, .slice y.aK y.K.length y.cK, .slice y.ad y.dead.length y.cd] _ _ rfl rfl rfl (setRow_heap _ _ _ _ _ _ hZ3) Tryz.underlying31 rfl (by kernel_rfl) rfl ?_
   obtain ⟨hbw, hfr, hmr, hi, hM2⟩ := HB.out
   have hS3 : Sl3 w3 w.heap.size := ⟨_, _, _, _, _, _, _, _, _, _, _, hZ3⟩
   obtain ⟨_, g1, g2, _⟩ := hM2.facts MInv.empty
   rw [hMe.1] at g1
   rw [hMe.2] at g2
   have hgood := RMGood.empty.fold (evsOf ls)
   rw [← hy, Nat.zero_add] at hgood
   have hrel := hM2.rel Rel.empty MInv.empty
   rw [← hy] at hrel
   have hbS := below_setRow (hbw.trans (hb3.mono hbw.size)) (Nat.le_refl _) (rmRow y)
   exact ⟨m, b, s, y, rfl, ⟨(hmr.kept_w hb3).set3 hS3 (fun hq => by have := hfr _ hq; omega) _, hi, RMIn.not3 (R := w.heap.size) hIn hS3 (fun k9 hk9 => heap_setRow_other _ _ _ _ (fun e9 => hk9 e9.symm)), hrel, hgood, by omega, by omega, fun q hq => by have := hfr q hq; omega, ⟨n, f, hM2⟩⟩, hbS⟩
end Go.Proofs.YtpbobhfnglikmaaGreat
