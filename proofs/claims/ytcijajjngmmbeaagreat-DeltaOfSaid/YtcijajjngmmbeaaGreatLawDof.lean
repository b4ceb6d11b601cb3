/- The law DeltaOf, walked. Conditions: none. -/
import Derived.Test.YtcijajjngmmbeaaGreatLawCov
import Derived.Test.YtcijajjngmmbeaaGreatRefO
set_option linter.unusedSimpArgs false
set_option linter.unusedVariables false
set_option linter.unnecessarySimpa false
namespace Go.Proofs.YtcijajjngmmbeaaGreat
open Go.RowKit

theorem ofFrom_sub (mk : List Dot) (most : Int) : ∀ (l out : List Ev), (∀ x ∈ ofFrom mk most out l, x ∈ out ∨ x ∈ l) ∧ (ofFrom mk most out l).length ≤ out.length + l.length
  | [], out => ⟨fun x hx => Or.inl hx, Nat.le_refl _⟩
  | y :: l, out => by
    unfold ofFrom
    split
    · exact ⟨fun x hx => Or.inl hx, Nat.le_add_right _ _⟩
    · obtain ⟨h1, h2⟩ := ofFrom_sub mk most l (if hasM mk y.dot = true then out else out ++ [y])
      refine ⟨fun x hx => ?_, ?_⟩
      · rcases h1 x hx with h | h
        · split at h
          · exact Or.inl h
          · rcases List.mem_append.1 h with h | h
            · exact Or.inl h
            · exact Or.inr (by simp only [List.mem_singleton] at h; rw [h]; exact List.mem_cons_self)
        · exact Or.inr (List.mem_cons_of_mem _ h)
      · rw [List.length_cons]
        have h3 : (if hasM mk y.dot = true then out else out ++ [y]).length ≤ out.length + 1 := by split <;> simp
        omega
theorem MadeIn.small {w : World} {m : Nat} {b : MB} {s : MS} {y : RMIt} {ls : List EvIt} {base : Nat} (h : MadeIn w m b s y (evsOf ls) base) (hs : EvsSmall ls) : ∀ x ∈ eventsOf s, EvSmall x := fun x hx => by
  obtain ⟨z, hz, rfl⟩ := (eventsOf_mem h.rel.nd).1 hx
  obtain ⟨n9, f9, hM9⟩ := h.merged
  rcases hM9.come z hz with ⟨z9, hz9, _⟩ | h9
  · cases hz9
  · obtain ⟨v, hv, e8⟩ := List.mem_map.1 h9
    rw [← e8]
    exact hs v hv
theorem ofSmall {mk : List Dot} {most : Int} {L : List Ev} {ds : List EvIt} (hL : ∀ x ∈ L, EvSmall x) (hlen : L.length ≤ 1073741824) (hds : evsOf ds = ofFrom mk most [] L) : EvsSmall ds ∧ ds.length ≤ 1073741824 := by
  obtain ⟨h1, h2⟩ := ofFrom_sub mk most L []
  rw [← hds] at h1 h2
  rw [evsOf_length] at h2
  refine ⟨fun x hx => ?_, by simp only [List.length_nil] at h2; omega⟩
  rcases h1 x.1 (List.mem_map_of_mem hx) with h | h
  · cases h
  · exact hL _ h
/-- what the law's last row calls, where the marks may be -/
structure DofEnd (m : Nat) (b : MB) (s : MS) (y : RMIt) (l : List Dot) (most : Int) (cB cC : Bool) : Prop where
  of : ∀ (X : World) (a : Option Addr) (c : Nat), RMIn X y → DotsIn X a l → Calls Tryz.prog 35 #[rmVal y, .slice a l.length c, .int .i64 most] X (RetEvL (ofFrom l most [] (eventsOf s)) X)
  same : ∀ (X : World) (a1 a2 : Option Addr) (c1 c2 : Nat) (d1 d2 : List EvIt), EvsIn X a1 d1 → EvsIn X a2 d2 → evsOf d1 = ofFrom l most [] (eventsOf s) → evsOf d2 = ofFrom l most [] (eventsOf s) → Calls Tryz.prog 21 #[.slice a1 d1.length c1, .slice a2 d2.length c2] X fun e w' => e = .returned (.bool true) ∧ Below X.heap.size X w'
  needs : ∀ (X : World) (a : Option Addr) (c : Nat), MpIn X m b s → DotsIn X a l → Calls Tryz.prog 33 #[.pointer (some ⟨m, 0, none⟩), .slice a l.length c] X fun e w' => e = .returned (.bool (!cB)) ∧ Below X.heap.size X w'
  behind : ∀ (X : World) (a : Option Addr) (c : Nat), MpIn X m b s → DotsIn X a l → Calls Tryz.prog 34 #[.pointer (some ⟨m, 0, none⟩), .slice a l.length c] X fun e w' => e = .returned (.bool (!cC)) ∧ Below X.heap.size X w'
  cov1 : ∀ (X : World) (a : Option Addr) (c : Nat), RMIn X y → DotsIn X a l → Calls Tryz.prog 36 #[.slice a l.length c, .slice y.ac y.ctx.length y.cc] X fun e w' => e = .returned (.bool cB) ∧ Below X.heap.size X w'
  cov2 : ∀ (X : World) (a : Option Addr) (c : Nat), RMIn X y → DotsIn X a l → Calls Tryz.prog 36 #[.slice y.ac y.ctx.length y.cc, .slice a l.length c] X fun e w' => e = .returned (.bool cC) ∧ Below X.heap.size X w'
theorem dofEnd {w : World} {m : Nat} {b : MB} {s : MS} {y : RMIt} {ls : List EvIt} {base : Nat} (h : MadeIn w m b s y (evsOf ls) base) (hs : EvsSmall ls) (hls : ls.length ≤ 30) {l : List Dot} (hl : l.length ≤ 100) (hm : marksErr l = 0) (most : Int) : DofEnd m b s y l most (coversM l s.ctx) (coversM s.ctx l) := by
  have hlw := evsOf_length ls
  have hy : y.ctx = s.ctx := h.rel.ctx
  have hk : evsOf y.K = eventsOf s := h.rel.kept
  have hkl : y.K.length ≤ 30 := by
    have h1 : (evsOf y.K).length ≤ _ := h.good.kept
    rw [evsOf_length] at h1
    omega
  have hc := h.ctx
  have hel : (eventsOf s).length ≤ 1073741824 := by rw [← hk, evsOf_length]; omega
  have hsm := h.small hs
  refine ⟨fun X a c hI hd => ?_, fun X a1 a2 c1 c2 d1 d2 h1 h2 e1 e2 => ?_, fun X a c hM hd => ?_, fun X a c hM hd => ?_, fun X a c hI hd => ?_, fun X a c hI hd => ?_⟩
  · have h1 := rOf22_any y a c l most X (by omega) (by omega) hI hd
    rw [hk, rof_eq l most (eventsOf s) [] (by show most < 0 ∨ ((0 : Nat) : Int) ≤ most; omega)] at h1
    exact h1
  · obtain ⟨s1, l1⟩ := ofSmall hsm hel e1
    obtain ⟨s2, l2⟩ := ofSmall hsm hel e2
    have h3 := rSameEvs_any a1 a2 c1 c2 d1 d2 X l1 l2 s1 s2 h1 h2
    rw [decide_eq_true (e1.trans e2.symm)] at h3
    exact h3
  · have h1 := dNeeds_any a c l X hM h.inv (by omega) (by omega) hd
    rw [decide_eq_true hm, Bool.true_and] at h1
    exact h1
  · have h1 := dBehind_any a c l X hM h.inv (by omega) (by omega) hd
    rw [decide_eq_true hm, Bool.true_and] at h1
    exact h1
  · have h1 := rCovM_any a y.ac c y.cc l y.ctx X (by omega) (by rw [hy]; omega) hd hI.ctx
    rw [hy] at h1 ⊢
    exact h1
  · have h1 := rCovM_any y.ac a y.cc c y.ctx l X (by rw [hy]; omega) (by omega) hI.ctx hd
    rw [hy] at h1 ⊢
    exact h1

set_option maxRecDepth 100000 in
set_option maxHeartbeats 8000000 in
theorem lawDof_any (a am : Option Addr) (ca cm : Nat) (ls : List EvIt) (l : List Dot) (most : Int) (w : World) (hE : EvsArg w a ls) (hd : DotsIn w am l) (hl : l.length ≤ maxLen) :
    Calls Tryz.prog 4 #[.slice a ls.length ca, .slice am l.length cm, .int .i64 most] w fun x w' => x = .returned (.bool true) ∧ Below w.heap.size w w' := by
  have HL0 : Calls Tryz.prog 14 #[.slice a ls.length ca, .int .i64 30] w fun x w' => x = .returned (.bool (lightAll 30 (evsOf ls))) ∧ Below w.heap.size w w' := LightAll_any a ca 30 ls w (by decide) hE.len hE.evs (fun x hx => ⟨(hE.each x hx).over, (hE.each x hx).name, (hE.each x hx).domain, (hE.each x hx).path, (hE.each x hx).value⟩)
  have HA := Lib.hid awake22_any
  have hEi := hE.evs
  clear hE
  cases hli : lightAll 30 (evsOf ls) with
  | false =>
    rw [hli] at HL0
    have HL := Lib.hid HL0
    clear HL0 hli
    go_enter Tryz.func4, Tryz.ntmps4
    go_wp2_with (first
      | (go_at_call 14; (with_reducible refine HL.out.mono ?_); rintro x w1 ⟨rfl, hb1⟩)
      | (go_at_call 29; (with_reducible refine (HA.out _).mono ?_); rintro x w2 ⟨rfl, hb2⟩))
    go_ret
    exact ⟨rfl, hb1.trans (hb2.mono hb1.size)⟩
  | true =>
    obtain ⟨hls, hsl⟩ := light_evs hli
    rw [hli] at HL0
    have HL := Lib.hid HL0
    clear HL0 hli
    by_cases hm : l.length ≤ 100
    · have hdm : decide ((100 : Int) < (l.length : Int)) = false := decide_eq_false (by omega)
      have HM1 := Lib.hid (fun (X : World) (h : EvsIn X a ls) => made_any a ca ls X (by omega) h hsl)
      have HCk := Lib.hid (fun (X : World) (h : DotsIn X am l) => rCheck_any am cm l X (by omega) h)
      have HLM := Lib.hid hm
      clear hm hl
      go_enter Tryz.func4, Tryz.ntmps4
      go_upto_region 4 with (first
        | (go_at_call 14; (with_reducible refine HL.out.mono ?_); rintro x w1 ⟨rfl, hb1⟩; have hE1 := hEi.kept hb1)
        | (go_at_call 30; (with_reducible refine (HM1.out _ hE1).mono ?_); rintro x w3 ⟨m, b, s, y, rfl, hm3, hb3⟩; have hbw3 := hb1.trans (hb3.mono hb1.size))
        | (refine wpList_store_new 45 _ _ _ (rmRow y) rfl rfl (by kernel_rfl) rfl (by kernel_rfl) ?_))
      have hbA := (Below.refl w3.heap.size w3).alloc (Nat.le_refl _) (.cells (rmRow y) 45)
      have hAt : RMAt (w3.alloc (.cells (rmRow y) 45)) w3.heap.size y := heap_last0 _ _
      obtain ⟨W, hWe⟩ : ∃ W, W = w3.alloc (.cells (rmRow y) 45) := ⟨_, rfl⟩
      rw [← hWe] at hbA hAt ⊢
      have hmW := hm3.kept hbA
      have hbW : Below w.heap.size w W := hbw3.trans (hbA.mono hbw3.size)
      have hdW := hd.kept hbW
      clear hWe hbA hb1 hb3 hbw3 hE1 hEi hm3 HL HM1 hd
      generalize w3.heap.size = B8 at *
      have HMW := Lib.hid hmW
      have hmp := hmW.map
      have hry := hmW.ref
      have hlw := evsOf_length ls
      have hsc : s.ctx.length ≤ 30 := by have := hmW.ctx; omega
      by_cases hz : marksErr l = 0
      · have HOf := Lib.hid (dOf_any am cm l most W hmp hmW.inv hdW hz)
        obtain ⟨cB, cC, hEnd⟩ : ∃ cB cC, DofEnd m b s y l most cB cC := ⟨_, _, dofEnd hmW hsl hls HLM.out hz most⟩
        have HEn := Lib.hid hEnd
        rw [hz] at HCk
        clear hz hEnd hmW hlw hsc hsl hls
        go_upto_region 5 with (go_at_call 31; (with_reducible refine HOf.out.mono ?_); rintro x w4 ⟨aX, ds, cX, rfl, hEx, hevx, hb4⟩)
        have hd4 := hdW.kept hb4
        have HEV := Lib.hid hevx
        have hm4 := hmp.kept_w hb4
        have hr4 := hry.keep hb4
        have hA4 := hAt.kept hb4
        have hb4w : Below w.heap.size w w4 := hbW.trans (hb4.mono hbW.size)
        clear hevx hb4 hbW hdW hmp hry hAt HOf
        go_upto_region 8 with (go_at_call 32; (with_reducible refine (HCk.out _ hd4).mono ?_); rintro x w5 ⟨rfl, hb5⟩)
        refine wp_name (fun V hV => ?_)
        have hbV : Below w4.heap.size w4 V.drew := by rw [hV.out]; exact hb5.drew
        have vd := hd4.kept hbV
        have vE := hEx.kept hbV
        have vm := hm4.kept_w hbV
        have vr := hr4.keep hbV
        have vA := hA4.kept hbV
        have HBV := Lib.hid (hb4w.trans (hbV.mono hb4w.size))
        obtain ⟨vC0, vC1, vC2⟩ := vA.cells
        have hx1 : ((!cB) != cB) = true := by cases cB <;> rfl
        have hx2 : ((!cC) != cC) = true := by cases cC <;> rfl
        clear hV hbV hb5 hd4 hEx hm4 hr4 hA4 vA hb4w
        refine wp_region_noPanic ?_
        refine wp_region_held_drew (S := fun W' => Below V.drew.heap.size V.drew W') (by kernel_rfl) (Below.refl _ _) (fun hHeld => ?_)
        refine wpAnyH_take (i := 0) (oi := ⟨some 60, _, _, _, _, _⟩) (v := ?_) rfl (by kernel_rfl) (by kernel_rfl) (by kernel_rfl) (fun _ _ _ h => h) (Or.inl ⟨by rfl, ?_⟩) (by assumption) ?_
        case refine_2 => (intro w hSw; have sC0 := kept hSw vC0; have sC1 := kept hSw vC1; have sC2 := kept hSw vC2; go_simp; try with_reducible rfl)
        try simp only [Act.put, List.setIfInBounds_toArray, List.set_cons_zero, List.set_cons_succ]
        refine wpAnyH_take (i := 1) (oi := ⟨some 61, _, _, _, _, _⟩) (v := ?_) rfl (by kernel_rfl) (by kernel_rfl) (by kernel_rfl) (fun _ _ _ h => h) (Or.inl ⟨by rfl, ?_⟩) (by assumption) ?_
        case refine_2 => (intro w hSw; have sC0 := kept hSw vC0; have sC1 := kept hSw vC1; have sC2 := kept hSw vC2; go_simp; try with_reducible rfl)
        try simp only [Act.put, List.setIfInBounds_toArray, List.set_cons_zero, List.set_cons_succ]
        refine wpAnyH_take (i := 2) (oi := ⟨some 62, _, _, _, _, _⟩) (v := ?_) rfl (by kernel_rfl) (by kernel_rfl) (by kernel_rfl) (fun _ _ _ h => h) (Or.inl ⟨by rfl, ?_⟩) (by assumption) ?_
        case refine_2 => (intro w hSw; have sC0 := kept hSw vC0; have sC1 := kept hSw vC1; have sC2 := kept hSw vC2; go_simp; try with_reducible rfl)
        try simp only [Act.put, List.setIfInBounds_toArray, List.set_cons_zero, List.set_cons_succ]
        refine wpAnyH_take (i := 3) (oi := ⟨some 63, _, _, _, _, _⟩) (v := ?_) rfl (by kernel_rfl) (by kernel_rfl) (by kernel_rfl) (fun _ _ _ h => h) (Or.inl ⟨by rfl, ?_⟩) (by assumption) ?_
        case refine_2 => (intro w hSw; have sC0 := kept hSw vC0; have sC1 := kept hSw vC1; have sC2 := kept hSw vC2; go_simp; try with_reducible rfl)
        try simp only [Act.put, List.setIfInBounds_toArray, List.set_cons_zero, List.set_cons_succ]
        refine wpAnyH_take (i := 4) (oi := ⟨some 64, _, _, _, _, _⟩) (v := ?_) rfl (by kernel_rfl) (by kernel_rfl) (by kernel_rfl) (fun _ _ _ h => h) (Or.inl ⟨by rfl, ?_⟩) (by assumption) ?_
        case refine_2 => (intro w hSw; have sC0 := kept hSw vC0; have sC1 := kept hSw vC1; have sC2 := kept hSw vC2; go_simp; try with_reducible rfl)
        try simp only [Act.put, List.setIfInBounds_toArray, List.set_cons_zero, List.set_cons_succ]
        refine wpAnyH_take (i := 5) (oi := ⟨some 65, _, _, _, _, _⟩) (v := ?_) rfl (by kernel_rfl) (by kernel_rfl) (by kernel_rfl) (fun _ _ _ h => h) (Or.inl ⟨by rfl, ?_⟩) (by assumption) ?_
        case refine_2 => (intro w hSw; have sC0 := kept hSw vC0; have sC1 := kept hSw vC1; have sC2 := kept hSw vC2; go_simp; try with_reducible rfl)
        try simp only [Act.put, List.setIfInBounds_toArray, List.set_cons_zero, List.set_cons_succ]
        refine wpAnyH_take (i := 6) (oi := ⟨some 66, _, _, _, _, _⟩) (v := ?_) rfl (by kernel_rfl) (by kernel_rfl) (by kernel_rfl) (fun _ _ _ h => h) (Or.inl ⟨by rfl, ?_⟩) (by assumption) ?_
        case refine_2 => (intro w hSw; have sC0 := kept hSw vC0; have sC1 := kept hSw vC1; have sC2 := kept hSw vC2; go_simp; try with_reducible rfl)
        try simp only [Act.put, List.setIfInBounds_toArray, List.set_cons_zero, List.set_cons_succ]
        refine wpAnyH_ready (rs := [7]) (by kernel_rfl) (by simp) ?_
        refine AllReadyH.cons (o := ⟨some 67, _, _, _, _, _⟩) rfl (fun K hK => ?_) AllReadyH.nil
        go_simp
        go_at_call 35
        (with_reducible refine (HEn.out.of _ am cm (vr.keep hHeld) (vd.kept hHeld)).mono ?_)
        rintro v w6 ⟨aR, dr, cR, rfl, hEr, hevr, hb6⟩
        go_simp
        have hNext := hHeld.trans (hb6.mono hHeld.size)
        refine hK.out _ _ hNext (fun hHeld2 => ?_)
        clear hK K hHeld
        have hHeld := hNext
        clear hHeld2 hNext
        try simp only [Act.put, List.setIfInBounds_toArray, List.set_cons_zero, List.set_cons_succ]
        have HEr := Lib.hid hevr
        clear hevr
        refine wpAnyH_ready (rs := [8]) (by kernel_rfl) (by simp) ?_
        refine AllReadyH.cons (o := ⟨some 68, _, _, _, _, _⟩) rfl (fun K hK => ?_) AllReadyH.nil
        go_simp
        go_at_call 21
        (with_reducible refine (HEn.out.same _ aX aR cX cR ds dr (vE.kept hHeld) hEr HEV.out HEr.out).mono ?_)
        rintro v w7 ⟨rfl, hb7⟩
        go_simp
        have hNext := hHeld.trans (hb7.mono hHeld.size)
        refine hK.out _ _ hNext (fun hHeld2 => ?_)
        clear hK K hHeld
        have hHeld := hNext
        clear hHeld2 hNext
        try simp only [Act.put, List.setIfInBounds_toArray, List.set_cons_zero, List.set_cons_succ]
        clear hEr hb6 hb7
        refine wpAnyH_take (i := 9) (oi := ⟨some 69, _, _, _, _, _⟩) (v := ?_) rfl (by kernel_rfl) (by kernel_rfl) (by kernel_rfl) (fun _ _ _ h => h) (Or.inl ⟨by rfl, ?_⟩) (by assumption) ?_
        case refine_2 => (intro w hSw; have sC0 := kept hSw vC0; have sC1 := kept hSw vC1; have sC2 := kept hSw vC2; go_simp; try with_reducible rfl)
        try simp only [Act.put, List.setIfInBounds_toArray, List.set_cons_zero, List.set_cons_succ]
        refine wpAnyH_take (i := 10) (oi := ⟨some 70, _, _, _, _, _⟩) (v := ?_) rfl (by kernel_rfl) (by kernel_rfl) (by kernel_rfl) (fun _ _ _ h => h) (Or.inl ⟨by rfl, ?_⟩) (by assumption) ?_
        case refine_2 => (intro w hSw; have sC0 := kept hSw vC0; have sC1 := kept hSw vC1; have sC2 := kept hSw vC2; go_simp; try with_reducible rfl)
        try simp only [Act.put, List.setIfInBounds_toArray, List.set_cons_zero, List.set_cons_succ]
        refine wpAnyH_take (i := 11) (oi := ⟨some 71, _, _, _, _, _⟩) (v := ?_) rfl (by kernel_rfl) (by kernel_rfl) (by kernel_rfl) (fun _ _ _ h => h) (Or.inl ⟨by rfl, ?_⟩) (by assumption) ?_
        case refine_2 => (intro w hSw; have sC0 := kept hSw vC0; have sC1 := kept hSw vC1; have sC2 := kept hSw vC2; go_simp; try with_reducible rfl)
        try simp only [Act.put, List.setIfInBounds_toArray, List.set_cons_zero, List.set_cons_succ]
        refine wpAnyH_take (i := 12) (oi := ⟨some 72, _, _, _, _, _⟩) (v := ?_) rfl (by kernel_rfl) (by kernel_rfl) (by kernel_rfl) (fun _ _ _ h => h) (Or.inl ⟨by rfl, ?_⟩) (by assumption) ?_
        case refine_2 => (intro w hSw; have sC0 := kept hSw vC0; have sC1 := kept hSw vC1; have sC2 := kept hSw vC2; go_simp; try with_reducible rfl)
        try simp only [Act.put, List.setIfInBounds_toArray, List.set_cons_zero, List.set_cons_succ]
        refine wpAnyH_take (i := 14) (oi := ⟨some 74, _, _, _, _, _⟩) (v := ?_) rfl (by kernel_rfl) (by kernel_rfl) (by kernel_rfl) (fun _ _ _ h => h) (Or.inl ⟨by rfl, ?_⟩) (by assumption) ?_
        case refine_2 => (intro w hSw; have sC0 := kept hSw vC0; have sC1 := kept hSw vC1; have sC2 := kept hSw vC2; go_simp; try with_reducible rfl)
        try simp only [Act.put, List.setIfInBounds_toArray, List.set_cons_zero, List.set_cons_succ]
        refine wpAnyH_take (i := 15) (oi := ⟨some 75, _, _, _, _, _⟩) (v := ?_) rfl (by kernel_rfl) (by kernel_rfl) (by kernel_rfl) (fun _ _ _ h => h) (Or.inl ⟨by rfl, ?_⟩) (by assumption) ?_
        case refine_2 => (intro w hSw; have sC0 := kept hSw vC0; have sC1 := kept hSw vC1; have sC2 := kept hSw vC2; go_simp; try with_reducible rfl)
        try simp only [Act.put, List.setIfInBounds_toArray, List.set_cons_zero, List.set_cons_succ]
        refine wpAnyH_take (i := 16) (oi := ⟨some 76, _, _, _, _, _⟩) (v := ?_) rfl (by kernel_rfl) (by kernel_rfl) (by kernel_rfl) (fun _ _ _ h => h) (Or.inl ⟨by rfl, ?_⟩) (by assumption) ?_
        case refine_2 => (intro w hSw; have sC0 := kept hSw vC0; have sC1 := kept hSw vC1; have sC2 := kept hSw vC2; go_simp; try with_reducible rfl)
        try simp only [Act.put, List.setIfInBounds_toArray, List.set_cons_zero, List.set_cons_succ]
        refine wpAnyH_ready (rs := [13]) (by kernel_rfl) (by simp) ?_
        refine AllReadyH.cons (o := ⟨some 73, _, _, _, _, _⟩) rfl (fun K hK => ?_) AllReadyH.nil
        go_simp
        go_at_call 33
        (with_reducible refine (HEn.out.needs _ am cm (vm.kept_w hHeld) (vd.kept hHeld)).mono ?_)
        rintro v w8 ⟨rfl, hb8⟩
        go_simp
        have hNext := hHeld.trans (hb8.mono hHeld.size)
        refine hK.out _ _ hNext (fun hHeld2 => ?_)
        clear hK K hHeld
        have hHeld := hNext
        clear hHeld2 hNext
        try simp only [Act.put, List.setIfInBounds_toArray, List.set_cons_zero, List.set_cons_succ]
        refine wpAnyH_ready (rs := [17]) (by kernel_rfl) (by simp) ?_
        refine AllReadyH.cons (o := ⟨some 77, _, _, _, _, _⟩) rfl (fun K hK => ?_) AllReadyH.nil
        go_simp
        go_at_call 36
        (with_reducible refine (HEn.out.cov1 _ am cm (vr.keep hHeld) (vd.kept hHeld)).mono ?_)
        rintro v w9 ⟨rfl, hb9⟩
        go_simp
        have hNext := hHeld.trans (hb9.mono hHeld.size)
        refine hK.out _ _ hNext (fun hHeld2 => ?_)
        clear hK K hHeld
        have hHeld := hNext
        clear hHeld2 hNext
        try simp only [Act.put, List.setIfInBounds_toArray, List.set_cons_zero, List.set_cons_succ]
        clear hb8 hb9
        refine wpAnyH_take (i := 18) (oi := ⟨some 78, _, _, _, _, _⟩) (v := ?_) rfl (by kernel_rfl) (by kernel_rfl) (by kernel_rfl) (fun _ _ _ h => h) (Or.inl ⟨by rfl, ?_⟩) (by assumption) ?_
        case refine_2 => (intro w hSw; have sC0 := kept hSw vC0; have sC1 := kept hSw vC1; have sC2 := kept hSw vC2; go_simp; try with_reducible rfl)
        try simp only [Act.put, List.setIfInBounds_toArray, List.set_cons_zero, List.set_cons_succ]
        refine wpAnyH_take (i := 19) (oi := ⟨some 79, _, _, _, _, _⟩) (v := ?_) rfl (by kernel_rfl) (by kernel_rfl) (by kernel_rfl) (fun _ _ _ h => h) (Or.inl ⟨by rfl, ?_⟩) (by assumption) ?_
        case refine_2 => (intro w hSw; have sC0 := kept hSw vC0; have sC1 := kept hSw vC1; have sC2 := kept hSw vC2; go_simp; try with_reducible rfl)
        try simp only [Act.put, List.setIfInBounds_toArray, List.set_cons_zero, List.set_cons_succ]
        refine wpAnyH_take (i := 20) (oi := ⟨some 80, _, _, _, _, _⟩) (v := ?_) rfl (by kernel_rfl) (by kernel_rfl) (by kernel_rfl) (fun _ _ _ h => h) (Or.inl ⟨by rfl, ?_⟩) (by assumption) ?_
        case refine_2 => (intro w hSw; have sC0 := kept hSw vC0; have sC1 := kept hSw vC1; have sC2 := kept hSw vC2; go_simp; try with_reducible rfl)
        try simp only [Act.put, List.setIfInBounds_toArray, List.set_cons_zero, List.set_cons_succ]
        refine wpAnyH_take (i := 21) (oi := ⟨some 81, _, _, _, _, _⟩) (v := ?_) rfl (by kernel_rfl) (by kernel_rfl) (by kernel_rfl) (fun _ _ _ h => h) (Or.inl ⟨by rfl, ?_⟩) (by assumption) ?_
        case refine_2 => (intro w hSw; have sC0 := kept hSw vC0; have sC1 := kept hSw vC1; have sC2 := kept hSw vC2; go_simp; try with_reducible rfl)
        try simp only [Act.put, List.setIfInBounds_toArray, List.set_cons_zero, List.set_cons_succ]
        refine wpAnyH_take (i := 22) (oi := ⟨some 82, _, _, _, _, _⟩) (v := ?_) rfl (by kernel_rfl) (by kernel_rfl) (by kernel_rfl) (fun _ _ _ h => h) (Or.inl ⟨by rfl, ?_⟩) (by assumption) ?_
        case refine_2 => (intro w hSw; have sC0 := kept hSw vC0; have sC1 := kept hSw vC1; have sC2 := kept hSw vC2; go_simp; try with_reducible rfl)
        try simp only [Act.put, List.setIfInBounds_toArray, List.set_cons_zero, List.set_cons_succ]
        refine wpAnyH_take (i := 24) (oi := ⟨some 84, _, _, _, _, _⟩) (v := ?_) rfl (by kernel_rfl) (by kernel_rfl) (by kernel_rfl) (fun _ _ _ h => h) (Or.inl ⟨by rfl, ?_⟩) (by assumption) ?_
        case refine_2 => (intro w hSw; have sC0 := kept hSw vC0; have sC1 := kept hSw vC1; have sC2 := kept hSw vC2; go_simp; try with_reducible rfl)
        try simp only [Act.put, List.setIfInBounds_toArray, List.set_cons_zero, List.set_cons_succ]
        refine wpAnyH_take (i := 25) (oi := ⟨some 85, _, _, _, _, _⟩) (v := ?_) rfl (by kernel_rfl) (by kernel_rfl) (by kernel_rfl) (fun _ _ _ h => h) (Or.inl ⟨by rfl, ?_⟩) (by assumption) ?_
        case refine_2 => (intro w hSw; have sC0 := kept hSw vC0; have sC1 := kept hSw vC1; have sC2 := kept hSw vC2; go_simp; try with_reducible rfl)
        try simp only [Act.put, List.setIfInBounds_toArray, List.set_cons_zero, List.set_cons_succ]
        refine wpAnyH_take (i := 26) (oi := ⟨some 86, _, _, _, _, _⟩) (v := ?_) rfl (by kernel_rfl) (by kernel_rfl) (by kernel_rfl) (fun _ _ _ h => h) (Or.inl ⟨by rfl, ?_⟩) (by assumption) ?_
        case refine_2 => (intro w hSw; have sC0 := kept hSw vC0; have sC1 := kept hSw vC1; have sC2 := kept hSw vC2; go_simp; try with_reducible rfl)
        try simp only [Act.put, List.setIfInBounds_toArray, List.set_cons_zero, List.set_cons_succ]
        refine wpAnyH_ready (rs := [23]) (by kernel_rfl) (by simp) ?_
        refine AllReadyH.cons (o := ⟨some 83, _, _, _, _, _⟩) rfl (fun K hK => ?_) AllReadyH.nil
        go_simp
        go_at_call 34
        (with_reducible refine (HEn.out.behind _ am cm (vm.kept_w hHeld) (vd.kept hHeld)).mono ?_)
        rintro v w10 ⟨rfl, hb10⟩
        go_simp
        have hNext := hHeld.trans (hb10.mono hHeld.size)
        refine hK.out _ _ hNext (fun hHeld2 => ?_)
        clear hK K hHeld
        have hHeld := hNext
        clear hHeld2 hNext
        try simp only [Act.put, List.setIfInBounds_toArray, List.set_cons_zero, List.set_cons_succ]
        refine wpAnyH_ready (rs := [27]) (by kernel_rfl) (by simp) ?_
        refine AllReadyH.cons (o := ⟨some 87, _, _, _, _, _⟩) rfl (fun K hK => ?_) AllReadyH.nil
        go_simp
        go_at_call 36
        (with_reducible refine (HEn.out.cov2 _ am cm (vr.keep hHeld) (vd.kept hHeld)).mono ?_)
        rintro v w11 ⟨rfl, hb11⟩
        go_simp
        have hNext := hHeld.trans (hb11.mono hHeld.size)
        refine hK.out _ _ hNext (fun hHeld2 => ?_)
        clear hK K hHeld
        have hHeld := hNext
        clear hHeld2 hNext
        try simp only [Act.put, List.setIfInBounds_toArray, List.set_cons_zero, List.set_cons_succ]
        clear hb10 hb11
        refine wpAnyH_take (i := 28) (oi := ⟨some 88, _, _, _, _, _⟩) (v := ?_) rfl (by kernel_rfl) (by kernel_rfl) (by kernel_rfl) (fun _ _ _ h => h) (Or.inl ⟨by rfl, ?_⟩) (by assumption) ?_
        case refine_2 => (intro w hSw; have sC0 := kept hSw vC0; have sC1 := kept hSw vC1; have sC2 := kept hSw vC2; go_simp; try with_reducible rfl)
        try simp only [Act.put, List.setIfInBounds_toArray, List.set_cons_zero, List.set_cons_succ]
        refine wpAnyH_take (i := 29) (oi := ⟨some 89, _, _, _, _, _⟩) (v := ?_) rfl (by kernel_rfl) (by kernel_rfl) (by kernel_rfl) (fun _ _ _ h => h) (Or.inl ⟨by rfl, ?_⟩) (by assumption) ?_
        case refine_2 => (intro w hSw; have sC0 := kept hSw vC0; have sC1 := kept hSw vC1; have sC2 := kept hSw vC2; go_simp; try with_reducible rfl)
        try simp only [Act.put, List.setIfInBounds_toArray, List.set_cons_zero, List.set_cons_succ]
        refine wpAnyH_take (i := 30) (oi := ⟨some 90, _, _, _, _, _⟩) (v := ?_) rfl (by kernel_rfl) (by kernel_rfl) (by kernel_rfl) (fun _ _ _ h => h) (Or.inl ⟨by rfl, ?_⟩) (by assumption) ?_
        case refine_2 => (intro w hSw; have sC0 := kept hSw vC0; have sC1 := kept hSw vC1; have sC2 := kept hSw vC2; go_simp; try with_reducible rfl)
        try simp only [Act.put, List.setIfInBounds_toArray, List.set_cons_zero, List.set_cons_succ]
        refine wpAnyH_ready (rs := [31]) (by kernel_rfl) (by simp) ?_
        refine AllReadyH.cons (o := ⟨some 91, _, _, _, _, _⟩) rfl (fun K hK => ?_) AllReadyH.nil
        go_simp
        go_at_call 29
        (with_reducible refine (HA.out _).mono ?_)
        rintro v w12 ⟨rfl, hb12⟩
        go_simp
        have hNext := hHeld.trans (hb12.mono hHeld.size)
        refine hK.out _ _ hNext (fun hHeld2 => ?_)
        clear hK K hHeld
        have hHeld := hNext
        clear hHeld2 hNext
        try simp only [Act.put, List.setIfInBounds_toArray, List.set_cons_zero, List.set_cons_succ]
        refine wpAnyH_take (i := 32) (oi := ⟨some 92, _, _, _, _, _⟩) (v := ?_) rfl (by kernel_rfl) (by kernel_rfl) (by kernel_rfl) (fun _ _ _ h => h) (Or.inl ⟨by rfl, ?_⟩) (by assumption) ?_
        case refine_2 => (intro w hSw; have sC0 := kept hSw vC0; have sC1 := kept hSw vC1; have sC2 := kept hSw vC2; go_simp; try with_reducible rfl)
        try simp only [Act.put, List.setIfInBounds_toArray, List.set_cons_zero, List.set_cons_succ]
        refine wpAnyH_take (i := 33) (oi := ⟨some 6, _, _, _, _, _⟩) (v := ?_) rfl (by kernel_rfl) (by kernel_rfl) (by kernel_rfl) (fun _ _ _ h => h) (Or.inl ⟨by rfl, ?_⟩) (by assumption) ?_
        case refine_2 => (intro w hSw; have sC0 := kept hSw vC0; have sC1 := kept hSw vC1; have sC2 := kept hSw vC2; go_simp; try with_reducible rfl)
        try simp only [Act.put, List.setIfInBounds_toArray, List.set_cons_zero, List.set_cons_succ]
        refine wpAnyH_done (by kernel_rfl) ?_ _
        refine NoPanic.normal ?_
        have HZ := Lib.hid (HBV.out.trans (hHeld.mono HBV.out.size))
        clear hHeld hb12 vd vE vm vr vC0 vC1 vC2
        go_wp2
        go_ret
        exact ⟨rfl, HZ.out⟩
      · have hz0 : (marksErr l != 0) = true := by rw [bne_iff_ne]; exact hz
        have hdz : decide (marksErr l = 0) = false := decide_eq_false hz
        have HOf := Lib.hid (dOf_no (m := m) am cm l most W (by have := HLM.out; omega) hdW hz)
        have HNe := Lib.hid (fun (X : World) (hM : MpIn X m b s) (hd : DotsIn X am l) => show Calls Tryz.prog 33 #[.pointer (some ⟨m, 0, none⟩), .slice am l.length cm] X fun e w' => e = .returned (.bool false) ∧ Below X.heap.size X w' from by have h1 := dNeeds_any am cm l X hM hmW.inv (by omega) (by have := HLM.out; omega) hd; rw [hdz, Bool.false_and] at h1; exact h1)
        have HBe := Lib.hid (fun (X : World) (hM : MpIn X m b s) (hd : DotsIn X am l) => show Calls Tryz.prog 34 #[.pointer (some ⟨m, 0, none⟩), .slice am l.length cm] X fun e w' => e = .returned (.bool false) ∧ Below X.heap.size X w' from by have h1 := dBehind_any am cm l X hM hmW.inv (by omega) (by have := HLM.out; omega) hd; rw [hdz, Bool.false_and] at h1; exact h1)
        generalize marksErr l = r at *
        clear hz hdz hmW hlw hsc hsl hls
        go_upto_region 7 with (first
          | (go_at_call 31; (with_reducible refine HOf.out.mono ?_); rintro x w4 ⟨rfl, hb4⟩; have hd4 := hdW.kept hb4)
          | (go_at_call 32; (with_reducible refine (HCk.out _ hd4).mono ?_); rintro x w5 ⟨rfl, hb5⟩))
        have hb45 := hb4.trans (hb5.mono hb4.size)
        have hd5 := hdW.kept hb45
        have hm5 := hmp.kept_w hb45
        have hB5 : Below w.heap.size w w5 := hbW.trans (hb45.mono hbW.size)
        clear hb4 hb5 hb45 hd4 hdW hmp hbW hry hAt
        have hrr : (r == r) = true := beq_self_eq_true r
        go_wp2_with (first
          | (go_at_call 33; (with_reducible refine (HNe.out _ hm5 hd5).mono ?_); rintro x w6 ⟨rfl, hb6⟩; have hd6 := hd5.kept hb6; have hm6 := hm5.kept_w hb6; have hB6 := hB5.trans (hb6.mono hB5.size))
          | (go_at_call 34; (with_reducible refine (HBe.out _ hm6 hd6).mono ?_); rintro x w7 ⟨rfl, hb7⟩; have hB7 := hB6.trans (hb7.mono hB6.size))
          | (go_at_call 29; (with_reducible refine (HA.out _).mono ?_); rintro x w8 ⟨rfl, hb8⟩))
        go_ret
        exact ⟨rfl, hB7.trans (hb8.mono hB7.size)⟩
    · have hdm : decide ((100 : Int) < (l.length : Int)) = true := decide_eq_true (by omega)
      clear hm
      go_enter Tryz.func4, Tryz.ntmps4
      go_wp2_with (first
        | (go_at_call 14; (with_reducible refine HL.out.mono ?_); rintro x w1 ⟨rfl, hb1⟩)
        | (go_at_call 29; (with_reducible refine (HA.out _).mono ?_); rintro x w2 ⟨rfl, hb2⟩))
      go_ret
      exact ⟨rfl, hb1.trans (hb2.mono hb1.size)⟩
end Go.Proofs.YtcijajjngmmbeaaGreat
