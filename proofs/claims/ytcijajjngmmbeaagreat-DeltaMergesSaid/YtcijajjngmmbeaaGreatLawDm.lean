/- The law DeltaMerges, walked. Conditions: none. -/
import Derived.Test.YtcijajjngmmbeaaGreatIs
import Derived.Test.YtcijajjngmmbeaaGreatRefMg
set_option linter.unusedSimpArgs false
set_option linter.unusedVariables false
set_option linter.unnecessarySimpa false
namespace Go.Proofs.YtcijajjngmmbeaaGreat
open Go.RowKit

theorem RMIn.keepC {w w' : World} {y : RMIt} (h : RMIn w y) (hk : KeepsC w w') : RMIn w' y := ⟨hk.dots h.ctx, hk.evs h.kept, hk.dots h.dead, h.cc, h.cK, h.cd⟩
theorem RMAt.keepC {w w' : World} {R : Nat} {y : RMIt} (h : RMAt w R y) (hk : KeepsC w w') : RMAt w' R y := hk _ _ _ _ h
theorem MadeIn.small {w : World} {m : Nat} {b : MB} {s : MS} {y : RMIt} {ls : List EvIt} {base : Nat} (h : MadeIn w m b s y (evsOf ls) base) (hsl : EvsSmall ls) : ∀ x ∈ s.K, EvSmall x.1 := fun x hx => by
  obtain ⟨n, f, hM⟩ := h.merged
  rcases hM.come x hx with ⟨z9, hz9, _⟩ | h9
  · cases hz9
  · obtain ⟨v, hv, e8⟩ := List.mem_map.1 h9
    rw [← e8]
    exact hsl v hv
theorem Merged.small {s s' : MS} {ls : List EvIt} {n : Nat} {f : Int} (h : Merged s (evsOf ls) s' n f) (hs : ∀ x ∈ s.K, EvSmall x.1) (hsl : EvsSmall ls) : ∀ x ∈ s'.K, EvSmall x.1 := fun x hx => by
  rcases h.come x hx with ⟨z9, hz9, e9⟩ | h9
  · rw [← e9]; exact hs z9 hz9
  · obtain ⟨v, hv, e8⟩ := List.mem_map.1 h9
    rw [← e8]
    exact hsl v hv
set_option maxRecDepth 100000 in
set_option maxHeartbeats 8000000 in
theorem lawDm_any (a a2 : Option Addr) (ca c2 : Nat) (ls os : List EvIt) (w : World) (hE : EvsArg w a ls) (hO : EvsArg w a2 os) :
    Calls Tryz.prog 12 #[.slice a ls.length ca, .slice a2 os.length c2] w fun x w' => x = .returned (.bool true) ∧ Below w.heap.size w w' := by
  have HL0 : ∀ X, EvsIn X a ls → Calls Tryz.prog 14 #[.slice a ls.length ca, .int .i64 30] X fun x w' => x = .returned (.bool (lightAll 30 (evsOf ls))) ∧ Below X.heap.size X w' := fun X h => LightAll_any a ca 30 ls X (by decide) hE.len h (fun x hx => ⟨(hE.each x hx).over, (hE.each x hx).name, (hE.each x hx).domain, (hE.each x hx).path, (hE.each x hx).value⟩)
  have HO0 : ∀ X, EvsIn X a2 os → Calls Tryz.prog 14 #[.slice a2 os.length c2, .int .i64 30] X fun x w' => x = .returned (.bool (lightAll 30 (evsOf os))) ∧ Below X.heap.size X w' := fun X h => LightAll_any a2 c2 30 os X (by decide) hO.len h (fun x hx => ⟨(hO.each x hx).over, (hO.each x hx).name, (hO.each x hx).domain, (hO.each x hx).path, (hO.each x hx).value⟩)
  have HA := Lib.hid awake22_any
  have hEi := hE.evs
  have hOi := hO.evs
  clear hE hO
  cases hli : lightAll 30 (evsOf ls) with
  | false =>
    rw [hli] at HL0
    have HL := Lib.hid (HL0 w hEi)
    clear HL0 HO0 hli
    go_enter Tryz.func12, Tryz.ntmps12
    go_wp2_with (first
      | (go_at_call 14; (with_reducible refine HL.out.mono ?_); rintro x w1 ⟨rfl, hb1⟩)
      | (go_at_call 29; (with_reducible refine (HA.out _).mono ?_); rintro x w2 ⟨rfl, hb2⟩))
    go_ret
    exact ⟨rfl, hb1.trans (hb2.mono hb1.size)⟩
  | true =>
    obtain ⟨hls, hsl⟩ := light_evs hli
    rw [hli] at HL0
    have HL := Lib.hid (HL0 w hEi)
    clear HL0 hli
    cases hlo : lightAll 30 (evsOf os) with
    | false =>
      rw [hlo] at HO0
      have HO := Lib.hid HO0
      clear HO0 hlo
      go_enter Tryz.func12, Tryz.ntmps12
      go_wp2_with (first
        | (go_at_call 14; (with_reducible refine HL.out.mono ?_); rintro x w1 ⟨rfl, hb1⟩; have hO1 := hOi.kept hb1)
        | (go_at_call 14; (with_reducible refine (HO.out _ hO1).mono ?_); rintro x w2 ⟨rfl, hb2⟩)
        | (go_at_call 29; (with_reducible refine (HA.out _).mono ?_); rintro x w3 ⟨rfl, hb3⟩))
      go_ret
      exact ⟨rfl, (hb1.trans (hb2.mono hb1.size)).trans (hb3.mono (Nat.le_trans hb1.size hb2.size))⟩
    | true =>
      obtain ⟨hlo2, hso⟩ := light_evs hlo
      rw [hlo] at HO0
      have HO := Lib.hid HO0
      clear HO0 hlo
      have HM1 := Lib.hid (fun (X : World) (h : EvsIn X a ls) => made_any a ca ls X (by omega) h hsl)
      go_enter Tryz.func12, Tryz.ntmps12
      go_upto_region 4 with (first
        | (go_at_call 14; (with_reducible refine HL.out.mono ?_); rintro x w1 ⟨rfl, hb1⟩; have hO1 := hOi.kept hb1)
        | (go_at_call 14; (with_reducible refine (HO.out _ hO1).mono ?_); rintro x w2 ⟨rfl, hb2⟩; have hbw2 := hb1.trans (hb2.mono hb1.size); have hE2 := hEi.kept hbw2)
        | (go_at_call 30; (with_reducible refine (HM1.out _ hE2).mono ?_); rintro x w3 ⟨m, b, s, y, rfl, hm3, hb3⟩)
        | (refine wpList_store_new 45 _ _ _ (rmRow y) rfl rfl (by kernel_rfl) rfl (by kernel_rfl) ?_))
      have hbw3 := hbw2.trans (hb3.mono hbw2.size)
      have hbA := (Below.refl w3.heap.size w3).alloc (Nat.le_refl _) (.cells (rmRow y) 45)
      have hAt0 : RMAt (w3.alloc (.cells (rmRow y) 45)) w3.heap.size y := heap_last0 _ _
      obtain ⟨W, hWe⟩ : ∃ W, W = w3.alloc (.cells (rmRow y) 45) := ⟨_, rfl⟩
      rw [← hWe] at hbA hAt0 ⊢
      have hmW := hm3.kept hbA
      have hbWw : Below w.heap.size w W := hbw3.trans (hbA.mono hbw3.size)
      have hlow : ∀ k, foot b s.A k → w.heap.size ≤ k := fun k hk => Nat.le_trans hbw2.size (hmW.low k hk)
      have hOW := hOi.kept hbWw
      have hlw := evsOf_length ls
      have hlv := evsOf_length os
      have hsc := hmW.ctx
      have hsd := hmW.dead
      have HFm := Lib.hid hmW
      have HSM := Lib.hid (hmW.small hsl)
      have HMg := Lib.hid (dMerge_any a2 c2 os W hmW.map hmW.inv hOW hso (by omega) (by omega) (by omega))
      generalize w3.heap.size = B at *
      clear hWe hbA hO1 hE2 hb1 hb2 hb3 hbw2 hbw3 hm3 hEi HL HO HM1 hOW hmW
      go_upto_region 5 with (go_at_call 38; (with_reducible refine HMg.out.mono ?_); rintro x w4 ⟨s4, n, f, rfl, hM4, hm4, hfr4, hft4⟩)
      have hKC := HFm.out.map.keeps hfr4 (fun _ h => h)
      have hI4 := HFm.out.ref.keepC hKC
      have hAt4 := hAt0.keepC hKC
      have hbw4 : Below w.heap.size w w4 := hbWw.trans (hfr4.below hbWw.size hlow)
      have hO4 := hOi.kept hbw4
      have HRM := Lib.hid (rMerge22_any y a2 c2 os w4 _ HFm.out.good (by omega) hI4 hO4 hso)
      have HM4 := Lib.hid hM4
      obtain ⟨c0, c1, c2'⟩ := hAt4.cells
      clear hKC hI4 hAt0 hAt4 hbWw hfr4 hft4 hO4 hOi HMg hM4
      go_upto_region 6 with (first
        | (go_at_call 59; (with_reducible refine HRM.out.mono ?_); rintro x w5 ⟨z, n2, f2, rfl, hI5, hv5, hb5⟩)
        | (refine wpList_store_new 45 _ _ _ (rmRow z) rfl rfl (by kernel_rfl) rfl (by kernel_rfl) ?_))
      have hbB := (Below.refl w5.heap.size w5).alloc (Nat.le_refl _) (.cells (rmRow z) 45)
      have hAt0 : RMAt (w5.alloc (.cells (rmRow z) 45)) w5.heap.size z := heap_last0 _ _
      obtain ⟨W5, hWe⟩ : ∃ W5, W5 = w5.alloc (.cells (rmRow z) 45) := ⟨_, rfl⟩
      rw [← hWe] at hbB hAt0 ⊢
      have h9 := hv5.symm.trans (HM4.out.mg HFm.out.rel HFm.out.inv)
      simp only [Prod.mk.injEq] at h9
      obtain ⟨hz, rfl, rfl⟩ := h9
      have hrel : Rel s4 z.rm := by rw [hz]; exact HM4.out.rel HFm.out.rel HFm.out.inv
      obtain ⟨hi4, g1, g2, _⟩ := HM4.out.facts HFm.out.inv
      have HIs := Lib.hid (fun (X : World) (h : MpIn X m b s4) (hI : RMIn X z) => isMap_any (isEnd hi4 hrel (by omega) (by omega) (HM4.out.small HSM.out hso)) X h hI)
      have hm5 := (hm4.kept_w hb5).kept_w hbB
      have hI6 := hI5.keep hbB
      have hbw5 : Below w.heap.size w W5 := (hbw4.trans (hb5.mono hbw4.size)).trans (hbB.mono (Nat.le_trans hbw4.size hb5.size))
      obtain ⟨e0, e1, e2⟩ := hAt0.cells
      have hx1 : ((n2 : Int) == (n2 : Int)) = true := beq_self_eq_true _
      have hx2 : (f2 == f2) = true := beq_self_eq_true _
      generalize w5.heap.size = B5 at *
      clear hWe hbB hv5 hz hrel hi4 g1 g2 hb5 hbw4 hm4 hI5 hAt0 c0 c1 c2' HRM
      go_wp2_with (first
        | (go_at_call 40; (with_reducible refine (HIs.out _ hm5 hI6).mono ?_); rintro x w6 ⟨rfl, hb6⟩)
        | (go_at_call 29; (with_reducible refine (HA.out _).mono ?_); rintro x w7 ⟨rfl, hb7⟩))
      go_ret
      exact ⟨rfl, (hbw5.trans (hb6.mono hbw5.size)).trans (hb7.mono (Nat.le_trans hbw5.size hb6.size))⟩
end Go.Proofs.YtcijajjngmmbeaaGreat
