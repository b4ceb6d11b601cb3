/- The law DeltaCovers, walked. Conditions: none. -/
import Derived.Test.YtcijajjngmmbeaaGreatRefR
import Derived.Test.YtcijajjngmmbeaaGreatRelP
import Derived.Test.YtcijajjngmmbeaaGreatOpen
set_option linter.unusedSimpArgs false
set_option linter.unusedVariables false
set_option linter.unnecessarySimpa false
namespace Go.Proofs.YtcijajjngmmbeaaGreat
open Go.RowKit

theorem light_evs {n : Nat} {ls : List EvIt} (h : lightAll n (evsOf ls) = true) : ls.length ≤ n ∧ EvsSmall ls := by
  unfold lightAll at h
  simp only [Bool.and_eq_true, decide_eq_true_eq, List.all_eq_true] at h
  exact ⟨by rw [← evsOf_length]; exact h.1, fun x hx => light_small (h.2 x.1 (List.mem_map_of_mem hx))⟩
theorem Merged.come {s : MS} {l : List Ev} {s' : MS} {n : Nat} {f : Int} (h : Merged s l s' n f) : ∀ x ∈ s'.K, (∃ y ∈ s.K, y.1 = x.1) ∨ x.1 ∈ l := by
  induction h with
  | nil => exact fun x hx => Or.inl ⟨x, hx, rfl⟩
  | snoc _ hap ih =>
    intro x hx
    split at hap
    · obtain ⟨a, c, hk⟩ := hap.kept
      rcases List.mem_cons.1 (hk.mem_iff.1 hx) with rfl | hx
      · exact Or.inr (by simp)
      · exact (ih x hx).imp id fun h => by simp [h]
    · rw [hap] at hx
      exact (ih x hx).imp id fun h => by simp [h]
theorem MadeIn.kept {w w' : World} {m : Nat} {b : MB} {s : MS} {y : RMIt} {l : List Ev} {base : Nat} (h : MadeIn w m b s y l base) (hb : Below w.heap.size w w') : MadeIn w' m b s y l base :=
  ⟨h.map.kept_w hb, h.inv, h.ref.keep hb, h.rel, h.good, h.ctx, h.dead, h.low, h.merged⟩
theorem MadeIn.len {w : World} {m : Nat} {b : MB} {s : MS} {y : RMIt} {l : List Ev} {base : Nat} (h : MadeIn w m b s y l base) : s.K.length ≤ l.length := by
  have h1 := h.good.kept
  rwa [h.rel.kept, eventsOf_len h.rel.nd] at h1
theorem MadeIn.full {w : World} {m : Nat} {b : MB} {s : MS} {y : RMIt} {l : List Ev} {base : Nat} (h : MadeIn w m b s y l base) : FullM s := by
  obtain ⟨n, f, hM⟩ := h.merged
  exact hM.full FullM.empty
/-- the context, told for one who holds the map -/
theorem callCtx {m : Nat} {b : MB} {s : MS} (w : World) (h : MpIn w m b s) (hi : MInv s) (hl : s.ctx.length ≤ 4096) :
    Calls Tryz.prog 37 #[.pointer (some ⟨m, 0, none⟩)] w fun e w' => ∃ a c, e = .returned (.slice a s.ctx.length c) ∧ DotsIn w' a s.ctx ∧ Below w.heap.size w w' := by
  refine (mContext_any w h hi.ctx (by omega)).mono ?_
  rintro e w' ⟨x, rfl, hown, hb⟩
  obtain ⟨a, c, rfl, hd⟩ := own_marks hown
  exact ⟨a, c, rfl, hd, hb⟩
theorem callOf {m : Nat} {b : MB} {s t : MS} (a : Option Addr) (c : Nat) (w : World) (h : MpIn w m b s) (hi : MInv s) (ht : MInv t) (hl : t.ctx.length ≤ 4096) (hd : DotsIn w a t.ctx) :
    Calls Tryz.prog 31 #[.pointer (some ⟨m, 0, none⟩), .slice a t.ctx.length c, .int .i64 (-1)] w (RetOf ((eventsOf s).filter fun x => !hasM t.ctx x.dot) w) := by
  have h1 := dOf_any a c t.ctx (-1) w h hi hd (ht.marks hl)
  rw [ofFrom_all t.ctx (by decide)] at h1
  exact h1
theorem callNeeds {m : Nat} {b : MB} {s t : MS} (a : Option Addr) (c : Nat) (w : World) (h : MpIn w m b s) (hi : MInv s) (hl : s.ctx.length ≤ 4096) (hlt : t.ctx.length ≤ 4096) (hc : coversM t.ctx s.ctx = true) (hd : DotsIn w a t.ctx) :
    Calls Tryz.prog 33 #[.pointer (some ⟨m, 0, none⟩), .slice a t.ctx.length c] w fun e w' => e = .returned (.bool false) ∧ Below w.heap.size w w' := by
  have h1 := dNeeds_any a c t.ctx w h hi hl (by omega) hd
  rw [hc, Bool.not_true, Bool.and_false] at h1
  exact h1
/-- what is merged into the one leaves the other as it is -/
theorem callMerge {m n : Nat} {b bn : MB} {s t : MS} {base : Nat} (a : Option Addr) (c : Nat) (ls : List EvIt) (w : World) (hm : MpIn w m b s) (hn : MpIn w n bn t) (hi : MInv s) (ht : MInv t) (hnd : (s.K.map (·.1.dot)).Nodup) (hf : FullM s)
    (hls : s.K.length ≤ 30) (hlt : t.K.length ≤ 30) (hct : t.ctx.length ≤ 30) (hdt : t.dead.length ≤ 1920) (hlow : ∀ k, foot b s.A k → k < base) (hhigh : ∀ k, foot bn t.A k → base ≤ k)
    (hE : EvsIn w a ls) (hev : evsOf ls = (eventsOf s).filter fun x => !hasM t.ctx x.dot) (hsm : EvsSmall ls) (n0 : Nat) (hn0 : n0 ≤ w.heap.size) (hn1 : ∀ k, foot bn t.A k → n0 ≤ k) :
    Calls Tryz.prog 38 #[.pointer (some ⟨n, 0, none⟩), .slice a ls.length c] w fun e w' => ∃ t', e = .returned (.tuple #[.int .i64 ls.length, .int .i64 0]) ∧ MpIn w' m b s ∧ MpIn w' n bn t' ∧ MInv t' ∧ t'.ctx.length ≤ 60 ∧ coversM t'.ctx s.ctx = true ∧ Below n0 w w' := by
  have hll : ls.length ≤ 30 := by
    have h1 := congrArg List.length hev
    rw [evsOf_length] at h1
    have h2 := List.length_filter_le (fun x => !hasM t.ctx x.dot) (eventsOf s)
    rw [eventsOf_len hnd] at h2
    omega
  refine (dMerge_any a c ls w hn ht hE hsm (by omega) (by omega) (by omega)).mono ?_
  rintro e w' ⟨t', k, f, rfl, hM, hn2, hfr, hft⟩
  obtain ⟨i1, i2, _, _⟩ := hM.facts ht
  rw [evsOf_length] at i2
  rw [hev] at hM
  obtain ⟨h1, rfl, h3⟩ := covers_all hi ht hnd hf (by omega) hM
  rw [← hev, evsOf_length] at h1
  subst h1
  exact ⟨t', rfl, hm.other hfr (hn.keeps hfr (fun _ h => h)) (fun q hq hq2 => by have := hhigh q hq; have := hlow q hq2; omega), hn2, i1, by omega, h3, hfr.below hn0 hn1⟩

set_option maxRecDepth 100000 in
set_option maxHeartbeats 4000000 in
theorem lawCov_any (a a2 : Option Addr) (ca c2 : Nat) (ls os : List EvIt) (w : World) (hE : EvsArg w a ls) (hO : EvsArg w a2 os) :
    Calls Tryz.prog 5 #[.slice a ls.length ca, .slice a2 os.length c2] w fun x w' => x = .returned (.bool true) ∧ Below w.heap.size w w' := by
  have HL0 : ∀ X, EvsIn X a ls → Calls Tryz.prog 14 #[.slice a ls.length ca, .int .i64 30] X fun x w' => x = .returned (.bool (lightAll 30 (evsOf ls))) ∧ Below X.heap.size X w' := fun X h => LightAll_any a ca 30 ls X (by decide) hE.len h (fun x hx => ⟨(hE.each x hx).over, (hE.each x hx).name, (hE.each x hx).domain, (hE.each x hx).path, (hE.each x hx).value⟩)
  have HO0 : ∀ X, EvsIn X a2 os → Calls Tryz.prog 14 #[.slice a2 os.length c2, .int .i64 30] X fun x w' => x = .returned (.bool (lightAll 30 (evsOf os))) ∧ Below X.heap.size X w' := fun X h => LightAll_any a2 c2 30 os X (by decide) hO.len h (fun x hx => ⟨(hO.each x hx).over, (hO.each x hx).name, (hO.each x hx).domain, (hO.each x hx).path, (hO.each x hx).value⟩)
  have HA := Lib.hid awake22_any
  have hEi := hE.evs
  have hOi := hO.evs
  clear hE hO
  cases hli : lightAll 30 (evsOf ls) with
  | false =>
    rw [hli] at HL0
    have HL := Lib.hid (HL0 w hEi)
    clear HL0 HO0 hli
    go_enter Tryz.func5, Tryz.ntmps5
    go_wp2_with (first
      | (go_at_call 14; (with_reducible refine HL.out.mono ?_); rintro x w1 ⟨rfl, hb1⟩)
      | (go_at_call 29; (with_reducible refine (HA.out _).mono ?_); rintro x w2 ⟨rfl, hb2⟩))
    go_ret
    exact ⟨rfl, hb1.trans (hb2.mono hb1.size)⟩
  | true =>
    obtain ⟨hls, hsl⟩ := light_evs hli
    rw [hli] at HL0
    have HL := Lib.hid (HL0 w hEi)
    clear HL0 hli
    cases hlo : lightAll 30 (evsOf os) with
    | false =>
      rw [hlo] at HO0
      have HO := Lib.hid HO0
      clear HO0 hlo
      go_enter Tryz.func5, Tryz.ntmps5
      go_wp2_with (first
        | (go_at_call 14; (with_reducible refine HL.out.mono ?_); rintro x w1 ⟨rfl, hb1⟩; have hO1 := hOi.kept hb1)
        | (go_at_call 14; (with_reducible refine (HO.out _ hO1).mono ?_); rintro x w2 ⟨rfl, hb2⟩)
        | (go_at_call 29; (with_reducible refine (HA.out _).mono ?_); rintro x w3 ⟨rfl, hb3⟩))
      go_ret
      exact ⟨rfl, (hb1.trans (hb2.mono hb1.size)).trans (hb3.mono (Nat.le_trans hb1.size hb2.size))⟩
    | true =>
      obtain ⟨hlo2, hso⟩ := light_evs hlo
      rw [hlo] at HO0
      have HO := Lib.hid HO0
      clear HO0 hlo
      have HM1 := Lib.hid (fun (X : World) (h : EvsIn X a ls) => made_any a ca ls X (by omega) h hsl)
      have HM2 := Lib.hid (fun (X : World) (h : EvsIn X a2 os) => made_any a2 c2 os X (by omega) h hso)
      go_enter Tryz.func5, Tryz.ntmps5
      go_upto_region 5 with (first
        | (go_at_call 14; (with_reducible refine HL.out.mono ?_); rintro x w1 ⟨rfl, hb1⟩; have hO1 := hOi.kept hb1)
        | (go_at_call 14; (with_reducible refine (HO.out _ hO1).mono ?_); rintro x w2 ⟨rfl, hb2⟩; have hbw2 := hb1.trans (hb2.mono hb1.size); have hE2 := hEi.kept hbw2)
        | (go_at_call 30; (with_reducible refine (HM1.out _ hE2).mono ?_); rintro x w3 ⟨m, b, s, y, rfl, hm3, hb3⟩; have hbw3 := hbw2.trans (hb3.mono hbw2.size); have hbA := (Below.refl w3.heap.size w3).alloc (Nat.le_refl _) (.cells (rmRow y) 45); have hO3 := (hOi.kept hbw3).kept hbA)
        | (go_at_call 30; (with_reducible refine (HM2.out _ hO3).mono ?_); rintro x w4 ⟨n, bn, t, z, rfl, hn4, hb4⟩)
        | (refine wpList_store_new 45 _ _ _ (rmRow y) rfl rfl (by kernel_rfl) rfl (by kernel_rfl) ?_)
        | (refine wpList_store_new 45 _ _ _ (rmRow z) rfl rfl (by kernel_rfl) rfl (by kernel_rfl) ?_))
      have hbB := (Below.refl w4.heap.size w4).alloc (Nat.le_refl _) (.cells (rmRow z) 45)
      obtain ⟨W, hWe⟩ : ∃ W, W = w4.alloc (.cells (rmRow z) 45) := ⟨_, rfl⟩
      rw [← hWe] at hbB ⊢
      have hmA := hm3.kept hbA
      have hmW := (hmA.kept hb4).kept hbB
      have hnW := hn4.kept hbB
      have hbWw : Below w.heap.size w W := ((hbw3.trans (hbA.mono hbw3.size)).trans (hb4.mono (Nat.le_trans hbw3.size hbA.size))).trans (hbB.mono (Nat.le_trans (Nat.le_trans hbw3.size hbA.size) hb4.size))
      have hlow : ∀ k, foot b s.A k → k < w3.heap.size := fun k hk => hm3.map.low hk
      have hhigh : ∀ k, foot bn t.A k → w3.heap.size ≤ k := fun k hk => Nat.le_trans hbA.size (hn4.low k hk)
      clear hWe hbB hb4 hmA hbA hO3 hO1 hE2 hb1 hb2 hb3 hbw2 hOi hEi hm3 hn4 HL HO HM1 HM2
      have hlw := evsOf_length ls
      have hlv := evsOf_length os
      have hsK := hmW.len
      have htK := hnW.len
      have hsc := hmW.ctx
      have htc := hnW.ctx
      have htd := hnW.dead
      have HFm := Lib.hid hmW
      have HFn := Lib.hid hnW
      have hsmall : ∀ (ds : List EvIt), evsOf ds = (eventsOf s).filter (fun x => !hasM t.ctx x.dot) → EvsSmall ds := fun ds hds x hx => by
        have h1 : x.1 ∈ evsOf ds := List.mem_map_of_mem hx
        rw [hds, List.mem_filter, eventsOf_mem hmW.rel.nd] at h1
        obtain ⟨⟨y9, hy9, e9⟩, _⟩ := h1
        obtain ⟨n9, f9, hM9⟩ := hmW.merged
        rcases hM9.come y9 hy9 with ⟨z9, hz9, _⟩ | h9
        · cases hz9
        · obtain ⟨v, hv, e8⟩ := List.mem_map.1 h9
          rw [← e9, ← e8]
          exact hsl v hv
      have HSm := Lib.hid hsmall
      have HC1 := Lib.hid (callCtx W hnW.map hnW.inv (by omega))
      have HOf := Lib.hid (fun (X : World) (aC : Option Addr) (cC : Nat) (h : MpIn X m b s) (hd : DotsIn X aC t.ctx) => callOf (s := s) (t := t) aC cC X h hmW.inv hnW.inv (by omega) hd)
      have hmM := hmW.map
      have hnM := hnW.map
      have HLH := Lib.hid (And.intro hlow hhigh)
      clear hmW hnW hsmall hlow hhigh hsl hso
      go_upto_region 6 with (first
        | (go_at_call 37; (with_reducible refine HC1.out.mono ?_); rintro x w5 ⟨aC, cC, rfl, hd5, hb5⟩; have hm5 := hmM.kept_w hb5; have hn5 := hnM.kept_w hb5)
        | (go_at_call 31; (with_reducible refine (HOf.out _ aC cC hm5 hd5).mono ?_); rintro x w6 ⟨aD, ds, cD, rfl, hE6, hev6, hb6⟩))
      have hm6 := hm5.kept_w hb6
      have hn6 := hn5.kept_w hb6
      have hbw6 : Below w.heap.size w w6 := (hbWw.trans (hb5.mono hbWw.size)).trans (hb6.mono (Nat.le_trans hbWw.size hb5.size))
      have HMg := Lib.hid (callMerge (base := w3.heap.size) aD cD ds w6 hm6 hn6 HFm.out.inv HFn.out.inv HFm.out.rel.nd HFm.out.full (by omega) (by omega) (by omega) (by omega) HLH.out.1 HLH.out.2 hE6 hev6 (HSm.out ds hev6) w.heap.size hbw6.size (fun k hk => Nat.le_trans hbw3.size (HLH.out.2 k hk)))
      have HB6 := Lib.hid hbw6
      have hsc2 : s.ctx.length ≤ 4096 := by omega
      clear hm5 hn5 hd5 hb5 hb6 hbWw hE6 hev6 hm6 hn6 hbw6 hmM hnM HC1 HOf
      go_upto_region 7 with (go_at_call 38; (with_reducible refine HMg.out.mono ?_); rintro x w7 ⟨t7, rfl, hm7, hn7, hi7, hl7, hc7, hb7⟩)
      have HB7 := Lib.hid (HB6.out.trans hb7)
      have HC7 := Lib.hid (callCtx w7 hn7 hi7 (by omega))
      have HNd := Lib.hid (fun (X : World) (aC : Option Addr) (cC : Nat) (h : MpIn X m b s) (hd : DotsIn X aC t7.ctx) => callNeeds (s := s) (t := t7) aC cC X h HFm.out.inv hsc2 (by omega) hc7 hd)
      clear hn7 hi7 hc7 hb7 HMg
      go_wp2_with (first
        | (go_at_call 37; (with_reducible refine HC7.out.mono ?_); rintro x w8 ⟨aE, cE, rfl, hd8, hb8⟩; have hm8 := hm7.kept_w hb8; have hB8 := HB7.out.trans (hb8.mono HB7.out.size))
        | (go_at_call 33; (with_reducible refine (HNd.out _ aE cE hm8 hd8).mono ?_); rintro x w9 ⟨rfl, hb9⟩; have hB9 := hB8.trans (hb9.mono hB8.size))
        | (go_at_call 29; (with_reducible refine (HA.out _).mono ?_); rintro x w10 ⟨rfl, hb10⟩))
      go_ret
      exact ⟨rfl, hB9.trans (hb10.mono hB9.size)⟩
end Go.Proofs.YtcijajjngmmbeaaGreat
