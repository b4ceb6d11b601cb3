/- The law DeltaJoins, walked. Conditions: none. -/
import Derived.Test.YtpbobhfnglikmaaGreatDj2
import Derived.Test.YtpbobhfnglikmaaGreatIs
import Derived.Test.YtpbobhfnglikmaaGreatRefMg
import Derived.Test.YtpbobhfnglikmaaGreatStepP
import Derived.Test.YtpbobhfnglikmaaGreatOpen
import Derived.Laws.IdiomArrays
set_option linter.unusedSimpArgs false
set_option linter.unusedVariables false
set_option linter.unnecessarySimpa false
set_option maxHeartbeats 16000000
set_option maxRecDepth 100000
namespace Go.Proofs.YtpbobhfnglikmaaGreat
open Go.RowKit
theorem MadeIn.sg {w : World} {m : Nat} {b : MB} {s : MS} {y : RMIt} {ls : List EvIt} {n1 : Nat} (h : MadeIn w m b s y (evsOf ls) n1) (hsl : EvsSmall ls) : SGood s ls.length := by
 refine ⟨h.inv, h.rel.nd, by have := h.ctx; rwa [evsOf_length] at this, by have := h.dead; rwa [evsOf_length] at this, fun x hx => ?_⟩
 obtain ⟨n9, f9, hM9⟩ := h.merged
 rcases hM9.come x hx with ⟨z9, hz9, _⟩ | h9
 ·cases hz9
 ·obtain ⟨v, hv, e8⟩ := List.mem_map.1 h9
  rw [← e8]
  exact hsl v hv
theorem MadeIn.fold {w : World} {m : Nat} {b : MB} {s : MS} {y : RMIt} {l : List Ev} {n1 : Nat} (h : MadeIn w m b s y l n1) : y.rm = l.foldl rmAp RM.empty := by
 obtain ⟨n9, f9, hM9⟩ := h.merged
 exact h.rel.uniq (hM9.rel Rel.empty MInv.empty)
theorem Merged.good {s s' : MS} {ls : List EvIt} {n : Nat} {f : Int} {k : Nat} (h : Merged s (evsOf ls) s' n f) (hg : SGood s k) (hs : EvsSmall ls) : SGood s' (k + ls.length) := by
 obtain ⟨l, hl⟩ : ∃ l, l = evsOf ls := ⟨_, rfl⟩
 have hs2 : ∀ e ∈ l, EvSmall e := fun e he => by
  rw [hl] at he
  obtain ⟨x, hx, rfl⟩ := List.mem_map.1 he
  exact hs x hx
 rw [← evsOf_length, ← hl]
 rw [← hl] at h
 clear hl hs
 induction h with
 | nil => exact hg
 | snoc _ hap ih =>
   have h1 := (ih fun e he => hs2 e (List.mem_append_left _ he)).ap (hs2 _ (by simp)) hap
   rw [List.length_append]
   exact h1
theorem sameDot {l : List Ev} (h : SrtE l) {e f : Ev} (he : e ∈ l) (hf : f ∈ l) (hd : e.dot = f.dot) : e = f := by
 obtain ⟨i, hi, rfl⟩ := List.getElem_of_mem he
 obtain ⟨j, hj, rfl⟩ := List.getElem_of_mem hf
 have hh := List.pairwise_iff_getElem.1 h
 rcases Nat.lt_trichotomy i j with hij | hij | hij
 ·have h1 := hh i j hi hj hij
  rw [hd, dotLt_irrefl] at h1
  cases h1
 ·subst hij; rfl
 ·have h1 := hh j i hj hi hij
  rw [hd, dotLt_irrefl] at h1
  cases h1
/-- two maps in memory, and the reference's two -/
structure DjIn (w0 w : World) (m : Nat) (b : MB) (s : MS) (n : Nat) (bn : MB) (t : MS) (Bv : Nat) (y : RMIt) (Bw : Nat) (z : RMIt) (cut : Nat) : Prop where
 mp : MpIn w m b s
 np : MpIn w n bn t
 yr : RMIn w y
 zr : RMIn w z
 yrow : RMAt w Bv y
 zrow : RMAt w Bw z
 mlow : ∀ k, foot b s.A k → w0.heap.size ≤ k ∧ k < cut
 nlow : ∀ k, foot bn t.A k → w0.heap.size ≤ k ∧ cut ≤ k
 below : Below w0.heap.size w0 w
section
variable {w0 w w' : World} {m n Bv Bw cut : Nat} {b bn : MB} {s t s' t' : MS} {y z : RMIt}
theorem DjIn.kept (h : DjIn w0 w m b s n bn t Bv y Bw z cut) (hb : Below w.heap.size w w') : DjIn w0 w' m b s n bn t Bv y Bw z cut :=
 ⟨h.mp.kept_w hb, h.np.kept_w hb, h.yr.keep hb, h.zr.keep hb, h.yrow.kept hb, h.zrow.kept hb, h.mlow, h.nlow, h.below.trans (hb.mono h.below.size)⟩
theorem RMIn.keepC9 {y : RMIt} (h : RMIn w y) (hk : KeepsC w w') : RMIn w' y := ⟨hk.dots h.ctx, hk.evs h.kept, hk.dots h.dead, h.cc, h.cK, h.cd⟩
theorem DjIn.opN (h : DjIn w0 w m b s n bn t Bv y Bw z cut) (hn : MpIn w' n bn t') (hf : Fr (foot bn t.A) w w') (hA : ∀ k, foot bn t'.A k → foot bn t.A k ∨ w.heap.size ≤ k) (hc : cut ≤ w.heap.size) : DjIn w0 w' m b s n bn t' Bv y Bw z cut := by
 have hk := h.np.keeps hf (fun _ h => h)
 refine ⟨h.mp.other hf hk fun k h1 h2 => by have := (h.nlow k h1).2; have := (h.mlow k h2).2; omega, hn, h.yr.keepC9 hk, h.zr.keepC9 hk, hk _ _ _ _ h.yrow, hk _ _ _ _ h.zrow, h.mlow, fun k hk2 => ?_, h.below.trans (hf.below h.below.size fun k hk2 => (h.nlow k hk2).1)⟩
 rcases hA k hk2 with h1 | h1
 ·exact h.nlow k h1
 ·exact ⟨Nat.le_trans h.below.size h1, Nat.le_trans hc h1⟩
end
theorem lawDj_any (a : Option Addr) (ca : Nat) (ls : List EvIt) (n0 n1 n2 p0 p1 p2 : UInt8) (w : World) (hE : EvsArg w a ls) :
 Calls Tryz.prog 7 #[.slice a ls.length ca, .agg #[.int .u8 n0.toNat, .int .u8 n1.toNat, .int .u8 n2.toNat], .agg #[.int .u8 p0.toNat, .int .u8 p1.toNat, .int .u8 p2.toNat]] w fun x w' => x = .returned (.bool true) ∧ Below w.heap.size w w' := by
 have HL0 : ∀ X, EvsIn X a ls → Calls Tryz.prog 26 #[.slice a ls.length ca, .int .i64 30] X fun x w' => x = .returned (.bool (lightAll 30 (evsOf ls))) ∧ Below X.heap.size X w' := fun X h => LightAll_any a ca 30 ls X (by decide) hE.len h (fun x hx => ⟨(hE.each x hx).over, (hE.each x hx).name, (hE.each x hx).domain, (hE.each x hx).path, (hE.each x hx).value⟩)
 have HA := Lib.hid awake22_any
 have hEi := hE.evs
 clear hE
 cases hli : lightAll 30 (evsOf ls) with
 | false =>
   rw [hli] at HL0
   have HL := Lib.hid HL0
   clear HL0 hli
   go_enter Tryz.func7, Tryz.ntmps7
   go_upto_region 1 with fail
   refine wp_name (fun W0 hW0 => ?_)
   have hb0 : Below w.heap.size w W0 := by rw [hW0.out]; go_grown
   have hE0 := hEi.kept hb0
   clear hW0
   go_wp2_with (first
    | (go_at_call 26; (with_reducible refine (HL.out _ hE0).mono ?_); rintro x w1 ⟨rfl, hb1⟩)
    | (go_at_call 45; (with_reducible refine (HA.out _).mono ?_); rintro x w2 ⟨rfl, hb2⟩))
   go_ret
   exact ⟨rfl, below2 (below2 hb0 hb1) hb2⟩
 | true =>
   obtain ⟨hls, hsl⟩ := light_evs hli
   rw [hli] at HL0
   have HL := Lib.hid HL0
   clear HL0 hli
   have HC1 := Lib.hid (fun (X : World) (h : EvsIn X a ls) => choice22_any a ca ls n0 n1 n2 X hls h hsl)
   have HC2 := Lib.hid (fun (X : World) (h : EvsIn X a ls) => choice22_any a ca ls p0 p1 p2 X hls h hsl)
   have hpure := Pure.empty.fold (evsOf ls)
   go_enter Tryz.func7, Tryz.ntmps7
   go_upto_region 1 with fail
   refine wp_name (fun W0 hW0 => ?_)
   have hb0 : Below w.heap.size w W0 := by rw [hW0.out]; go_grown
   have hE0 := hEi.kept hb0
   have q0 : W0.cell? ⟨w.heap.size, 0, none⟩ = some (.int .u8 n0.toNat) := by rw [hW0.out]; go_simp
   have q1 : W0.cell? ⟨w.heap.size, 1, none⟩ = some (.int .u8 n1.toNat) := by rw [hW0.out]; go_simp
   have q2 : W0.cell? ⟨w.heap.size, 2, none⟩ = some (.int .u8 n2.toNat) := by rw [hW0.out]; go_simp
   have r0 : W0.cell? ⟨w.heap.size + 1, 0, none⟩ = some (.int .u8 p0.toNat) := by rw [hW0.out]; go_simp
   have r1 : W0.cell? ⟨w.heap.size + 1, 1, none⟩ = some (.int .u8 p1.toNat) := by rw [hW0.out]; go_simp
   have r2 : W0.cell? ⟨w.heap.size + 1, 2, none⟩ = some (.int .u8 p2.toNat) := by rw [hW0.out]; go_simp
   clear hW0
   go_upto_region 3 with (go_at_call 26; (with_reducible refine (HL.out _ hE0).mono ?_); rintro x w1 ⟨rfl, hb1⟩)
   have hE1 := hE0.kept hb1
   have hb01 := below2 hb0 hb1
   replace q0 := kept hb1 q0; replace q1 := kept hb1 q1; replace q2 := kept hb1 q2; replace r0 := kept hb1 r0; replace r1 := kept hb1 r1; replace r2 := kept hb1 r2
   go_upto_region 4 with (go_at_call 46; (with_reducible refine (HC1.out _ hE1).mono ?_); rintro x w2 ⟨aX, xs, cX, rfl, hX, ⟨hXm, hXl⟩, hb2⟩)
   have hE2 := hE1.kept hb2
   have hb02 := below2 hb01 hb2
   replace r0 := kept hb2 r0; replace r1 := kept hb2 r1; replace r2 := kept hb2 r2
   clear q0 q1 q2
   go_upto_region 5 with (go_at_call 46; (with_reducible refine (HC2.out _ hE2).mono ?_); rintro x w3 ⟨aY, ys, cY, rfl, hY, ⟨hYm, hYl⟩, hb3⟩)
   have hb03 := below2 hb02 hb3
   have hX3 := hX.kept hb3
   have hxs : EvsSmall xs := fun x hx => hsl x (hXm x hx).1
   have hys : EvsSmall ys := fun x hx => hsl x (hYm x hx).1
   have HM1 := Lib.hid (fun (X : World) (h : EvsIn X aX xs) => made_any aX cX xs X (by omega) h hxs)
   have HM2 := Lib.hid (fun (X : World) (h : EvsIn X aY ys) => made_any aY cY ys X (by omega) h hys)
   have HXY : Hid ((∀ e ∈ evsOf xs, e ∈ ((evsOf ls).foldl rmAp RM.empty).kept) ∧ ∀ e ∈ evsOf ys, e ∈ ((evsOf ls).foldl rmAp RM.empty).kept) := ⟨fun e he => by
    obtain ⟨x, hx, rfl⟩ := List.mem_map.1 he
    exact (hXm x hx).2, fun e he => by
    obtain ⟨x, hx, rfl⟩ := List.mem_map.1 he
    exact (hYm x hx).2⟩
   have hxl : xs.length ≤ 30 := by omega
   have hyl : ys.length ≤ 30 := by omega
   clear r0 r1 r2 hE0 hE1 hE2 hX hb0 hb1 hb01 hb2 hb02 hb3 hXm hYm HL HC1 HC2 hXl hYl hEi
   go_upto_region 6 with (first
    | (go_at_call 47; (with_reducible refine (HM1.out _ hX3).mono ?_); rintro x w4 ⟨m, b, s, y, rfl, hm4, hb4⟩)
    | (refine wpList_store_new 31 _ _ _ (rmRow y) rfl rfl (by kernel_rfl) rfl (by kernel_rfl) ?_))
   have hbA := (Below.refl w4.heap.size w4).alloc (Nat.le_refl _) (.cells (rmRow y) 31)
   have hAt : RMAt (w4.alloc (.cells (rmRow y) 31)) w4.heap.size y := heap_last0 _ _
   have hml : ∀ k, foot b s.A k → w.heap.size ≤ k ∧ k < w4.heap.size := fun k hk => ⟨Nat.le_trans hb03.size (hm4.low k hk), hm4.map.low hk⟩
   obtain ⟨W4, hWe⟩ : ∃ W4, W4 = w4.alloc (.cells (rmRow y) 31) := ⟨_, rfl⟩
   rw [← hWe] at hbA hAt ⊢
   have hmA := hm4.kept hbA
   have hY4 := (hY.kept hb4).kept hbA
   have hb04 := below2 (below2 hb03 hb4) hbA
   have hcut : w4.heap.size ≤ W4.heap.size := hbA.size
   clear hWe hX3 hY hb4 hbA hm4 hb03 HM1
   generalize w4.heap.size = B4 at *
   go_upto_region 7 with (first
    | (go_at_call 47; (with_reducible refine (HM2.out _ hY4).mono ?_); rintro x w5 ⟨n, bn, t, z, rfl, hn5, hb5⟩)
    | (refine wpList_store_new 31 _ _ _ (rmRow z) rfl rfl (by kernel_rfl) rfl (by kernel_rfl) ?_))
   have hbB := (Below.refl w5.heap.size w5).alloc (Nat.le_refl _) (.cells (rmRow z) 31)
   have hBt : RMAt (w5.alloc (.cells (rmRow z) 31)) w5.heap.size z := heap_last0 _ _
   have hnl : ∀ k, foot bn t.A k → w.heap.size ≤ k ∧ B4 ≤ k := fun k hk => by
    have h9 := hn5.low k hk
    exact ⟨Nat.le_trans hb04.size h9, Nat.le_trans hcut h9⟩
   obtain ⟨W5, hWe⟩ : ∃ W5, W5 = w5.alloc (.cells (rmRow z) 31) := ⟨_, rfl⟩
   rw [← hWe] at hbB hBt ⊢
   have hm5 := (hmA.kept hb5).kept hbB
   have hn6 := hn5.kept hbB
   have hD : DjIn w W5 m b s n bn t B4 y w5.heap.size z B4 := ⟨hm5.map, hn6.map, hm5.ref, hn6.ref, (hAt.kept hb5).kept hbB, hBt, hml, hnl, below2 (below2 hb04 hb5) hbB⟩
   have hcut5 : B4 ≤ W5.heap.size := Nat.le_trans hcut (Nat.le_trans hb5.size hbB.size)
   have HGm := Lib.hid (And.intro (hm5.sg hxs) (And.intro hm5.rel (And.intro hm5.full hm5.fold)))
   have HGn := Lib.hid (And.intro (hn6.sg hys) (And.intro hn6.rel (And.intro hn6.full hn6.fold)))
   have HGr := Lib.hid (And.intro hm5.good hn6.good)
   clear hWe hmA hY4 hb04 hb5 hbB hn5 hm5 hn6 hml hnl hAt hBt HM2 hcut hxs hys
   generalize w5.heap.size = B5 at *
   have hsc : s.ctx.length ≤ 30 := by have := HGm.out.1.ctx; omega
   have htc : t.ctx.length ≤ 30 := by have := HGn.out.1.ctx; omega
   have hsk : s.K.length ≤ 30 := by have := HGr.out.1.kept; have h9 := HGm.out.2.1.kept; rw [h9, eventsOf_len HGm.out.1.nd, evsOf_length] at this; omega
   have htk : t.K.length ≤ 30 := by have := HGr.out.2.kept; have h9 := HGn.out.2.1.kept; rw [h9, eventsOf_len HGn.out.1.nd, evsOf_length] at this; omega
   have HC1 := Lib.hid (fun (X : World) (h : MpIn X m b s) => callCtx X h HGm.out.1.inv (by omega))
   have HC2 := Lib.hid (fun (X : World) (h : MpIn X n bn t) => callCtx X h HGn.out.1.inv (by omega))
   have HO1 := Lib.hid (fun (X : World) (aC : Option Addr) (cC : Nat) (h : MpIn X m b s) (hd : DotsIn X aC t.ctx) => callOf (s := s) (t := t) aC cC X h HGm.out.1.inv HGn.out.1.inv (by omega) hd)
   have HO2 := Lib.hid (fun (X : World) (aC : Option Addr) (cC : Nat) (h : MpIn X n bn t) (hd : DotsIn X aC s.ctx) => callOf (s := t) (t := s) aC cC X h HGn.out.1.inv HGm.out.1.inv (by omega) hd)
   go_upto_region 8 with (first
    | (go_at_call 32; (with_reducible refine (HC2.out _ hD.np).mono ?_); rintro x w6 ⟨aC, cC, rfl, hd6, hb6⟩; have hD6 := hD.kept hb6; have hz6 := hb6.size)
    | (go_at_call 48; (with_reducible refine (HO1.out _ aC cC hD6.mp hd6).mono ?_); rintro x w7 ⟨aD, ds, cD, rfl, hE7, hev7, hb7⟩; have hD7 := hD6.kept hb7; have hz7 := hb7.size))
   have hcut7 : B4 ≤ w7.heap.size := by omega
   have HV7 := Lib.hid hev7
   clear hD hD6 hd6 hb6 hb7 hev7 hz6 hz7 HC2 HO1 hcut5
   go_upto_region 9 with (first
    | (go_at_call 32; (with_reducible refine (HC1.out _ hD7.mp).mono ?_); rintro x w8 ⟨aK, cK, rfl, hd8, hb8⟩; have hD8 := hD7.kept hb8; have hE8 := hE7.kept hb8; have hz8 := hb8.size)
    | (go_at_call 48; (with_reducible refine (HO2.out _ aK cK hD8.np hd8).mono ?_); rintro x w9 ⟨aF, fs, cF, rfl, hE9, hev9, hb9⟩; have hD9 := hD8.kept hb9; have hEd := hE8.kept hb9; have hz9 := hb9.size))
   have hcut9 : B4 ≤ w9.heap.size := by omega
   have HV9 := Lib.hid hev9
   clear hD7 hD8 hd8 hE7 hE8 hb8 hb9 hev9 hz8 hz9 hcut7 HC1 HO2
   have key : ∀ (s t : MS) (ds : List EvIt) (k : Nat), SGood s k → evsOf ds = (eventsOf s).filter (fun x => !hasM t.ctx x.dot) → EvsSmall ds ∧ ds.length ≤ s.K.length := fun s t ds k hg he => ⟨fun x hx => by
    have h1 : x.1 ∈ evsOf ds := List.mem_map_of_mem hx
    rw [he, List.mem_filter, eventsOf_mem hg.nd] at h1
    obtain ⟨⟨v, hv, e⟩, _⟩ := h1
    rw [← e]
    exact hg.small v hv, by
    rw [← evsOf_length, he]
    refine Nat.le_trans (List.length_filter_le _ _) ?_
    rw [eventsOf_len hg.nd]
    exact Nat.le_refl _⟩
   obtain ⟨hds, hdl⟩ := key s t ds _ HGm.out.1 HV7.out
   obtain ⟨hfs, hfl⟩ := key t s fs _ HGn.out.1 HV9.out
   have hsd := HGm.out.1.dead
   have htd := HGn.out.1.dead
   have HG1 := Lib.hid (fun (X : World) (h : MpIn X n bn t) (he : EvsIn X aD ds) => dMerge_any aD cD ds X h HGn.out.1.inv he hds (by omega) (by omega) (by omega))
   have HG2 := Lib.hid (fun (X : World) (h : MpIn X m b s) (he : EvsIn X aF fs) => dMerge_any aF cF fs X h HGm.out.1.inv he hfs (by omega) (by omega) (by omega))
   clear key
   go_upto_region 10 with (go_at_call 49; (with_reducible refine (HG1.out _ hD9.np hEd).mono ?_); rintro x wa ⟨t', k1, f1, rfl, hMa, hna, hfa, hfta⟩)
   have hka := hD9.np.keeps hfa (fun _ h => h)
   have hDa := hD9.opN hna hfa hfta hcut9
   have hEa := hka.evs hE9
   clear hD9 hEd hna hfa hfta hE9 hka
   go_upto_region 11 with (go_at_call 49; (with_reducible refine (HG2.out _ hDa.mp hEa).mono ?_); rintro x wb ⟨s', k2, f2, rfl, hMb, hmb, hfb, hftb⟩)
   have hkb := hDa.mp.keeps hfb (fun _ h => h)
   have hnb : MpIn wb n bn t' := hDa.np.other hfb hkb fun k h1 h2 => by have := (hDa.mlow k h1).2; have := (hDa.nlow k h2).2; omega
   have hyb := hDa.yr.keepC9 hkb
   have hzb := hDa.zr.keepC9 hkb
   have hrb : RMAt wb B4 y := hkb _ _ _ _ hDa.yrow
   have hsb : RMAt wb B5 z := hkb _ _ _ _ hDa.zrow
   have hbb : Below w.heap.size w wb := hDa.below.trans (hfb.below hDa.below.size fun k hk => (hDa.mlow k hk).1)
   have hpy : Pure y.rm := by rw [HGm.out.2.2.2]; exact Pure.empty.fold _
   have hpz : Pure z.rm := by rw [HGn.out.2.2.2]; exact Pure.empty.fold _
   have hyk : y.rm.kept = eventsOf s := HGm.out.2.1.kept
   have hzk : z.rm.kept = eventsOf t := HGn.out.2.1.kept
   have hyx : y.rm.ctx = s.ctx := HGm.out.2.1.ctx
   have hzx : z.rm.ctx = t.ctx := HGn.out.2.1.ctx
   have hlen : y.rm.kept.length + z.rm.kept.length < 2048 := by rw [hyk, hzk, eventsOf_len HGm.out.1.nd, eventsOf_len HGn.out.1.nd]; omega
   have hcons : ∀ e ∈ y.rm.kept, ∀ f ∈ z.rm.kept, e.dot = f.dot → e = f := fun e he f hf hef => by
    rw [HGm.out.2.2.2] at he
    rw [HGn.out.2.2.2] at hf
    have h1 := HXY.out.1 e ((fold_from _ _ e he).resolve_left (fun h => absurd h List.not_mem_nil))
    have h2 := HXY.out.2 f ((fold_from _ _ f hf).resolve_left (fun h => absurd h List.not_mem_nil))
    exact sameDot hpure.inv.kept h1 h2 hef
   have hJ1 : Rel s' (joinR y.rm z.rm) := by
    have h1 := hMb.rel HGm.out.2.1 HGm.out.1.inv
    rw [HV9.out, ← hzk, ← hyx, joinR_new hpy] at h1
    exact h1
   have hJ2 : Rel t' (joinR y.rm z.rm) := by
    have h1 := hMa.rel HGn.out.2.1 HGn.out.1.inv
    rw [HV7.out, ← hyk, ← hzx, joinR_new hpz] at h1
    rw [joinR_comm hpy hpz hlen hcons]
    exact h1
   have hGs := hMb.good HGm.out.1 hfs
   have hGt := hMa.good HGn.out.1 hds
   have hKz : EvsSmall z.K ∧ z.K.length ≤ 30 := ⟨fun x hx => by
    have h1 : x.1 ∈ eventsOf t := by rw [← hzk]; exact List.mem_map_of_mem hx
    obtain ⟨v, hv, e⟩ := (eventsOf_mem HGn.out.1.nd).1 h1
    rw [← e]
    exact HGn.out.1.small v hv, by
    have := congrArg List.length hzk
    rw [show z.rm.kept = evsOf z.K from rfl, evsOf_length, eventsOf_len HGn.out.1.nd] at this
    omega⟩
   have HRm := Lib.hid (fun (X : World) (h1 : RMIn X y) (h2 : EvsIn X z.aK z.K) => rMerge22_any y z.aK z.cK z.K X _ HGr.out.1 (by rw [evsOf_length]; have := hKz.2; omega) h1 h2 hKz.1)
   have HIs := Lib.hid (fun (q : RMIt) (hq : q.rm = joinR y.rm z.rm) => And.intro (isEnd (m := m) (b := b) (y := q) hGs.inv (by rw [hq]; exact hJ1) (by have := hGs.ctx; omega) (by have := hGs.dead; omega) hGs.small) (isEnd (m := n) (b := bn) (y := q) hGt.inv (by rw [hq]; exact hJ2) (by have := hGt.ctx; omega) (by have := hGt.dead; omega) hGt.small))
   obtain ⟨c0, c1, c2⟩ := hrb.cells
   obtain ⟨d0, d1, d2⟩ := hsb.cells
   have hze := hzb.kept
   clear hDa hEa hfb hftb hkb hMa hMb hpy hpz hyk hzk hyx hzx hlen hcons hJ1 hJ2 hGs hGt hKz hds hfs hdl hfl hsd htd hsk htk hsc htc hpure hrb hsb hxl hyl hcut9 HG1 HG2
   go_upto_region 12 with (first
    | (go_at_call 50; (with_reducible refine (HRm.out _ hyb hze).mono ?_); rintro x wc ⟨q, k3, f3, rfl, hq, hqf, hbc⟩)
    | (refine wpList_store_new 31 _ _ _ (rmRow q) rfl rfl (by kernel_rfl) rfl (by kernel_rfl) ?_))
   have hbC := (Below.refl wc.heap.size wc).alloc (Nat.le_refl _) (.cells (rmRow q) 31)
   have hCt : RMAt (wc.alloc (.cells (rmRow q) 31)) wc.heap.size q := heap_last0 _ _
   obtain ⟨Wc, hWe⟩ : ∃ Wc, Wc = wc.alloc (.cells (rmRow q) 31) := ⟨_, rfl⟩
   rw [← hWe] at hbC hCt ⊢
   have hmc := (hmb.kept_w hbc).kept_w hbC
   have hnc := (hnb.kept_w hbc).kept_w hbC
   have hqc := hq.keep hbC
   have HBc := Lib.hid ((hbb.trans (hbc.mono hbb.size)).trans (hbC.mono (Nat.le_trans hbb.size hbc.size)))
   have hqj : q.rm = joinR y.rm z.rm := by
    have h1 := congrArg Prod.fst hqf
    rw [mgStep_fst] at h1
    exact h1.symm
   have HI := Lib.hid (HIs.out q hqj)
   clear hWe hq hqf hqj hbc hbC hmb hnb hyb hzb hbb c0 c1 c2 d0 d1 d2 hze HRm HIs
   generalize wc.heap.size = Bc at *
   obtain ⟨c0, c1, c2⟩ := hCt.cells
   go_wp2_with (first
    | (go_at_call 25; (with_reducible refine (isMap_any HI.out.1 _ hmc hqc).mono ?_); rintro x wd ⟨rfl, hbd⟩; have hnd := hnc.kept_w hbd; have hqd := hqc.keep hbd; replace c0 := kept hbd c0; replace c1 := kept hbd c1; replace c2 := kept hbd c2)
    | (go_at_call 25; (with_reducible refine (isMap_any HI.out.2 _ hnd hqd).mono ?_); rintro x we ⟨rfl, hbe⟩)
    | (go_at_call 45; (with_reducible refine (HA.out _).mono ?_); rintro x wf ⟨rfl, hbf⟩))
   go_ret
   exact ⟨rfl, ((HBc.out.trans (hbd.mono HBc.out.size)).trans (hbe.mono (Nat.le_trans HBc.out.size hbd.size))).trans (hbf.mono (Nat.le_trans (Nat.le_trans HBc.out.size hbd.size) hbe.size))⟩
end Go.Proofs.YtpbobhfnglikmaaGreat
/- An array of three bytes that came in as an argument, out of its reading. Conditions: none. -/
namespace Go.Proofs.YtpbobhfnglikmaaGreat
open Go.ChangeShapes Go.WideShapes Go.ChangeAt Go.RowKit
section
variable {H : Type} {enc : TypeId × Value → H} {w : World} {spare : Nat → Bool} {held : Bool}
theorem arg_arr3 {r : Reach} {b0 : Nat} {v : Value} {d : DataW H} {p : List MemPlace} (hv : Value.okWide Tryz.prog w r b0 78 v) (h : DataW.Trod enc Tryz.prog w 0 spare held 78 v d p) :
 ∃ c0 c1 c2 : UInt8, v = .agg #[.int .u8 c0.toNat, .int .u8 c1.toNat, .int .u8 c2.toNat] := by
 have hs : ∃ cs, v = .agg cs ∧ cs.size = Tryz.prog.cellsOf 78 := by
  simp only [Value.okWide, Tryz.underlying78] at hv
  obtain ⟨cs, h1, h2, _⟩ := hv
  exact ⟨cs, h1, h2⟩
 obtain ⟨⟨cs⟩, rfl, hsz⟩ := hs
 have hc : Tryz.prog.cellsOf 78 = 3 := by kernel_rfl
 rw [hc] at hsz
 obtain ⟨fuel, hf⟩ := h
 match cs, hsz with
 | [c0, c1, c2], _ =>
   simp only [Value.cells] at hf
   obtain ⟨y0, y1, y2, n, _, h0, h1, h2⟩ := trod_array3 Tryz.underlying78 (by kernel_rfl) hf
   have key : ∀ (m : Nat) (c : Value) (y : DataW H × List MemPlace), DataW.trod enc Tryz.prog w 0 spare held m 5 [c] = some y → ∃ q : UInt8, c = .int .u8 q.toNat := fun m c y hy => by
    obtain ⟨x0, e0, _, w0⟩ := DataW.trod_int Tryz.underlying5 hy
    simp only [List.cons.injEq, and_true] at e0
    subst e0
    have hb := bounds_u8 w0
    exact ⟨UInt8.ofNat x0.toNat, by rw [UInt8.toNat_ofNat']; congr 1; omega⟩
   obtain ⟨q0, rfl⟩ := key _ _ _ h0
   obtain ⟨q1, rfl⟩ := key _ _ _ h1
   obtain ⟨q2, rfl⟩ := key _ _ _ h2
   exact ⟨q0, q1, q2, rfl⟩
end
end Go.Proofs.YtpbobhfnglikmaaGreat
