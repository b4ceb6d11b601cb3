/- The law OrmapTwice, walked. Conditions: none. -/
import Derived.Test.YtcijajjngmmbeaaGreatOwnM
set_option linter.unusedSimpArgs false
set_option linter.unusedVariables false
set_option linter.unnecessarySimpa false
namespace Go.Proofs.YtcijajjngmmbeaaGreat
open Go.RowKit

/-- the applied events, beside the map -/
structure DoneK (s : MS) (ds ls : List EvIt) : Prop where
  len : ds.length = s.K.length
  mem : ∀ x ∈ ds, x ∈ ls ∧ ∃ z ∈ s.K, z.1 = x.1
theorem DoneK.nil (ls : List EvIt) : DoneK MS.empty [] ls := ⟨rfl, fun x hx => (nomatch hx)⟩
theorem DoneK.ap {s s' : MS} {ds ls : List EvIt} {x : EvIt} (h : DoneK s ds ls) (hx : x ∈ ls) (ha : Applied s x.1 s') : DoneK s' (ds ++ [x]) ls := by
  obtain ⟨a, c, hk⟩ := ha.kept
  refine ⟨by rw [hk.length_eq, List.length_append, h.len]; rfl, fun z hz => ?_⟩
  rcases List.mem_append.1 hz with hz | hz
  · obtain ⟨h1, y, h2, h3⟩ := h.mem z hz
    exact ⟨h1, y, hk.mem_iff.2 (List.mem_cons_of_mem _ h2), h3⟩
  · simp only [List.mem_singleton] at hz
    subst hz
    exact ⟨hx, _, hk.mem_iff.2 List.mem_cons_self, rfl⟩

set_option maxRecDepth 100000 in
set_option maxHeartbeats 16000000 in
theorem lawTw_any (a : Option Addr) (ca : Nat) (ls : List EvIt) (w : World) (hE : EvsArg w a ls) :
    Calls Tryz.prog 8 #[.slice a ls.length ca] w fun x w' => x = .returned (.bool true) ∧ Below w.heap.size w w' := by
  obtain ⟨i0, hi, hz0, hz1, hz2⟩ := info_parts Tryz.infoEv
  have HL0 : ∀ X, EvsIn X a ls → Calls Tryz.prog 14 #[.slice a ls.length ca, .int .i64 40] X fun x w' => x = .returned (.bool (lightAll 40 (evsOf ls))) ∧ Below X.heap.size X w' := fun X h => LightAll_any a ca 40 ls X (by decide) hE.len h (fun x hx => ⟨(hE.each x hx).over, (hE.each x hx).name, (hE.each x hx).domain, (hE.each x hx).path, (hE.each x hx).value⟩)
  have HA := Lib.hid awake21_any
  have hEi := hE.evs
  clear hE
  cases hli : lightAll 40 (evsOf ls) with
  | false =>
    rw [hli] at HL0
    have HL := Lib.hid (HL0 w hEi)
    clear HL0 hli
    go_enter Tryz.func8, Tryz.ntmps8
    go_wp2_with (first
      | (go_at_call 14; (with_reducible refine HL.out.mono ?_); rintro x w1 ⟨rfl, hb1⟩)
      | (go_at_call 15; (with_reducible refine (HA.out _).mono ?_); rintro x w2 ⟨rfl, hb2⟩))
    go_ret
    exact ⟨rfl, hb1.trans (hb2.mono hb1.size)⟩
  | true =>
    obtain ⟨hls, hsl⟩ := light_evs hli
    rw [hli] at HL0
    have HL := Lib.hid (HL0 w hEi)
    clear HL0 hli
    have HN := Lib.hid (fun X => mNew_any X)
    have HFo := Lib.hid (fun (X : World) (hE : EvsIn X a ls) => rFold_any a ca ls X (by omega) hE hsl)
    have HSM := Lib.hid hsl
    go_enter Tryz.func8, Tryz.ntmps8
    go_upto_region 4 with (first
      | (go_at_call 14; (with_reducible refine HL.out.mono ?_); rintro x w9 ⟨rfl, hb9⟩)
      | (go_at_call 16; (with_reducible refine (HN.out _).mono ?_); rintro x w1 ⟨m, b, rfl, hm, hb1, hlo, hfo⟩))
    have hE9 := hEi.kept hb9
    clear HL HN hlo hEi
    go_upto_region 5 with fail
    refine wp_name (fun V hV => ?_)
    have hbM : Below w1.heap.size w1 V := by rw [hV.out]; exact (Below.refl _ _).alloc (Nat.le_refl _) _
    have hown0 : V.ownsRow w1.heap.size 42 19 (.slice (some ⟨w1.heap.size, 0, none⟩) 0 0) 0 [] := by rw [hV.out]; exact World.ownsRow_made _ _ _ (Nat.le_refl _) (by decide) rfl
    have hm0 := hm.kept_w hbM
    have hbV : Below w9.heap.size w9 V := hb1.trans (hbM.mono hb1.size)
    have hz19 := hb1.size
    have hzBD := hbM.size
    generalize w1.heap.size = BD at *
    clear hV hbM hm hb1
    go_wp2
    go_loopw [4, 5] (fun u i wr => ∃ (j : Nat) (s : MS) (n : Nat) (f : Int) (ds : List EvIt), i = .int .i64 j ∧ j ≤ ls.length ∧ MpIn wr m b s ∧ Merged MS.empty ((evsOf ls).take j) s n f ∧ (∀ z, foot b s.A z → w9.heap.size ≤ z) ∧ (∀ x ∈ s.K, TypD wr x.1 x.2.1) ∧ wr.ownsRow BD 42 19 u ds.length (evItCells ds) ∧ DoneK s ds ls ∧ BD ≤ wr.heap.size ∧ Below w9.heap.size w9 wr) (fun _ i _ => ls.length - (intOf i).toNat)
    case atStart => exact ⟨0, MS.empty, 0, 0, [], rfl, Nat.zero_le _, hm0, Merged.nil, hfo, fun x hx => (nomatch hx), hown0, DoneK.nil _, hzBD, hbV⟩
    case round =>
      obtain ⟨j, s, n, f, ds, rfl, hj, hmr, hM, hfr, hty, hown, hdk, hzB, hbr⟩ := hrel
      obtain ⟨u, hu⟩ : ∃ u, u = u4 := ⟨_, rfl⟩
      rw [← hu] at hown ⊢
      clear hu hm0 hfo hown0 hbV hzBD
      obtain ⟨hiv, g1, g2, g3⟩ := hM.facts MInv.empty
      rw [List.length_take, evsOf_length] at g1 g2 g3
      have hMe : MS.empty.ctx.length = 0 ∧ MS.empty.dead.length = 0 := ⟨rfl, rfl⟩
      have HM := Lib.hid hM
      by_cases hlt : j < ls.length
      · obtain ⟨A, off, rfl, hra, hda⟩ := hE9.at hlt
        have r9 := hra j hlt
        have hse := HSM.out _ (List.getElem_mem hlt)
        have HMEM : Hid (ls[j] ∈ ls) := List.getElem_mem hlt
        have HT : Hid ((evsOf ls).take (j + 1) = (evsOf ls).take j ++ [ls[j].1]) := by
          unfold Hid
          rw [List.take_add_one, List.getElem?_eq_getElem (by rw [evsOf_length]; exact hlt), evsOf_at hlt]
          rfl
        have HLT := Lib.hid hlt
        have hkl : j ≤ 40 := by omega
        have hdl : ds.length ≤ 2048 := by rw [hdk.len]; exact hiv.len
        generalize ls[j] = x at *
        obtain ⟨e, ax, cx⟩ := x
        simp only [itEv] at r9
        simp only at hda hse HT
        have r1 := rangeAt_kept r9 hbr
        have R9 := Lib.hid r9
        have hn0 : ax = none → e.over = [] := fun hn => by rcases hda with h | ⟨A, off, h3, _⟩; exact h; rw [hn] at h3; cases h3
        have hdr := hda.kept hbr
        cases hok : apOk s e with
        | true =>
          have HAp := Lib.hid (mApply_yes e ax cx wr hmr hiv hse hdr hn0 (by omega) (by omega) hty hok)
          have HB := Lib.hid (And.intro hbr (And.intro hfr (And.intro hown hdk)))
          clear hra hse hda hM hmr hfr hiv g1 g2 g3 hbr hn0 r9 hdr hty hown hdk
          go_upto_region 9 with (first
            | ((with_reducible refine wpList_load_evo _ A (off + j * 19) e ax cx r1 ?_ rfl ?_); exact rfl)
            | (go_at_call 17; (with_reducible refine HAp.out.mono ?_); rintro v w2 ⟨s2, rfl, hm2, hkc2, hf2, hft2, hap2, hty2⟩))
          have hB2 : Below w9.heap.size w9 w2 := HB.out.1.trans (hf2.below HB.out.1.size HB.out.2.1)
          have r2 := rangeAt_kept R9.out hB2
          have hown2 := own_keepC HB.out.2.2.1 hkc2
          have hzw2 := hB2.size
          have hzB2 : BD ≤ w2.heap.size := Nat.le_trans hzB hf2.size
          have HM2 : Hid (Merged MS.empty ((evsOf ls).take (j + 1)) s2 (n + 1) (if f = 0 then 0 else f)) := by
            unfold Hid
            rw [HT.out]
            have h9 := Merged.snoc HM.out (e := e) (s2 := s2) (by rw [hok, if_pos rfl]; exact hap2)
            rw [hok, if_pos rfl, apErr_yes hok] at h9
            exact h9
          have HD2 : Hid (DoneK s2 (ds ++ [(e, ax, cx)]) ls) := HB.out.2.2.2.ap HMEM.out hap2
          have HF2 : Hid (∀ z, foot b s2.A z → w9.heap.size ≤ z) := fun z hz => by
            rcases hft2 z hz with h3 | h3
            · exact HB.out.2.1 z h3
            · exact Nat.le_trans HB.out.1.size h3
          have HMT := Lib.hid (And.intro hm2 hty2)
          clear r1 hm2 hkc2 hf2 hft2 hap2 hty2 HAp hok
          go_wp2_with (first
            | ((with_reducible refine wpList_load_evo _ A (off + j * 19) e ax cx r2 ?_ rfl ?_); exact rfl)
            | (refine wpList_buildOne rfl 22 42 _ rfl (evCells e ax cx).toArray 19 rfl rfl (by decide) (by decide) Tryz.underlying22 (by kernel_rfl) (by kernel_rfl) ?_)
            | (at_builtin; go_loud (refine wpList_append_own_at _ rfl _ _ 22 rfl BD 42 i0 (.agg (evCells ev0 none 0).toArray) 19 176 Tryz.underlying22 hi hz0 hz1 hz2 rfl (by decide) _ _ _ rfl (hown2.alloc _) ⟨w2.heap.size, 0, none⟩ 1 1 (evCells e ax cx) rfl rfl (evs_new w2 e ax cx _) (evCells_one _ _ _) (by unfold maxLen; omega) (by omega) (by simp; omega) ?_)))
          intro v' wf hownf hgrow _ _
          have hal : Below w2.heap.size w2 (w2.alloc (Obj.cells (evCells e ax cx).toArray 42)) := (Below.refl _ _).alloc (Nat.le_refl _) _
          have hbF : Below w9.heap.size w9 wf := (hB2.trans (hal.mono hzw2)).grown hgrow (by have := hal.size; omega) (fun k9 hk9 => by have := (hown2.lt k9 hk9).1; omega)
          have hmf := mp_grown (HMT.out.1.kept_w hal) (fun x hx => (HMT.out.2 x hx).kept hal) (hown2.alloc _) hgrow
          have HZ := Lib.hid (And.intro hmf (And.intro (show wf.ownsRow BD 42 19 v' (ds ++ [(e, ax, cx)]).length (evItCells (ds ++ [(e, ax, cx)])) by rw [evItCells_snoc, List.length_append]; exact hownf) (And.intro (Nat.le_trans (Nat.le_trans hzB2 hal.size) hgrow.size) hbF)))
          clear hmf hownf hgrow hal hbF hown2 r2 hB2
          go_wp2
          go_roundw
          case rel => exact ⟨j + 1, s2, _, _, _, by go_num, HLT.out, HZ.out.1.1, HM2.out, HF2.out, HZ.out.1.2, HZ.out.2.1, HD2.out, HZ.out.2.2.1, HZ.out.2.2.2⟩
          case measure => have := HLT.out; simp [intOf] <;> omega
        | false =>
          have HAp := Lib.hid (mApply_not e ax cx wr hmr hiv hse hdr hn0 (by omega) (by omega) hok)
          have HB := Lib.hid (And.intro hbr (And.intro hfr (And.intro hown (And.intro hdk hty))))
          have HM2 : Hid (∃ f2, Merged MS.empty ((evsOf ls).take (j + 1)) s n f2) := by
            unfold Hid
            rw [HT.out]
            have h9 := Merged.snoc HM.out (e := e) (s2 := s) (by rw [hok, if_neg (by decide)])
            rw [hok, if_neg (by decide)] at h9
            exact ⟨_, h9⟩
          clear hra hse hda hM hmr hfr hiv g1 g2 g3 hbr hn0 r9 hdr hown hdk hty hok
          go_wp2_with (first
            | ((with_reducible refine wpList_load_evo _ A (off + j * 19) e ax cx r1 ?_ rfl ?_); exact rfl)
            | (go_at_call 17; (with_reducible refine HAp.out.mono ?_); rintro v w2 ⟨rfl, hm2, hkc2, hf2⟩))
          have HZ := Lib.hid (And.intro hm2 (And.intro hkc2 hf2))
          clear hm2 hkc2 hf2 r1 HAp
          go_roundw
          case rel =>
            obtain ⟨f2, hM2⟩ := HM2.out
            exact ⟨j + 1, s, n, f2, ds, by go_num, HLT.out, HZ.out.1, hM2, HB.out.2.1, fun x hx => (HB.out.2.2.2.2 x hx).keepC HZ.out.2.1, own_keepC HB.out.2.2.1 HZ.out.2.1, HB.out.2.2.2.1, Nat.le_trans hzB HZ.out.2.2.size, HB.out.1.trans (HZ.out.2.2.below HB.out.1.size HB.out.2.1)⟩
          case measure => have := HLT.out; simp [intOf] <;> omega
      · obtain rfl : j = ls.length := by omega
        have hM2 : Merged MS.empty (evsOf ls) s n f := by
          have := HM.out
          rwa [List.take_of_length_le (by rw [evsOf_length]; exact Nat.le_refl _)] at this
        have HFo1 := Lib.hid (HFo.out wr (hE9.kept hbr))
        obtain ⟨aD, cD, rfl, hED⟩ := evsIn_own hown (fun x hx => (hE9.dots x (hdk.mem x hx).1).kept hbr)
        have hdl : ds.length ≤ 2048 := by rw [hdk.len]; exact hiv.len
        have HM2 := Lib.hid hM2
        have HI := Lib.hid hiv
        have HDK := Lib.hid hdk
        clear hM hiv hM2 HM hown hdk hty HFo
        go_upto_region 12 with (first
          | (go_at_call 18; (with_reducible refine HFo1.out.mono ?_); rintro v w3 ⟨y, rfl, hIn, hy, hb3⟩)
          | (refine wpList_store_new 45 _ _ _ (rmRow y) rfl rfl (by kernel_rfl) rfl (by kernel_rfl) ?_))
        have hbA := (Below.refl w3.heap.size w3).alloc (Nat.le_refl _) (.cells (rmRow y) 45)
        have hAt : RMAt (w3.alloc (.cells (rmRow y) 45)) w3.heap.size y := heap_last0 _ _
        obtain ⟨W3, hW3⟩ : ∃ W3, W3 = w3.alloc (.cells (rmRow y) 45) := ⟨_, rfl⟩
        rw [← hW3] at hbA hAt ⊢
        have hb3A : Below wr.heap.size wr W3 := hb3.trans (hbA.mono hb3.size)
        have hrel := HM2.out.rel Rel.empty MInv.empty
        rw [← hy] at hrel
        have hEnd : IsEnd m b s y := isEnd HI.out hrel (by omega) (by omega) (HM2.out.small (fun x hx => (nomatch hx)) HSM.out)
        have HEn := Lib.hid hEnd
        have hyl : y.K.length = s.K.length := by
          have h9 : evsOf y.K = eventsOf s := hrel.kept
          rw [← evsOf_length, h9, eventsOf_len hrel.nd]
        have hlen : ((ds.length : Int) == (y.K.length : Int)) = true := beq_iff_eq.2 (by rw [HDK.out.len, hyl])
        have hm3 := hmr.kept_w hb3A
        have hI3 := hIn.keep hbA
        have hE3 := hED.kept hb3A
        have hB3 : Below w9.heap.size w9 W3 := hbr.trans (hb3A.mono hbr.size)
        generalize w3.heap.size = B9 at *
        clear hW3 hbA hb3 hrel hEnd hmr hIn hy hb3A hED hbr HFo1 g1 g2 g3 hyl hMe
        go_wp2
        go_loopw [9] (fun i wq => ∃ (k : Nat), i = .int .i64 k ∧ k ≤ ds.length ∧ MpIn wq m b s ∧ KeepsC W3 wq ∧ Below w9.heap.size w9 wq) (fun i _ => ds.length - (intOf i).toNat)
        case atStart => exact ⟨0, rfl, Nat.zero_le _, hm3, fun _ _ _ _ h => h, hB3⟩
        case round =>
          obtain ⟨k, rfl, hk, hmq, hkq, hbq⟩ := hrel
          clear hm3 hB3
          by_cases hlt : k < ds.length
          · obtain ⟨A, off, rfl, hra, hda⟩ := (hkq.evs hE3).at hlt
            have r1 := hra k hlt
            obtain ⟨hml, hmz⟩ := HDK.out.mem _ (List.getElem_mem hlt)
            have hse := HSM.out _ hml
            have HLT := Lib.hid hlt
            generalize ds[k] = x at *
            obtain ⟨e, ax, cx⟩ := x
            simp only [itEv] at r1
            simp only at hda hse hmz
            have hn0 : ax = none → e.over = [] := fun hn => by rcases hda with h | ⟨A, off, h3, _⟩; exact h; rw [hn] at h3; cases h3
            obtain ⟨z, hz, rfl⟩ := hmz
            obtain ⟨hz1', hz2'⟩ := HI.out.kept z hz
            obtain ⟨ho1, ho2⟩ := apOk_old hz1' hz2'
            have hAp0 := mApply_not z.1 ax cx wr hmq HI.out hse hda hn0 (by have := (HM2.out.facts MInv.empty).2.1; rw [evsOf_length] at this; have h0 : MS.empty.ctx.length = 0 := rfl; omega) (by have := (HM2.out.facts MInv.empty).2.2.1; rw [evsOf_length] at this; have h0 : MS.empty.dead.length = 0 := rfl; omega) ho1
            rw [ho2] at hAp0
            have HAp := Lib.hid hAp0
            have HB := Lib.hid (And.intro hbq hkq)
            obtain ⟨e, az, cz⟩ := z
            simp only at r1 HAp
            clear hra hse hda hml hz hmq hkq hbq hn0 ho1 ho2 hz1' hz2' hAp0
            go_wp2_with (first
              | ((with_reducible refine wpList_load_evo _ A (off + k * 19) e ax cx r1 ?_ rfl ?_); exact rfl)
              | (go_at_call 17; (with_reducible refine HAp.out.mono ?_); rintro v w2 ⟨rfl, hm2, hkc2, hf2⟩))
            have HZ := Lib.hid (And.intro hm2 (And.intro hkc2 hf2))
            clear hm2 hkc2 hf2 r1 HAp
            go_roundw
            case rel => exact ⟨k + 1, by go_num, HLT.out, HZ.out.1, HB.out.2.trans HZ.out.2.1, HB.out.1.trans (HZ.out.2.2.below HB.out.1.size hfr)⟩
            case measure => have := HLT.out; simp [intOf] <;> omega
          · obtain rfl : k = ds.length := by omega
            have hIq := hI3.keepC hkq
            have hAq := hAt.keepC hkq
            obtain ⟨c0, c1, c2⟩ := hAq.cells
            have HIs := Lib.hid (isMap_any HEn.out wr hmq hIq)
            have HB := Lib.hid ((show Below w.heap.size w w9 from hb9).trans (hbq.mono hb9.size))
            clear hIq hAq hmq hkq hE3 hI3 hAt
            go_wp2_with (first
              | (go_at_call 40; (with_reducible refine HIs.out.mono ?_); rintro x w6 ⟨rfl, hb6⟩; have c1' := kept hb6 c1)
              | (go_at_call 15; (with_reducible refine (HA.out _).mono ?_); rintro x w7 ⟨rfl, hb7⟩))
            go_ret
            exact ⟨rfl, (HB.out.trans (hb6.mono HB.out.size)).trans (hb7.mono (Nat.le_trans HB.out.size hb6.size))⟩
end Go.Proofs.YtcijajjngmmbeaaGreat
