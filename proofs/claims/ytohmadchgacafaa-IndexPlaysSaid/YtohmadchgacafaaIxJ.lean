/- The index: an item removed; an index made; how many items there are. Conditions: as in the text. -/
import Derived.Test.YtohmadchgacafaaIxI
set_option linter.unusedSimpArgs false
set_option linter.unusedVariables false
set_option linter.unnecessarySimpa false
namespace Go.Proofs.Ytohmadchgacafaa
open Go.RowKit
variable {lo : Nat}
def RetRm (lo : Nat) (x : Nat) (n : Int) (B : Nat) (T : Tree) (k : Key) (l : Path) (L : List It) (w : World) (e : Ending) (w' : World) : Prop :=
 ∃ T', e = .returned (.bool (getI L k).isSome) ∧ TrIn lo w' x (if (getI L k).isSome then n - 1 else n) B T' ∧ IxFr lo w w' ∧ ((getI L k).isSome = false → T' = T) ∧
   ((getI L k).isSome = true → ∀ q, (Falls (setA T.its l (woI L k)) [] l q → T'.its q = none) ∧ (¬ Falls (setA T.its l (woI L k)) [] l q → T'.its q = setA T.its l (woI L k) q))
theorem few_upd {T : Tree} (h : Few T) {l : Path} {nd : Nd} {its : List It} (hl : its.length ≤ 1073741823) : Few (T.upd l (some { nd with its := its })) :=
 ⟨fun p i hp => by
  unfold Tree.upd at hp
  split at hp
  ·cases hp; exact hl
  ·exact h.its p i hp⟩
set_option maxRecDepth 100000 in
set_option maxHeartbeats 2000000 in
theorem ixRemove_any {w : World} {x : Nat} {n : Int} {B : Nat} {T : Tree} (h : TrIn lo w x n B T) (hf : Few T) (k : Key) (hd : k.domain.size ≤ 1073741822) (hB : B ≤ 1073741824) (hn : 0 ≤ n ∧ n ≤ 1073741824) :
 Calls Try.prog 19 #[ndVal x, keyV k] w (RetRm lo x n B T k (labs k.domain) (itsOf T (labs k.domain)) w) := by
 obtain ⟨hl1, hl2⟩ := labs_max k.domain hd
 have HGT := Lib.hid (fun (X : World) (h : TrIn lo X x n B T) => ixGet_any h hf k hd)
 have HL := Lib.hid (fun (X : World) => labels_any k.domain X (by omega))
 have HD := Lib.hid (fun (X : World) (a : Option Addr) (cap : Nat) (h : TrIn lo X x n B T) (hin : StrsIn X a (labs k.domain)) => downNo_any h (labs k.domain) a cap hl1 hl2 hin)
 have HLL : Hid ((∀ s ∈ labs k.domain, s.length ≤ maxLen) ∧ (labs k.domain).length ≤ 1073741824) := Lib.hid ⟨hl1, hl2⟩
 have HIT : Hid (∀ z, getI (itsOf T (labs k.domain)) k = some z → ∃ nd, T (labs k.domain) = some nd ∧ nd.its = itsOf T (labs k.domain)) := Lib.hid fun z hz => by
  unfold itsOf at hz ⊢
  cases hT : T (labs k.domain) with
  | none => rw [hT] at hz; cases hz
  | some nd => exact ⟨nd, rfl, rfl⟩
 have HFW := Lib.hid hf
 generalize labs k.domain = l at *
 obtain ⟨L, hLe⟩ : ∃ L, L = itsOf T l := ⟨_, rfl⟩
 rw [← hLe] at HIT HGT ⊢
 have hwr : IntKind.i64.wrap (n - 1) = n - 1 := IntWalk.i64_in _ (by omega)
 clear hLe hl1 hl2 hf
 go_enter Try.func19, Try.ntmps19
 go_upto_region 1 with fail
 refine wp_name (fun W hW => ?_)
 have hb : Below w.heap.size w W := by rw [hW.out]; go_grown
 have hkb : W.heap[w.heap.size]? = some (.cells (keyCs k).toArray 34 (0, 0)) := by rw [hW.out]; exact heap_last0 w _
 have hk : W.rangeAt w.heap.size 0 (keyCs k) := by
  intro j v hv
  rw [Nat.zero_add]
  simp only [World.cell?, hkb]
  simpa using hv
 have hTW := h.kept hb
 have HFR0 : Hid (IxFr lo w W) := Lib.hid (IxFr.of_below hb)
 have hkn : ¬ IxB lo W w.heap.size := key_notIx hkb
 have hzl : w.heap.size < W.heap.size := (Array.getElem?_eq_some_iff.1 hkb).1
 clear hW h hb hkb
 go_upto_region 2 with (first
  | ((with_reducible refine wpList_load_to 34 _ w.heap.size 0 (keyCs k) (keyV k) rfl _ Try.underlying34 rfl (by kernel_rfl) hk ?_ rfl ?_); exact rfl)
  | (go_at_call 21; refine (HGT.out _ hTW).mono ?_; rintro e w2 ⟨rfl, hb2⟩)
  | (refine wpList_store_new 38 _ _ _ (itCells ((getI L k).getD it0)).toArray rfl rfl (by kernel_rfl) rfl (by kernel_rfl) ?_))
 refine wp_name (fun V hV => ?_)
 have hbV : Below W.heap.size W V := by rw [hV.out]; exact hb2.alloc hb2.size _
 have hkV := rangeAt_kept hk hbV
 have hTV := hTW.kept hbV
 have hknV : ¬ IxB lo V w.heap.size := ix_notIx (IxFr.of_below hbV) hzl hkn
 have HFRV : Hid (IxFr lo w V) := Lib.hid (HFR0.out.trans (IxFr.of_below hbV))
 have hzV : w.heap.size < V.heap.size := Nat.lt_of_lt_of_le hzl hbV.size
 clear hV hbV hk hTW hkn hzl hb2 HFR0
 cases hg : getI L k with
 | none =>
   have HG := Lib.hid hg
   have HTV := Lib.hid hTV
   clear hg
   go_wp2
   all_goals
    go_ret
    exact ⟨T, by rw [HG.out]; rfl, by rw [HG.out]; exact HTV.out, HFRV.out, fun _ => rfl, fun h => (by rw [HG.out] at h; cases h)⟩
 | some z =>
   obtain ⟨nd, hT, hits⟩ := HIT.out z hg
   have HG := Lib.hid hg
   have HT := Lib.hid hT
   have HIS := Lib.hid hits
   have HDV : Hid (downVal T l = ndVal nd.b) := by unfold Hid downVal; rw [hT]
   have k1 : V.cell? ⟨w.heap.size, 1, none⟩ = some (.string k.domain) := hkV 1 _ rfl
   clear hg hT hits HIT
   go_upto_region 5 with (go_at_call 26; refine (HL.out _).mono ?_; rintro e w3 ⟨v, rfl, hown, hb3⟩)
   obtain ⟨al, cl, rfl, hst, hcl⟩ := strs_own hown
   have hT3 := hTV.kept hb3
   have hk3 := rangeAt_kept hkV hb3
   have hkn3 : ¬ IxB lo w3 w.heap.size := ix_notIx (IxFr.of_below hb3) hzV hknV
   have HFR3 : Hid (IxFr lo w w3) := Lib.hid (HFRV.out.trans (IxFr.of_below hb3))
   have hz3 : w.heap.size < w3.heap.size := Nat.lt_of_lt_of_le hzV hb3.size
   have HCL := Lib.hid hcl
   clear hown hb3 hTV hkV hknV HFRV k1 hzV hcl
   go_upto_region 6 with (go_at_call 25; refine (HD.out _ al cl hT3 hst).mono ?_; rintro e w4 ⟨rfl, rfl⟩; rw [HDV.out])
   obtain ⟨a, cap, hc0, hcap, hin⟩ := (hT3.nodes _ _ HT.out).its
   rw [HIS.out] at hc0 hcap hin
   have hLL : L.length ≤ 1073741823 := by rw [← HIS.out]; exact HFW.out.its _ _ HT.out
   have HVW := Lib.hid (fun (X : World) (h : ItsIn X a L) => vWithout_any a cap L k X (by omega) h)
   have q0 : w3.drew.cell? ⟨nd.b, 0, none⟩ = some (.slice a L.length cap) := hc0
   have k0 : w3.drew.cell? ⟨w.heap.size, 0, none⟩ = some (.string k.name) := hk3 0 _ rfl
   have k1 : w3.drew.cell? ⟨w.heap.size, 1, none⟩ = some (.string k.domain) := hk3 1 _ rfl
   have k2 : w3.drew.cell? ⟨w.heap.size, 2, none⟩ = some (.string k.path) := hk3 2 _ rfl
   have hTD : TrIn lo w3.drew x n B T := hT3.kept (Below.refl _ _).drew
   have hinD : ItsIn w3.drew a L := hin
   have HST := Lib.hid hst
   have HFRD : Hid (IxFr lo w w3.drew) := Lib.hid (HFR3.out.trans (IxFr.of_below (Below.refl _ _).drew))
   clear hc0 hcap hin hT3 hk3 hkn3 hst hz3
   refine wp_region_noPanic ?_
   refine wp_region_late (fun W' => Below w3.drew.heap.size w3.drew W') [9] (by kernel_rfl) ?_
   have hHeld := Below.refl w3.drew.heap.size w3.drew
   refine wpAnyL_take (i := 0) (oi := ⟨some 25, _, _, _, _, _⟩) (v := ?_) rfl (by kernel_rfl) (by kernel_rfl) (by kernel_rfl) (by kernel_rfl) (by kernel_rfl) (fun _ _ _ h => h) (Or.inl ⟨by rfl, ?_⟩) (by assumption) ?_
   case refine_2 => (intro Xw hSw; have sq0 := kept hSw q0; have sk0 := kept hSw k0; have sk1 := kept hSw k1; have sk2 := kept hSw k2; go_simp; try with_reducible rfl)
   try simp only [pA, pB, pC, pD, pE]
   refine wpAnyL_take (i := 1) (oi := ⟨some 26, _, _, _, _, _⟩) (v := ?_) rfl (by kernel_rfl) (by kernel_rfl) (by kernel_rfl) (by kernel_rfl) (by kernel_rfl) (fun _ _ _ h => h) (Or.inl ⟨by rfl, ?_⟩) (by assumption) ?_
   case refine_2 => (intro Xw hSw; have sq0 := kept hSw q0; have sk0 := kept hSw k0; have sk1 := kept hSw k1; have sk2 := kept hSw k2; go_simp; try with_reducible rfl)
   try simp only [pA, pB, pC, pD, pE]
   refine wpAnyL_take (i := 2) (oi := ⟨some 27, _, _, _, _, _⟩) (v := ?_) rfl (by kernel_rfl) (by kernel_rfl) (by kernel_rfl) (by kernel_rfl) (by kernel_rfl) (fun _ _ _ h => h) (Or.inl ⟨by rfl, ?_⟩) (by assumption) ?_
   case refine_2 => (intro Xw hSw; have sq0 := kept hSw q0; have sk0 := kept hSw k0; have sk1 := kept hSw k1; have sk2 := kept hSw k2; go_simp; try with_reducible rfl)
   try simp only [pA, pB, pC, pD, pE]
   refine wpAnyL_take (i := 3) (oi := ⟨some 28, _, _, _, _, _⟩) (v := ?_) rfl (by kernel_rfl) (by kernel_rfl) (by kernel_rfl) (by kernel_rfl) (by kernel_rfl) (fun _ _ _ h => h) (Or.inl ⟨by rfl, ?_⟩) (by assumption) ?_
   case refine_2 => (intro Xw hSw; have sq0 := kept hSw q0; have sk0 := kept hSw k0; have sk1 := kept hSw k1; have sk2 := kept hSw k2; go_simp; try with_reducible rfl)
   try simp only [pA, pB, pC, pD, pE]
   refine wpAnyL_take (i := 4) (oi := ⟨some 29, _, _, _, _, _⟩) (v := ?_) rfl (by kernel_rfl) (by kernel_rfl) (by kernel_rfl) (by kernel_rfl) (by kernel_rfl) (fun _ _ _ h => h) (Or.inl ⟨by rfl, ?_⟩) (by assumption) ?_
   case refine_2 => (intro Xw hSw; have sq0 := kept hSw q0; have sk0 := kept hSw k0; have sk1 := kept hSw k1; have sk2 := kept hSw k2; go_simp; try with_reducible rfl)
   try simp only [pA, pB, pC, pD, pE]
   refine wpAnyL_take (i := 5) (oi := ⟨some 30, _, _, _, _, _⟩) (v := ?_) rfl (by kernel_rfl) (by kernel_rfl) (by kernel_rfl) (by kernel_rfl) (by kernel_rfl) (fun _ _ _ h => h) (Or.inl ⟨by rfl, ?_⟩) (by assumption) ?_
   case refine_2 => (intro Xw hSw; have sq0 := kept hSw q0; have sk0 := kept hSw k0; have sk1 := kept hSw k1; have sk2 := kept hSw k2; go_simp; try with_reducible rfl)
   try simp only [pA, pB, pC, pD, pE]
   refine wpAnyL_one (i := 6) (o := ⟨some 31, _, _, _, _, _⟩) (by kernel_rfl) rfl ?_
   intro K hK
   go_simp
   go_at_call 34
   (refine (HVW.out _ (hinD.kept hHeld)).mono ?_)
   rintro e w1 ⟨v, rfl, hown, hb1⟩
   go_simp
   have hNext := hHeld.trans (hb1.mono hHeld.size)
   refine hK.out _ _ (Or.inr hNext) ?_
   clear hK K hHeld
   have hHeld := hNext
   clear hNext
   try simp only [pA, pB, pC, pD, pE]
   refine wpAnyL_take (i := 7) (oi := ⟨some 32, _, _, _, _, _⟩) (v := ?_) rfl (by kernel_rfl) (by kernel_rfl) (by kernel_rfl) (by kernel_rfl) (by kernel_rfl) (fun _ _ _ h => h) (Or.inl ⟨by rfl, ?_⟩) (by assumption) ?_
   case refine_2 => (intro Xw hSw; have sq0 := kept hSw q0; have sk0 := kept hSw k0; have sk1 := kept hSw k1; have sk2 := kept hSw k2; go_simp; try with_reducible rfl)
   try simp only [pA, pB, pC, pD, pE]
   refine wpAnyL_take (i := 8) (oi := ⟨some 33, _, _, _, _, _⟩) (v := ?_) rfl (by kernel_rfl) (by kernel_rfl) (by kernel_rfl) (by kernel_rfl) (by kernel_rfl) (fun _ _ _ h => h) (Or.inl ⟨by rfl, ?_⟩) (by assumption) ?_
   case refine_2 => (intro Xw hSw; have sq0 := kept hSw q0; have sk0 := kept hSw k0; have sk1 := kept hSw k1; have sk2 := kept hSw k2; go_simp; try with_reducible rfl)
   try simp only [pA, pB, pC, pD, pE]
   obtain ⟨a3, c3, rfl, hin3, hcap3⟩ := own_cellsIn hown
   have htr3 := hTD.kept hHeld
   have p0 := kept hHeld q0
   have p1 := htr3.unfrozen HT.out 0
   have hSI := Lib.hid (htr3.setIts HT.out hcap3 hin3)
   have HFR5 : Hid (IxFr lo w w1 ∧ IxFr lo w3 w1) := Lib.hid ⟨HFRD.out.trans (IxFr.of_below hHeld), (IxFr.of_below (Below.refl _ _).drew).trans (IxFr.of_below hHeld)⟩
   clear hown hb1 hin3 htr3 hcap3
   refine wpAnyL_one (i := 9) (o := ⟨none, _, _, _, _, _⟩) (by kernel_rfl) rfl ?_
   intro K hK
   go_simp
   refine hK.out _ _ (Or.inl (by kernel_rfl)) ?_
   clear hK K
   try simp only [pA, pB, pC, pD, pE]
   refine wpAnyL_done (by kernel_rfl) ?_ _
   refine NoPanic.normal ?_
   clear hHeld q0 p0 p1 hinD hTD HVW k0 k1 k2
   obtain ⟨hSI1, hSI2⟩ := hSI.out
   have HITS : Hid ((T.upd l (some { nd with its := woI L k })).its = setA T.its l (woI L k)) := Lib.hid (upd_its _ _ _ _)
   have HFR6 : Hid (IxFr lo w (w1.setCell ⟨nd.b, 0, none⟩ (Value.slice a3 (woI L k).length c3)) ∧ StrsIn (w1.setCell ⟨nd.b, 0, none⟩ (Value.slice a3 (woI L k).length c3)) al l) := Lib.hid ⟨HFR5.out.1.trans hSI2, HST.out.ix (HFR5.out.2.trans hSI2)⟩
   obtain ⟨W4, hW4⟩ : ∃ W4, W4 = w1.setCell ⟨nd.b, 0, none⟩ (Value.slice a3 (woI L k).length c3) := ⟨_, rfl⟩
   rw [← hW4] at hSI1 hSI2 HFR6 ⊢
   obtain ⟨i0, i1⟩ := hSI1.idx_cell
   have HN := Lib.hid (hSI1.setN (n - 1))
   have hfew : Few (T.upd l (some { nd with its := woI L k })) := few_upd HFW.out (by
    have := List.length_filter_le (fun x : It => decide (x.key ≠ k)) L
    unfold woI
    omega)
   generalize T.upd l (some { nd with its := woI L k }) = T2 at *
   obtain ⟨r, hr, hrb⟩ := HN.out.1.top
   have HPR := Lib.hid (prune_any x (n - 1) B (by omega) l [] T2 r _ al cl HN.out.1 hfew hr (HFR6.out.2.ix HN.out.2) HCL.out HLL.out.1 HLL.out.2)
   rw [hrb, List.nil_append] at HPR
   clear hSI hSI1 hSI2 hW4 hfew hr hrb
   go_wp2_with (go_at_call 35; refine HPR.out.mono ?_; rintro e w9 ⟨T9, b9, rfl, hb9, htr9, hf9, hg9, hfr9⟩)
   all_goals
    go_ret
    refine ⟨T9, by rw [HG.out]; rfl, by rw [HG.out]; exact htr9, HFR6.out.1.trans (HN.out.2.trans hfr9), fun h => (by rw [HG.out] at h; cases h), fun _ q => ?_⟩
    rw [← HITS.out]
    exact ⟨fun hq => by unfold Tree.its; rw [hf9 q hq]; rfl, fun hq => by unfold Tree.its; rw [hg9 q hq]⟩
set_option maxHeartbeats 400000 in
theorem ixLen_any {w : World} {x : Nat} {n : Int} {B : Nat} {T : Tree} (h : TrIn lo w x n B T) : Calls Try.prog 22 #[ndVal x] w fun e w' => e = .returned (.int .i64 n) ∧ w = w' := by
 obtain ⟨i0, i1⟩ := h.idx_cell
 clear h
 go_enter Try.func22, Try.ntmps22
 go_wp2
 all_goals
  go_ret
  exact ⟨rfl, rfl⟩
end Go.Proofs.Ytohmadchgacafaa
