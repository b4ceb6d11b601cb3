/- The index: a tree gone over. Conditions: as in the text. -/
import Derived.Test.YtkklcpmbgfgcmaaGreatIxL
import Derived.Test.YtkklcpmbgfgcmaaGreatIxIter
import Derived.Sort.KeysCollected
set_option linter.unusedSimpArgs false
set_option linter.unusedVariables false
set_option linter.unnecessarySimpa false
namespace Go.Proofs.YtkklcpmbgfgcmaaGreat
open Go.RowKit Go.Maps Go.Sort Go.Shelf
variable {lo : Nat}
theorem klit_str {s : ByteArray} (hs : s.size ≤ maxLen) : klit Tryz.prog 9 (.string s) = .string (bl s) := by
 unfold klit
 rw [Go.WideMaps.keyOf_string_mk Tryz.underlying9 hs]
 rfl
/-- the labels below a node, in order -/
theorem kids_keys {w : World} {x : Nat} {n : Int} {B : Nat} {T : Tree} (h : TrIn lo w x n B T) {p : Path} {nd : Nd} (hp : T p = some nd) {m : Nat} (hm : nd.mb = some m) :
 ∃ (k : Nat) (D : DataW Value), w.ownsMap Tryz.prog 9 rawR m k D ∧ Maps.size D ≤ B ∧ ∀ ss : List (List UInt8), ss.Perm (strKeys D) → ss.Nodup ∧ ss.length ≤ B ∧ ∀ s, s ∈ ss ↔ (T (p ++ [s])).isSome = true := by
 obtain ⟨t, ⟨D, h1, h2⟩, h3, h4, h5⟩ := (h.nodes p nd hp).tab m hm
 have hper : (t.map fun q => bl q.1).Perm (strKeys D) := by
  refine Collected.perm (left := fun _ => false) ⟨?_, fun s => ?_⟩ h1 slaw Tryz.underlying9 (fun _ => rfl)
  ·exact List.pairwise_map.2 (h2.apart.imp fun {a b} hne e => hne (bl_inj e))
  ·rw [h2.has, List.any_eq_true, List.mem_map]
   simp only [and_true]
   constructor
   ·rintro ⟨q, hq, rfl⟩
    exact ⟨q, hq, by rw [klit_str (h2.okk q hq)]; simp [Lit.sameKey]⟩
   ·rintro ⟨q, hq, e⟩
    rw [klit_str (h2.okk q hq)] at e
    exact ⟨q, hq, by have := WideAt.sameKey_eq e; simpa using this⟩
 refine ⟨t.length, D, h1, by rw [h2.size]; exact h3, fun ss hss => ?_⟩
 have hp2 := hss.trans hper.symm
 refine ⟨hp2.nodup_iff.2 (List.pairwise_map.2 (h2.apart.imp fun {a b} hne e => hne (bl_inj e))), by rw [hp2.length_eq, List.length_map]; exact h3, fun s => ?_⟩
 rw [hp2.mem_iff, List.mem_map]
 constructor
 ·rintro ⟨q, hq, rfl⟩
  obtain ⟨c, hc, _⟩ := h4 q hq
  rw [hc]; rfl
 ·intro hs
  obtain ⟨c, hc⟩ := Option.isSome_iff_exists.1 hs
  exact ⟨_, h5 s c hc, rfl⟩
def RetKeys (B : Nat) (T : Tree) (p : Path) (w : World) (e : Ending) (w' : World) : Prop :=
 ∃ (v : Value) (ks : List Bytes), e = .returned v ∧ ks.Nodup ∧ ks.length ≤ B ∧ (∀ s, s ∈ ks ↔ (T (p ++ [s])).isSome = true) ∧ w'.ownsRow w.heap.size 9 1 v ks.length (strVals ks) ∧ Below w.heap.size w w'
theorem sortedKids {w : World} {x : Nat} {n : Int} {B : Nat} {T : Tree} (h : TrIn lo w x n B T) (hB : B ≤ 1073741824) {p : Path} {nd : Nd} (hp : T p = some nd) :
 Calls Tryz.prog 45 #[.func (.func 62) #[] #[.pointer (some ⟨w.heap.size, 0, none⟩)]] (w.alloc (Obj.cells #[.map nd.mb] 45)) (RetKeys B T p w) := by
 have hb : Below w.heap.size w (w.alloc (Obj.cells #[.map nd.mb] 45)) := (Below.refl _ _).alloc (Nat.le_refl _) _
 have hst : ∀ (ss : List (List UInt8)), ((ss.mergeSort (fun x y => decide (x ≤ y))).map encStr) = strVals (ss.mergeSort (fun x y => decide (x ≤ y))) := fun ss => (strVals_enc _).symm
 have hln : ∀ (ss : List (List UInt8)), (ss.mergeSort (fun x y => decide (x ≤ y))).length = ss.length := fun ss => (List.mergeSort_perm ss _).length_eq
 cases hm : nd.mb with
 | none =>
   rw [hm] at hb
   refine ((callsIn_wide (n := 5)).1 (Tryz.slices_Sorted_keys_nil_45_46 w)).mono ?_
   rintro e w' ⟨v, ss, rfl, rfl, hrow, _, hbb⟩
   refine ⟨v, [], rfl, List.nodup_nil, Nat.zero_le _, fun s => ?_, ?_, hb.trans (hbb.mono hb.size)⟩
   ·rw [(h.nodes p nd hp).no hm s]; simp
   ·have := own_low hrow hb.size
    simpa [strVals] using this
 | some m =>
   rw [hm] at hb
   obtain ⟨k, D, h1, h2, h3⟩ := kids_keys h hp hm
   refine ((callsIn_wide (n := 5)).1 (Tryz.slices_Sorted_keys_45_46 m k D rawR w h1 (by unfold maxLen; omega) (by omega))).mono ?_
   rintro e w' ⟨v, ss, rfl, hss, hrow, _, hbb⟩
   obtain ⟨g1, g3, g2⟩ := h3 ss hss
   have hp2 := List.mergeSort_perm ss (fun x y => decide (x ≤ y))
   refine ⟨v, ss.mergeSort (fun x y => decide (x ≤ y)), rfl, hp2.nodup_iff.2 g1, by rw [hln]; exact g3, fun s => by rw [hp2.mem_iff]; exact g2 s, ?_, hb.trans (hbb.mono hb.size)⟩
   rw [hst] at hrow
   rw [hln]
   exact own_low hrow hb.size
theorem TrIn.lab_le {w : World} {x : Nat} {n : Int} {B : Nat} {T : Tree} (h : TrIn lo w x n B T) {p : Path} {nd c : Nd} {s : Bytes} (hp : T p = some nd) (hc : T (p ++ [s]) = some c) : s.length ≤ maxLen := by
 have g := h.nodes p nd hp
 cases hm : nd.mb with
 | none => rw [g.no hm s] at hc; cases hc
 | some m =>
   obtain ⟨t, g1, _, _, g4⟩ := g.tab m hm
   exact g1.okk _ (g4 s c hc)
/-- blocks of texts stay -/
def KeepS (w w' : World) : Prop := w.heap.size ≤ w'.heap.size ∧ ∀ (k : Nat) (cs : Array Value) (f : Nat × Nat), w.heap[k]? = some (.cells cs 9 f) → w'.heap[k]? = w.heap[k]?
theorem KeepS.refl (w : World) : KeepS w w := ⟨Nat.le_refl _, fun _ _ _ _ => rfl⟩
theorem KeepS.trans {a b c : World} (h : KeepS a b) (k : KeepS b c) : KeepS a c :=
 ⟨Nat.le_trans h.1 k.1, fun i cs f hi => (k.2 i cs f ((h.2 i cs f hi).trans hi)).trans (h.2 i cs f hi)⟩
theorem KeepS.of_below {a b : World} (h : Below a.heap.size a b) : KeepS a b := ⟨h.size, fun k _ _ hk => h.block k (Array.getElem?_eq_some_iff.1 hk).1⟩
theorem StrsIn.keepS {w w' : World} {a : Option Addr} {l : List Bytes} (h : StrsIn w a l) (hk : KeepS w w') : StrsIn w' a l := by
 rcases h with h | ⟨A, off, h1, h2, cs, f, h3⟩
 ·exact Or.inl h
 ·have hb := hk.2 A cs f h3
  exact Or.inr ⟨A, off, h1, fun j v hv => (World.cell?_of_block (w := w) hb).trans (h2 j v hv), cs, f, hb.trans h3⟩
/-- the visited so far: none of them strictly below p -/
structure Seen (T : Tree) (p : Path) (vs : List Path) : Prop where
 nd : vs.Nodup
 sm : ∀ q ∈ vs, (T q).isSome = true
 top : ∀ q ∈ vs, p <+: q → q = p
def RetWalk (T : Tree) (p : Path) (Inv : List Path → World → Prop) (vs : List Path) (w : World) (e : Ending) (w' : World) : Prop :=
 ∃ us, e = .returned (.tuple #[]) ∧ Inv (vs ++ us) w' ∧ KeepS w w' ∧ us.Nodup ∧ ∀ q, q ∈ us ↔ (p <+: q ∧ q ≠ p ∧ (T q).isSome = true)
/-- the visited, child after child -/
def Vis (T : Tree) (p : Path) (ks : List Bytes) (us : List Path) : Prop := us.Nodup ∧ ∀ q, q ∈ us ↔ ((∃ s ∈ ks, p ++ [s] <+: q) ∧ (T q).isSome = true)
theorem Vis.start (T : Tree) (p : Path) : Vis T p [] [] := ⟨List.nodup_nil, fun q => by simp⟩
theorem Vis.next {T : Tree} {p : Path} {ks : List Bytes} {us us' : List Path} {s : Bytes} {c : Nd} (h : Vis T p ks us) (hs : s ∉ ks) (hc : T (p ++ [s]) = some c) (h1 : us'.Nodup) (h2 : ∀ q, q ∈ us' ↔ (p ++ [s] <+: q ∧ q ≠ p ++ [s] ∧ (T q).isSome = true)) :
 Vis T p (ks ++ [s]) ((us ++ [p ++ [s]]) ++ us') := by
 have hdis : ∀ q ∈ us, ¬ p ++ [s] <+: q := fun q hq hp => by
  obtain ⟨⟨s', hs', hp'⟩, _⟩ := (h.2 q).1 hq
  have : p ++ [s'] <+: p ++ [s] := List.prefix_of_prefix_length_le hp' hp (by simp)
  have e := this.eq_of_length (by simp)
  rw [(snoc_inj e).2] at hs'
  exact hs hs'
 refine ⟨?_, fun q => ?_⟩
 ·rw [List.append_assoc]
  refine List.nodup_append.2 ⟨h.1, ?_, fun a ha b hb e => ?_⟩
  ·refine List.nodup_append.2 ⟨by simp, h1, fun a ha b hb e => ?_⟩
   rw [List.mem_singleton.1 ha] at e
   exact ((h2 b).1 hb).2.1 e.symm
  ·subst e
   rcases List.mem_append.1 hb with hb | hb
   ·exact hdis a ha (by rw [List.mem_singleton.1 hb]; exact List.prefix_refl _)
   ·exact hdis a ha ((h2 a).1 hb).1
 ·rw [List.mem_append, List.mem_append, List.mem_singleton, h.2 q, h2 q]
  constructor
  ·rintro ((⟨⟨s', hs', hp⟩, hi⟩ | rfl) | ⟨hp, _, hi⟩)
   ·exact ⟨⟨s', List.mem_append_left _ hs', hp⟩, hi⟩
   ·exact ⟨⟨s, by simp, List.prefix_refl _⟩, by rw [hc]; rfl⟩
   ·exact ⟨⟨s, by simp, hp⟩, hi⟩
  ·rintro ⟨⟨s', hs', hp⟩, hi⟩
   rcases List.mem_append.1 hs' with hs' | hs'
   ·exact Or.inl (Or.inl ⟨⟨s', hs', hp⟩, hi⟩)
   ·rw [List.mem_singleton.1 hs'] at hp
    by_cases e : q = p ++ [s]
    ·exact Or.inl (Or.inr e)
    ·exact Or.inr ⟨hp, e, hi⟩
theorem Seen.next {T : Tree} {p : Path} {vs us : List Path} {ks : List Bytes} {s : Bytes} {c : Nd} (h : Seen T p vs) (hv : Vis T p ks us) (hs : s ∉ ks) (hc : T (p ++ [s]) = some c) : Seen T (p ++ [s]) ((vs ++ us) ++ [p ++ [s]]) := by
 have hdis : ∀ q ∈ us, ¬ p ++ [s] <+: q := fun q hq hp => by
  obtain ⟨⟨s', hs', hp'⟩, _⟩ := (hv.2 q).1 hq
  have : p ++ [s'] <+: p ++ [s] := List.prefix_of_prefix_length_le hp' hp (by simp)
  have e := this.eq_of_length (by simp)
  rw [(snoc_inj e).2] at hs'
  exact hs hs'
 have hvs : ∀ q ∈ vs, ¬ p ++ [s] <+: q := fun q hq hp => by
  have e := h.top q hq ((List.prefix_append _ _).trans hp)
  rw [e] at hp
  have := hp.length_le
  rw [List.length_append] at this
  simp only [List.length_cons, List.length_nil] at this
  omega
 refine ⟨?_, fun q hq => ?_, fun q hq hp => ?_⟩
 ·refine List.nodup_append.2 ⟨List.nodup_append.2 ⟨h.nd, hv.1, fun a ha b hb e => ?_⟩, by simp, fun a ha b hb e => ?_⟩
  ·subst e
   obtain ⟨⟨s', _, hp'⟩, _⟩ := (hv.2 a).1 hb
   have e := h.top a ha ((List.prefix_append _ _).trans hp')
   rw [e] at hp'
   have := hp'.length_le
   rw [List.length_append] at this
   simp only [List.length_cons, List.length_nil] at this
   omega
  ·rw [List.mem_singleton.1 hb] at e
   subst e
   rcases List.mem_append.1 ha with ha | ha
   ·exact hvs _ ha (List.prefix_refl _)
   ·exact hdis _ ha (List.prefix_refl _)
 ·rcases List.mem_append.1 hq with hq | hq
  ·rcases List.mem_append.1 hq with hq | hq
   ·exact h.sm q hq
   ·exact ((hv.2 q).1 hq).2
  ·rw [List.mem_singleton.1 hq, hc]; rfl
 ·rcases List.mem_append.1 hq with hq | hq
  ·rcases List.mem_append.1 hq with hq | hq
   ·exact absurd hp (hvs q hq)
   ·exact absurd hp (hdis q hq)
  ·exact List.mem_singleton.1 hq
set_option maxRecDepth 100000 in
set_option maxHeartbeats 2000000 in
theorem walk_any {x : Nat} {n : Int} {B : Nat} {T : Tree} (hB : B ≤ 1073741824) (N : Nat) (hN : ∀ q, (T q).isSome = true → q.length ≤ N) (g : Nat) (eg : ∀ args w, (callFunc g args).run Tryz.prog w = .ok (.enter g args) w) (O : Nat) (Inv : List Path → World → Prop)
 (hTr : ∀ vs X, Inv vs X → TrIn lo X x n B T) (hk : ∀ vs X Y, Inv vs X → Below X.heap.size X Y → Inv vs Y) (hdo : ∀ vs q c X, T q = some c → (vs ++ [q]).Nodup → (∀ r ∈ vs ++ [q], (T r).isSome = true) → Inv vs X → Calls Tryz.prog g #[ndVal c.b, .pointer (some ⟨O, 0, none⟩)] X fun e w' => e = .returned (.tuple #[]) ∧ Inv (vs ++ [q]) w' ∧ KeepS X w') :
 ∀ m p nd vs X, N - p.length ≤ m → T p = some nd → Seen T p vs → Inv vs X → Calls Tryz.prog 26 #[ndVal nd.b, .func (.func g) #[] #[.pointer (some ⟨O, 0, none⟩)]] X (RetWalk T p Inv vs X) := by
 intro m
 induction m using Nat.strongRecOn with
 | ind m ih =>
   intro p nd vs X hm hp hseen hI
   have HSE := Lib.hid hseen
   clear hseen
   have hTX := hTr vs X hI
   have hbel := (hTX.nodes _ _ hp).bel
   have HKY := Lib.hid ((callsIn_wide (n := 5)).1 (Tryz.maps_Keys_46 nd.mb X))
   have HSO := Lib.hid (sortedKids hTX hB hp)
   have HI := Lib.hid hI
   have HP := Lib.hid hp
   have HM := Lib.hid hm
   clear hI hp hTX hm
   go_enter Tryz.func26, Tryz.ntmps26
   go_upto_region 1 with (first
    | (go_at_call 46; (refine HKY.out.mono ?_); rintro e w1 ⟨rfl, rfl⟩)
    | (go_at_call 45; (refine HSO.out.mono ?_); rintro e w2 ⟨v, ks, rfl, hnd, hkl, hmem, hown, hb2⟩; obtain ⟨a, cap, rfl, hst, hcap⟩ := strs_own hown; have HND := Lib.hid hnd; have HMEM := Lib.hid hmem; have HB2 := Lib.hid hb2; clear hown hnd hmem hb2))
   go_loopw [13] (fun i wr => ∃ (j : Nat) (us : List Path), i = .int .i64 j ∧ j ≤ ks.length ∧ Inv (vs ++ us) wr ∧ Vis T p (ks.take j) us ∧ KeepS w2 wr) (fun i _ => ks.length - (intOf i).toNat)
   case atStart => exact ⟨0, [], rfl, Nat.zero_le _, by rw [List.append_nil]; exact hk vs X w2 HI.out HB2.out, by rw [List.take_zero]; exact Vis.start T p, KeepS.refl _⟩
   case round =>
    obtain ⟨j, us, rfl, hj, hIr, hvis, hks⟩ := hrel
    have HKS : Hid (KeepS X wr) := Lib.hid ((KeepS.of_below HB2.out).trans hks)
    by_cases hlt : j < ks.length
    ·obtain ⟨A, off, rfl, hc⟩ := (hst.keepS hks).at hlt
     obtain ⟨c, hT⟩ := Option.isSome_iff_exists.1 ((HMEM.out ks[j]).1 (List.getElem_mem hlt))
     have hTr1 := hTr _ wr hIr
     have hle := hTr1.lab_le HP.out hT
     have hbel1 := (hTr1.nodes _ _ HP.out).bel
     have hlook1 := hTr1.look HP.out (mkS ks[j]) hle
     rw [show kidVal T p (bl (mkS ks[j])) = ndVal c.b by unfold kidVal; rw [show bl (mkS ks[j]) = ks[j] from rfl, hT]] at hlook1
     have HTK : Hid (ks.take (j + 1) = ks.take j ++ [ks[j]]) := Lib.hid (List.take_succ_eq_append_getElem hlt)
     have HNI : Hid (ks[j] ∉ ks.take j) := Lib.hid fun hmem => by
         obtain ⟨i, hi, e⟩ := List.mem_take_iff_getElem.1 hmem
         exact List.pairwise_iff_getElem.1 HND.out i j (by omega) hlt (by omega) e
     have hsn := HSE.out.next hvis HNI.out hT
     have hdo1 := Lib.hid (hdo (vs ++ us) _ c wr hT hsn.nd hsn.sm hIr)
     have HIH := Lib.hid (fun (Y : World) (hY : Inv ((vs ++ us) ++ [p ++ [ks[j]]]) Y) => ih (N - (p ++ [ks[j]]).length) (by
         have h5 := hN (p ++ [ks[j]]) (by rw [hT]; rfl)
         have h6 := HM.out
         simp only [List.length_append, List.length_cons, List.length_nil] at h5 ⊢
         omega) (p ++ [ks[j]]) c _ Y (Nat.le_refl _) hT hsn hY)
     have HT := Lib.hid hT
     have HLT := Lib.hid hlt
     have HV := Lib.hid hvis
     have HLE := Lib.hid hle
     have hkb : j ≤ 1073741824 := by omega
     clear hT hvis hle hTr1 hIr hsn
     generalize ks[j] = s at *
     clear hlt
     go_upto_region 4 with (go_at_fn g; refine hdo1.out.mono ?_; rintro e w4 ⟨rfl, hI4, hk4⟩)
     have hTr4 := hTr _ w4 hI4
     have hbel4 := (hTr4.nodes _ _ HP.out).bel
     have hlook4 := hTr4.look HP.out (mkS s) HLE.out
     rw [show kidVal T p (bl (mkS s)) = ndVal c.b by unfold kidVal; rw [show bl (mkS s) = s from rfl, HT.out]] at hlook4
     have HK4 := Lib.hid hk4
     have HREC := Lib.hid (HIH.out w4 hI4)
     clear hTr4 hk4 hI4 hbel1 hlook1 hc
     go_wp2_with (go_at_call 26; refine HREC.out.mono ?_; rintro e w5 ⟨us', rfl, hI5, hk5, hn5, hm5⟩)
     have HZ : Hid (Inv (vs ++ ((us ++ [p ++ [s]]) ++ us')) w5 ∧ Vis T p (ks.take (j + 1)) ((us ++ [p ++ [s]]) ++ us') ∧ KeepS w2 w5) := Lib.hid ⟨by
         have e1 : vs ++ ((us ++ [p ++ [s]]) ++ us') = ((vs ++ us) ++ [p ++ [s]]) ++ us' := by simp
         rw [e1]; exact hI5, by rw [HTK.out]; exact HV.out.next HNI.out HT.out hn5 hm5, (hks.trans HK4.out).trans hk5⟩
     clear hI5 hk5 hn5 hm5
     go_roundw
     case rel => exact ⟨j + 1, _, by go_num, HLT.out, HZ.out.1, HZ.out.2.1, HZ.out.2.2⟩
     case measure => have := HLT.out; simp [intOf]; omega
    ·obtain rfl : j = ks.length := by omega
     rw [List.take_length] at hvis
     have HV := Lib.hid hvis
     have HIr := Lib.hid hIr
     clear hvis hIr
     go_wp2
     go_end0
     refine ⟨us, rfl, HIr.out, HKS.out, HV.out.1, fun q => ?_⟩
     rw [HV.out.2 q]
     constructor
     ·rintro ⟨⟨s, hs, hp⟩, hi⟩
      refine ⟨(List.prefix_append _ _).trans hp, fun e => ?_, hi⟩
      have := hp.length_le
      rw [e, List.length_append] at this
      simp only [List.length_cons, List.length_nil] at this
      omega
     ·rintro ⟨hp, hne, hi⟩
      obtain ⟨s, hs⟩ := snoc_pre hp hne
      refine ⟨⟨s, (HMEM.out s).2 ?_, hs⟩, hi⟩
      have hTX := hTr vs X HI.out
      cases hT : T (p ++ [s]) with
      | some c => rfl
      | none => rw [hTX.none_of hs hT] at hi; cases hi
end Go.Proofs.YtkklcpmbgfgcmaaGreat
