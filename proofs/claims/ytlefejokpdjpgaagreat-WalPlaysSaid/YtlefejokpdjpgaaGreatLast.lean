/- The disk: Names: the files' names, in order. Conditions: at most 8 files, in order. -/
import Derived.Test.YtlefejokpdjpgaaGreatDiskP
import Derived.Test.YtlefejokpdjpgaaGreatDPlain
import Derived.Sort.KeysCollected
import Derived.Deep.RegionHeld
import Derived.Deep.RegionHeld3
set_option linter.unusedSimpArgs false
set_option linter.unusedVariables false
set_option linter.unnecessarySimpa false
set_option maxHeartbeats 16000000
set_option maxRecDepth 100000
namespace Go.Proofs.YtlefejokpdjpgaaGreat
open Go.RowKit Go.Maps Go.Sort
variable {F : Nat → Prop} {d : Nat} {S : DS} {b : Nat} {D : DataW Unit} {s : ByteArray} {w w' : World}
def nameVals (l : List DF) : List Value := l.map fun f => .string f.name
theorem getF_some_iff {l : List DF} {s : ByteArray} : (getF l s).isSome = true ↔ ∃ f ∈ l, f.name = s := by
 unfold getF
 rw [List.find?_isSome]
 simp
theorem names_perm (h : DkIn w F d S b D) (hs : Srt S.f) : (S.f.map fun f => bl f.name).Perm (strKeys D) := by
 refine Collected.perm (left := fun _ => false) ⟨?_, fun x => ?_⟩ h.own nlaw Tryz.underlying9 (fun _ => rfl)
 ·refine List.pairwise_map.2 (hs.imp fun {a b} hlt e => ?_)
  exact nameLt_ne hlt (bl_inj e)
 ·have hh := h.files.has (mkS x)
  rw [show nk (mkS x) = .string x from rfl] at hh
  rw [hh, getF_some_iff]
  simp only [and_true, List.mem_map]
  constructor
  ·rintro ⟨f, hf, rfl⟩; exact ⟨f, hf, (mkS_bl _).symm⟩
  ·rintro ⟨f, hf, e⟩; exact ⟨f, hf, by rw [e]; rfl⟩
theorem names_sorted (h : DkIn w F d S b D) (hs : Srt S.f) {ss : List (List UInt8)} (hp : ss.Perm (strKeys D)) : ss.mergeSort (fun x y => decide (x ≤ y)) = S.f.map fun f => bl f.name := by
 have e1 := mergeSort_of_perm (hp.trans (names_perm h hs).symm)
 refine e1.trans (List.mergeSort_of_pairwise ?_)
 refine List.pairwise_map.2 (hs.imp fun {a b} hlt => ?_)
 simp only [leB, decide_eq_true_eq]
 exact List.le_of_lt (nameLt_iff.1 hlt)
theorem Names_srt (h : DkIn w F d S b D) (hs : Srt S.f) (h8 : S.f.length ≤ 8) : Calls Tryz.prog 28 #[.pointer (some ⟨d, 0, none⟩)] w fun e w' => ∃ a cap, e = .returned (.slice a S.f.length cap) ∧ CellsIn w' a (nameVals S.f) ∧ Below w.heap.size w w' := by
 refine (Names_any h h8).mono ?_
 rintro e w' ⟨v, ss, rfl, hp, hrow, _, hb⟩
 rw [names_sorted h hs hp] at hrow
 have hlen : ss.length = S.f.length := by have := (hp.trans (names_perm h hs).symm).length_eq; rwa [List.length_map] at this
 have he : (S.f.map fun f => bl f.name).map encStr = nameVals S.f := by
  rw [List.map_map]
  refine List.map_congr_left fun f _ => ?_
  show encStr (bl f.name) = _
  unfold encStr
  rfl
 rw [he, hlen] at hrow
 obtain ⟨a, cap, rfl, hc, _⟩ := own_cellsIn hrow
 exact ⟨a, cap, rfl, hc, hb⟩
end Go.Proofs.YtlefejokpdjpgaaGreat
/- The disk: Crash: what is to be kept, as a map. Conditions: as in the text. -/
namespace Go.Proofs.YtlefejokpdjpgaaGreat
open Go.RowKit
variable {F : Nat → Prop} {d : Nat} {S : DS} {b : Nat} {D : DataW Unit} {s : ByteArray} {w w' : World}
abbrev kpCells (p : ByteArray × Int) : List Value := [.string p.1, .int .i64 p.2]
def kcs : Ks → List Value
 | [] => []
 | p :: l => kpCells p ++ kcs l
theorem kcs_length (l : Ks) : (kcs l).length = l.length * 2 := by
 induction l with
 | nil => rfl
 | cons g l ih => simp only [kcs, List.length_append, ih, List.length_cons, List.length_nil]; omega
theorem kcs_drop : ∀ (l : Ks) (k : Nat), (kcs l).drop (k * 2) = kcs (l.drop k)
 | l, 0 => by simp
 | [], k + 1 => by simp [kcs]
 | g :: l, k + 1 => by
   rw [show (k + 1) * 2 = k * 2 + 2 by omega, List.drop_succ_cons, ← kcs_drop l k]
   simp [kcs]
theorem kcs_at {w : World} {a : Option Addr} {ks : Ks} (h : CellsIn w a (kcs ks)) {k : Nat} (hk : k < ks.length) :
 ∃ A off, a = some ⟨A, off, none⟩ ∧ w.cell? ⟨A, off + k * 2, none⟩ = some (.string ks[k].1) ∧ w.cell? ⟨A, off + k * 2 + 1, none⟩ = some (.int .i64 ks[k].2) := by
 have hd : (kcs ks).drop (k * 2) = kpCells ks[k] ++ kcs (ks.drop (k + 1)) := by rw [kcs_drop, List.drop_eq_getElem_cons hk]; rfl
 rcases h with h | ⟨A, off, h1, h2⟩
 ·have := congrArg List.length h
  rw [kcs_length] at this
  simp at this
  omega
 ·refine ⟨A, off, h1, h2 (k * 2) _ ?_, ?_⟩
  ·have := congrArg (·[0]?) hd
   simpa using this
  ·have := h2 (k * 2 + 1) (.int .i64 ks[k].2) (by have := congrArg (·[1]?) hd; simpa using this)
   rwa [← Nat.add_assoc] at this
/-- cells that begin with a text stay, whatever turns where no text lies -/
theorem CellsIn.frS {T : Nat → Prop} {a : Option Addr} {cs : List Value} (h : CellsIn w a cs) (hf : Fr T w w') (hT : ∀ k, T k → NoStr w k) (h0 : cs = [] ∨ ∃ t, cs[0]? = some (.string t)) : CellsIn w' a cs := by
 rcases h with h | ⟨A, off, h1, h2⟩
 ·exact Or.inl h
 ·rcases h0 with h0 | ⟨t, h0⟩
  ·exact Or.inl h0
  ·exact Or.inr ⟨A, off, h1, fun j v hv => hf.kept (h2 j v hv) (fun hA => hT A hA _ _ (h2 0 _ h0))⟩
theorem kcs_head (ks : Ks) : kcs ks = [] ∨ ∃ t, (kcs ks)[0]? = some (.string t) := by
 cases ks with
 | nil => exact Or.inl rfl
 | cons p r => exact Or.inr ⟨p.1, rfl⟩
theorem nameVals_head (l : List DF) : nameVals l = [] ∨ ∃ t, (nameVals l)[0]? = some (.string t) := by
 cases l with
 | nil => exact Or.inl rfl
 | cons p r => exact Or.inr ⟨p.name, rfl⟩
theorem DkCells.noStr {w : World} {k b arm : Nat} {down : Bool} (h : DkCells w k b arm down) : NoStr w k := by
 intro o c e
 simp only [World.cell?, show w.heap[k]? = _ from h] at e
 match o, e with
 | 0, e => simp at e
 | 1, e => simp at e
 | 2, e => simp at e
 | o + 3, e => simp at e
theorem FileAt.noStr {w : World} {fb : Nat} {f : DF} (h : FileAt w fb f) : NoStr w fb := by
 obtain ⟨a, cap, h1, _⟩ := h
 intro o c e
 simp only [World.cell?, h1] at e
 match o, e with
 | 0, e => simp at e
 | 1, e => simp at e
 | o + 2, e => simp at e
/-- a map of numbers by names -/
abbrev KeepMap (w : World) (M n : Nat) (E : DataW Unit) : Prop := w.ownsMap Tryz.prog 9 (plainElem Tryz.prog 3) M n E
theorem KeepMap.keep {M n : Nat} {E : DataW Unit} (h : KeepMap w M n E) (hk : w'.heap[M]? = w.heap[M]?) : KeepMap w' M n E := by
 obtain ⟨es, cl, hb, r⟩ := h
 exact ⟨es, cl, hk.trans hb, r⟩
theorem KeepMap.lt {M n : Nat} {E : DataW Unit} (h : KeepMap w M n E) : M < w.heap.size := by
 obtain ⟨es, cl, hb, r⟩ := h
 exact (Array.getElem?_eq_some_iff.1 hb).1
/-- the map has the last number of each name -/
def KeepIs (E : DataW Unit) (ks : Ks) : Prop := ∀ s : ByteArray, E.atKey (nk s) (.lit (.int .i64 0)) = .lit (.int .i64 (keepOf ks s))
theorem KeepIs.put {E : DataW Unit} {ks : Ks} {k : Nat} (h : KeepIs E (ks.take k)) (hm : Maps.IsMap E) (hk : k < ks.length) : KeepIs (E.put (nk ks[k].1) (.lit (.int .i64 ks[k].2))) (ks.take (k + 1)) := by
 intro s
 rw [keepOf_snoc ks k hk]
 by_cases e : ks[k].1 = s
 ·rw [if_pos e, e, Maps.atKey_put_same hm (isKey_nk s)]
 ·rw [if_neg e, Maps.atKey_put_other (fun e2 => e (nk_inj e2).symm), h s]
theorem int_elem {n : Int} (h : (Lit.int .i64 n).wf = true) : plainElem (H := Unit) Tryz.prog 3 (.int .i64 n) = some (.lit (.int .i64 n), []) := plainElem_int Tryz.underlying3 h
theorem srt_eq {l : List DF} (hs : Srt l) {f g : DF} (hf : f ∈ l) (hg : g ∈ l) (hn : f.name = g.name) : f = g := by
 obtain ⟨i, hi, rfl⟩ := List.getElem_of_mem hf
 obtain ⟨j, hj, rfl⟩ := List.getElem_of_mem hg
 rcases Nat.lt_trichotomy i j with h | h | h
 ·exact absurd hn (nameLt_ne (List.pairwise_iff_getElem.1 hs i j hi hj h))
 ·subst h; rfl
 ·exact absurd hn.symm (nameLt_ne (List.pairwise_iff_getElem.1 hs j i hj hi h))
/-- so many files are behind a crash -/
def crashed (S : DS) (ks : Ks) (k : Nat) : DS := ⟨(S.f.take k).map (crashF ks) ++ S.f.drop k, 0, false⟩
theorem crashed_zero (S : DS) (ks : Ks) : crashed S ks 0 = ⟨S.f, 0, false⟩ := by simp [crashed]
theorem crashed_all (S : DS) (ks : Ks) : crashed S ks S.f.length = S.crash ks := by simp [crashed, DS.crash]
theorem crashed_names (S : DS) (ks : Ks) (k : Nat) : (crashed S ks k).f.map (·.name) = S.f.map (·.name) := by
 show ((S.f.take k).map (crashF ks) ++ S.f.drop k).map (·.name) = _
 rw [List.map_append, List.map_map]
 conv => rhs; rw [← List.take_append_drop k S.f, List.map_append]
 rfl
theorem crashed_at {S : DS} {ks : Ks} {k : Nat} (hs : Srt S.f) (h : k < S.f.length) : getF (crashed S ks k).f S.f[k].name = some S.f[k] := by
 have hsk : Srt (crashed S ks k).f := hs.names (crashed_names S ks k)
 have hmem : S.f[k] ∈ (crashed S ks k).f := List.mem_append_right _ (List.mem_drop_iff_getElem.2 ⟨0, by omega, by simp⟩)
 obtain ⟨f, hf⟩ := Option.isSome_iff_exists.1 (getF_some_iff.2 ⟨_, hmem, rfl⟩)
 have h1 := getF_mem hf
 have h2 := getF_name hf
 rw [hf]
 congr 1
 exact srt_eq hsk h1 hmem h2
theorem crashed_step {S : DS} {ks : Ks} {k : Nat} (hs : Srt S.f) (h : k < S.f.length) : setF (crashed S ks k).f (crashF ks S.f[k]) = (crashed S ks (k + 1)).f := by
 have hsk : Srt S.f := hs
 have hne : ∀ i (hi : i < S.f.length), i ≠ k → S.f[i].name ≠ S.f[k].name := fun i hi hik e => by
  rcases Nat.lt_or_gt_of_ne hik with h1 | h1
  ·exact nameLt_ne (List.pairwise_iff_getElem.1 hs i k hi h h1) e
  ·exact nameLt_ne (List.pairwise_iff_getElem.1 hs k i h hi h1) e.symm
 show setF ((S.f.take k).map (crashF ks) ++ S.f.drop k) _ = (S.f.take (k + 1)).map (crashF ks) ++ S.f.drop (k + 1)
 unfold setF
 rw [List.map_append, List.take_succ_eq_append_getElem h, List.map_append, List.append_assoc, List.drop_eq_getElem_cons h, List.map_cons]
 congr 1
 ·conv => rhs; rw [← List.map_id ((S.f.take k).map (crashF ks))]
  refine List.map_congr_left fun x hx => if_neg ?_
  obtain ⟨y, hy, rfl⟩ := List.mem_map.1 hx
  obtain ⟨i, hi, rfl⟩ := List.mem_take_iff_getElem.1 hy
  exact hne i (by omega) (by omega)
 ·rw [show (S.f[k].name = (crashF ks S.f[k]).name) from rfl]
  simp only [if_true, List.map_cons, List.map_nil, List.cons_append, List.nil_append]
  congr 1
  conv => rhs; rw [← List.map_id (S.f.drop (k + 1))]
  refine List.map_congr_left fun x hx => if_neg ?_
  obtain ⟨i, hi, rfl⟩ := List.mem_drop_iff_getElem.1 hx
  exact hne _ (by omega) (by omega)
end Go.Proofs.YtlefejokpdjpgaaGreat
/- A region whose order is open, and whose last operations turn what the others read: the reads may be taken first. Conditions: none. -/
namespace Go.Proofs.YtlefejokpdjpgaaGreat
open Go
section
variable {P : Program} {md : Region.Mode} {ops : Array Oper} {Q : Exit → Act → World → Prop} {S : World → Prop} {L : List Nat}
/-- one of the late operations has come up -/
def lateIn (L : List Nat) (listed : Array Bool) : Bool := L.any fun l => listed.getD l false
/-- whatever has come up, so has all that it waits for -/
def closedR (md : Region.Mode) (ops : Array Oper) (listed : Array Bool) : Bool :=
 (List.range ops.size).all fun k => !listed.getD k false || ((ops[k]?).map (·.after.all fun e => !Region.binds md e || listed.getD e.on false)).getD true
/-- j waits for i, directly or not -/
def reachesR (md : Region.Mode) (ops : Array Oper) : Nat → Nat → Nat → Bool
 | 0, _, _ => false
 | f + 1, j, i => ((ops[j]?).map (·.after.any fun e => Region.binds md e && (e.on == i || reachesR md ops f e.on i))).getD false
def wpAnyL (P : Program) (md : Region.Mode) (ops : Array Oper) (Q : Exit → Act → World → Prop) (S : World → Prop) (L : List Nat) : Nat → Array Bool → Act → World → Prop
 | 0, listed, a, w => Region.ready md ops listed = [] ∧ Q .normal a w
 | fuel + 1, listed, a, w =>
   (Region.ready md ops listed = [] → Q .normal a w) ∧
   ∀ i ∈ Region.ready md ops listed, wpOp P ops Q i (fun a' w' => (lateIn L (listed.setIfInBounds i true) = true ∨ S w') ∧ wpAnyL P md ops Q S L fuel (listed.setIfInBounds i true) a' w') a w
theorem wpAny_of_late : ∀ (fuel : Nat) (listed : Array Bool) (a : Act) (w : World), wpAnyL P md ops Q S L fuel listed a w → wpAny P md ops Q fuel listed a w
 | 0, _, _, _, h => h
 | fuel + 1, _, _, _, h => ⟨h.1, fun i hi => wpOp_mono (fun a' w' h' => wpAny_of_late fuel _ a' w' h'.2) (h.2 i hi)⟩
theorem closedR_dep {listed : Array Bool} (hc : closedR md ops listed = true) {j : Nat} {o : Oper} (ho : ops[j]? = some o) (hj : listed.getD j false = true) : ∀ e ∈ o.after, Region.binds md e = true → listed.getD e.on false = true := by
 intro e he hb
 have hlt := (Array.getElem?_eq_some_iff.1 ho).1
 have := (List.all_eq_true.1 hc) j (List.mem_range.2 hlt)
 rw [hj, ho] at this
 simp only [Bool.not_true, Option.map_some, Option.getD_some, Bool.false_or, Array.all_eq_true_iff_forall_mem] at this
 have h1 := this e he
 rw [hb] at h1
 simpa using h1
theorem reachesR_spec {f j i : Nat} (h : reachesR md ops (f + 1) j i = true) : ∃ o, ops[j]? = some o ∧ ∃ e ∈ o.after, Region.binds md e = true ∧ (e.on = i ∨ reachesR md ops f e.on i = true) := by
 unfold reachesR at h
 cases ho : ops[j]? with
 | none => rw [ho] at h; simp at h
 | some o =>
   rw [ho] at h
   simp only [Option.map_some, Option.getD_some, Array.any_eq_true'] at h
   obtain ⟨e, he, h⟩ := h
   simp only [Bool.and_eq_true, Bool.or_eq_true, beq_iff_eq] at h
   exact ⟨o, rfl, e, he, h.1, h.2⟩
theorem not_listed {listed : Array Bool} (hc : closedR md ops listed = true) {i : Nat} (hi : listed.getD i false = false) : ∀ {f j : Nat}, reachesR md ops f j i = true → listed.getD j false = false
 | 0, _, h => by simp [reachesR] at h
 | f + 1, j, h => by
   obtain ⟨o, ho, e, he, hb, h2⟩ := reachesR_spec h
   cases hj : listed.getD j false with
   | false => rfl
   | true =>
     have h3 := closedR_dep hc ho hj e he hb
     rcases h2 with rfl | h2
     ·rw [hi] at h3; cases h3
     ·rw [not_listed hc hi h2] at h3; cases h3
theorem not_ready {listed : Array Bool} (hc : closedR md ops listed = true) {i : Nat} (hi : listed.getD i false = false) {f j : Nat} (h : reachesR md ops f j i = true) : j ∉ Region.ready md ops listed := by
 intro hr
 obtain ⟨_, o, ho, hall⟩ := mem_ready.1 hr
 cases f with
 | zero => simp [reachesR] at h
 | succ f =>
   obtain ⟨o', ho', e, he, hb, h2⟩ := reachesR_spec h
   obtain rfl : o = o' := by rw [ho] at ho'; exact Option.some.inj ho'
   have h3 := hall e he hb
   rcases h2 with rfl | h2
   ·rw [hi] at h3; cases h3
   ·rw [not_listed hc hi h2] at h3; cases h3
theorem closedR_set {listed : Array Bool} (hc : closedR md ops listed = true) {j : Nat} (hr : j ∈ Region.ready md ops listed) : closedR md ops (listed.setIfInBounds j true) = true := by
 unfold closedR
 rw [List.all_eq_true]
 intro k hk
 cases ho : ops[k]? with
 | none => simp
 | some o =>
   simp only [Option.map_some, Option.getD_some, Bool.or_eq_true, Bool.not_eq_true', Array.all_eq_true_iff_forall_mem]
   by_cases hkl : (listed.setIfInBounds j true).getD k false = true
   ·right
    intro e he
    cases hb : Region.binds md e with
    | false => left; rfl
    | true =>
      right
      refine getD_set_true ?_
      by_cases hkj : j = k
      ·subst hkj
       obtain ⟨_, o', ho', hall⟩ := mem_ready.1 hr
       obtain rfl : o = o' := by rw [ho] at ho'; exact Option.some.inj ho'
       exact hall e he hb
      ·have : listed.getD k false = true := by
        have h1 : (listed.setIfInBounds j true).getD k false = listed.getD k false := by simp [Array.getElem?_setIfInBounds_ne hkj]
        rwa [h1] at hkl
       exact closedR_dep hc ho this e he hb
   ·left
    exact Bool.eq_false_iff.2 hkl
theorem getD_false_of {listed : Array Bool} {i : Nat} (h : listed.getD i true = false) : listed.getD i false = false := by
 rcases Nat.lt_or_ge i listed.size with h' | h'
 ·simp [h'] at h ⊢; exact h
 ·simp [Array.getElem?_eq_none h'] at h
theorem getD_set_other {listed : Array Bool} {j l : Nat} (h : j ≠ l) : (listed.setIfInBounds j true).getD l false = listed.getD l false := by simp [Array.getElem?_setIfInBounds_ne h]
theorem wpAnyL_first {i : Nat} {oi : Oper} {v : Value} (hi : ops[i]? = some oi) (hsel : ∀ (j : Nat) (o : Oper) cs b, ops[j]? = some o → o.op ≠ .select cs b)
 (hQ : ∀ c a w, Q (.panic c) (a.put oi.dst v) w → Q (.panic c) a w) (hL : ∀ l ∈ L, l ≠ i ∧ ∃ f, reachesR md ops f l i = true) :
 ∀ (fuel : Nat) (listed : Array Bool) (a : Act) (w : World), closedR md ops listed = true →
   (∀ j oj, ops[j]? = some oj → j ≠ i → listed.getD j true = false → (∀ e ∈ oj.after, Region.binds md e = true → e.on ≠ i) → oi.apart ops oj = true) →
   i ∈ Region.ready md ops listed → YieldsIf P ops S oi v a → S w →
   wpAnyL P md ops Q S L fuel (listed.setIfInBounds i true) (a.put oi.dst v) w → wpAnyL P md ops Q S L (fuel + 1) listed a w := by
 intro fuel
 induction fuel with
 | zero =>
   intro listed a w hc _ hr hy hS H
   refine ⟨fun h => (by rw [h] at hr; cases hr), fun j hj => ?_⟩
   by_cases hji : j = i
   ·subst hji; exact hy.wpOp hi hS ⟨Or.inr hS, H⟩
   ·have := ready_mono hj hji
    rw [H.1] at this
    cases this
 | succ fuel ih =>
   intro listed a w hc hfree hr hy hS H
   refine ⟨fun h => (by rw [h] at hr; cases hr), fun j hj => ?_⟩
   by_cases hji : j = i
   ·subst hji; exact hy.wpOp hi hS ⟨Or.inr hS, H⟩
   ·have hil := getD_false_of (mem_ready.1 hr).1
    have hjL : ∀ l ∈ L, l ≠ j := fun l hl e => by
        obtain ⟨_, f, hf⟩ := hL l hl
        exact not_ready hc hil hf (e ▸ hj)
    have hlate : lateIn L ((listed.setIfInBounds i true).setIfInBounds j true) = false := by
        unfold lateIn
        rw [List.any_eq_false]
        intro l hl
        obtain ⟨hli, f, hf⟩ := hL l hl
        rw [getD_set_other (hjL l hl).symm, getD_set_other hli.symm, not_listed hc hil hf]
        simp
    have h1 := H.2 j (ready_mono hj hji)
    obtain ⟨hjun, oj, hoj, hall⟩ := mem_ready.1 hj
    have hnot : ∀ e ∈ oj.after, Region.binds md e = true → e.on ≠ i := fun e he hb heq => by
        have h1 := hall e he hb
        rw [heq, hil] at h1
        cases h1
    have h2 := wpOp_putIf hoj (hfree j oj hoj hji hjun hnot) (fun cs b => hsel i oi cs b hi) (fun cs b => hsel j oj cs b hoj) hQ hy h1
    have hfree' : ∀ k ok, ops[k]? = some ok → k ≠ i → (listed.setIfInBounds j true).getD k true = false →
     (∀ e ∈ ok.after, Region.binds md e = true → e.on ≠ i) → oi.apart ops ok = true := fun k ok hk hki hun hno => by
        refine hfree k ok hk hki ?_ hno
        by_cases hjk : j = k
        ·subst hjk; exact hjun
        ·rw [getD_set_ne true hjk] at hun; exact hun
    refine wpOp_mono (fun a' w' h3 => ?_) h2
    have hS' : S w' := by
        rcases h3.2.1 with h4 | h4
        ·rw [hlate] at h4; cases h4
        ·exact h4
    refine ⟨Or.inr hS', ih (listed.setIfInBounds j true) a' w' (closedR_set hc hj) hfree' (ready_mono hr (Ne.symm hji)) h3.1 hS' ?_⟩
    rw [Array.setIfInBounds_comm _ _ hji]
    exact h3.2.2
theorem wpAnyL_take {i : Nat} {oi : Oper} {v : Value} {fuel : Nat} {listed : Array Bool} {a : Act} {w : World} (hi : ops[i]? = some oi)
 (hs : Region.noSelect ops = true) (hf : Region.free md ops listed i = true) (hr : (Region.ready md ops listed).contains i = true) (hc : closedR md ops listed = true)
 (hL : (L.all fun l => (l != i) && reachesR md ops ops.size l i) = true)
 (hQ : ∀ c a w, Q (.panic c) (a.put oi.dst v) w → Q (.panic c) a w) (hy : YieldsIf P ops S oi v a) (hS : S w)
 (h : wpAnyL P md ops Q S L fuel (listed.setIfInBounds i true) (a.put oi.dst v) w) : wpAnyL P md ops Q S L (fuel + 1) listed a w :=
 wpAnyL_first hi (Region.noSelect_spec hs) hQ (fun l hl => by have := (List.all_eq_true.1 hL) l hl; simp only [Bool.and_eq_true, bne_iff_ne] at this; exact ⟨this.1, _, this.2⟩) fuel listed a w hc (Region.free_spec hi hf) (by simpa using hr) hy hS h
theorem wpAnyL_done {listed : Array Bool} {a : Act} {w : World} (hr : Region.ready md ops listed = []) (h : Q .normal a w) : ∀ fuel, wpAnyL P md ops Q S L fuel listed a w
 | 0 => ⟨hr, h⟩
 | _ + 1 => ⟨fun _ => h, by rw [hr]; simp⟩
/-- one operation alone may come up -/
theorem wpAnyL_one {i : Nat} {o : Oper} {fuel : Nat} {listed : Array Bool} {a : Act} {w : World} (hr : Region.ready md ops listed = [i]) (ho : ops[i]? = some o)
 (h : ∀ K' : Act → World → Prop, Shut (∀ a w, (lateIn L (listed.setIfInBounds i true) = true ∨ S w) → wpAnyL P md ops Q S L fuel (listed.setIfInBounds i true) a w → K' a w) → if Region.wanted o (yielded ops a.tmps) = true then Oper.wp P o a w K' Q else K' (a.put o.dst undef) w) :
 wpAnyL P md ops Q S L (fuel + 1) listed a w := by
 refine ⟨fun h0 => absurd (hr ▸ h0) (by simp), ?_⟩
 rw [hr]
 intro j hj
 obtain rfl : j = i := by simpa using hj
 exact wpOp_step ho (fun K' hK => h K' (fun a w hS hW => hK a w ⟨hS, hW⟩))
theorem wp_region_late {id : Nat} {a : Act} {w : World} (S : World → Prop) (L : List Nat) (hm : P.follows .mixedOrders = true) (h : wpAnyL P .any ops Q S L ops.size (Array.replicate ops.size false) a w.drew) : (Code.region id ops true).wp P Q a w :=
 wp_region_any hm (wpAny_of_late _ _ _ _ h)
end
section
variable {P : Program} {md : Region.Mode} {ops : Array Oper} {Q : Exit → Act → World → Prop} {S : World → Prop}
theorem tH {op : Op} {ty : TypeId} {ps : String} {af : Array Edge} {gd : Option (Nat × Bool)} {v : Value} {fuel : Nat} {listed : Array Bool} {a : Act} {w : World} (i d : Nat) (hi : ops[i]? = some ⟨some d, op, ty, ps, af, gd⟩) (hy : YieldsIf P ops S ⟨some d, op, ty, ps, af, gd⟩ v a)
 (h : wpAnyH P md ops Q S fuel (listed.setIfInBounds i true) (a.put (some d) v) w) (hs : Region.noSelect ops = true := by kernel_rfl) (hf : Region.free md ops listed i = true := by kernel_rfl) (hr : (Region.ready md ops listed).contains i = true := by kernel_rfl)
 (hQ : ∀ c a w, Q (.panic c) (a.put (some d) v) w → Q (.panic c) a w := by exact fun _ _ _ h => h) (hS : S w := by assumption) : wpAnyH P md ops Q S (fuel + 1) listed a w := wpAnyH_take hi hs hf hr hQ hy hS h
theorem rH {op : Op} {ty : TypeId} {ps : String} {af : Array Edge} {gd : Option (Nat × Bool)} {fuel : Nat} {listed : Array Bool} {a : Act} {w : World} (i d : Nat) (ho : ops[i]? = some ⟨some d, op, ty, ps, af, gd⟩)
 (h : ∀ K' : Act → World → Prop, Shut (∀ a w, S w → (S w → wpAnyH P md ops Q S fuel (listed.setIfInBounds i true) a w) → K' a w) → if Region.wanted ⟨some d, op, ty, ps, af, gd⟩ (yielded ops a.tmps) = true then Oper.wp P ⟨some d, op, ty, ps, af, gd⟩ a w K' Q else K' (a.put (some d) undef) w)
 (hr : Region.ready md ops listed = [i] := by kernel_rfl) : wpAnyH P md ops Q S (fuel + 1) listed a w := wpAnyH_ready hr (by simp) (AllReadyH.cons ho h AllReadyH.nil)
end
end Go.Proofs.YtlefejokpdjpgaaGreat
