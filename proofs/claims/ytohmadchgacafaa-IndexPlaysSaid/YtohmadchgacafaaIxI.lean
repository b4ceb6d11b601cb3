/- The index: labels gone over; an item removed; how many there are; an index made. Conditions: as in the text. -/
import Derived.Test.YtohmadchgacafaaIxH
set_option linter.unusedSimpArgs false
set_option linter.unusedVariables false
set_option linter.unnecessarySimpa false
namespace Go.Proofs.Ytohmadchgacafaa
open Go.RowKit
variable {lo : Nat}
theorem exec_lookI {P : Program} {o : Oper} {a : Act} {w : World} (t : TypeId) (m x : Operand) (c : Bool) (ho : o.op = .lookup t m x c) (v : Value) (h : (Instr.lookup t (a.eval m) (a.eval x) c).run P w = .ok v w) : (execOp a.eval o).run P w = .ok (.value v) w := by
 unfold execOp
 simp only [ho]
 simp [Sem.run_bind, h, Result.andThen]
/-- behind labels gone over from node p on: l are all the labels -/
def RetPr (lo : Nat) (x : Nat) (n : Int) (B : Nat) (T : Tree) (p l : Path) (its : List It) (w : World) (e : Ending) (w' : World) : Prop :=
 ∃ (T' : Tree) (b : Bool), e = .returned (.bool b) ∧ (b = true ↔ its = [] ∧ ∀ s, T' (p ++ [s]) = none) ∧ TrIn lo w' x n B T' ∧ (∀ q, Falls T.its p l q → T' q = none) ∧ (∀ q, ¬ Falls T.its p l q → T' q = T q) ∧ IxFr lo w w'
theorem falls_self {A : Path → Option (List It)} {p q : Path} (h : Falls A p p q) : False := h.2.1 ((h.2.2.1).eq_of_length_le (h.1.length_le))
theorem its_some {T : Tree} {q : Path} {i : Nd} (h : T q = some i) : T.its q = some i.its := by unfold Tree.its; rw [h]; rfl
theorem its_inv {T : Tree} {q : Path} {l : List It} (h : T.its q = some l) : ∃ i, T q = some i ∧ i.its = l := by
 unfold Tree.its at h
 exact Option.map_eq_some_iff.1 h
theorem snoc_pre {p q : Path} (h : p <+: q) (hne : q ≠ p) : ∃ s, p ++ [s] <+: q := by
 obtain ⟨r, rfl⟩ := h
 cases r with
 | nil => exact absurd (List.append_nil p) hne
 | cons s r => exact ⟨s, r, by simp⟩
theorem pre_same {p q l : Path} {s : Bytes} (hq : q <+: p ++ s :: l) (hp : p <+: q) (hne : q ≠ p) : p ++ [s] <+: q := by
 obtain ⟨t, ht⟩ := snoc_pre hp hne
 have h1 : p ++ [t] <+: p ++ s :: l := ht.trans hq
 have h2 : [t] <+: s :: l := (List.prefix_append_right_inj p).1 h1
 have : t = s := by
  obtain ⟨r, hr⟩ := h2
  simp at hr
  exact hr.1
 rw [← this]
 exact ht
section
variable {w : World} {x : Nat} {n : Int} {B : Nat} {T T1 : Tree} {p : Path} {s : Bytes} {r : Path} {c : Nd}
/-- the child falls, as its call says -/
theorem falls_child (h : TrIn lo w x n B T) (hc : T (p ++ [s]) = some c) (h1 : ∀ q, Falls T.its (p ++ [s]) (p ++ s :: r) q → T1 q = none) (h2 : ∀ q, ¬ Falls T.its (p ++ [s]) (p ++ s :: r) q → T1 q = T q) :
 (c.its = [] ∧ ∀ s', T1 ((p ++ [s]) ++ [s']) = none) ↔ Falls T.its p (p ++ s :: r) (p ++ [s]) := by
 have hcL : p ++ [s] <+: p ++ s :: r := ⟨r, by simp⟩
 constructor
 ·rintro ⟨g1, g2⟩
  refine ⟨List.prefix_append _ _, snoc_ne _ _, hcL, fun q its hq hits => ?_⟩
  by_cases e : q = p ++ [s]
  ·subst e
   rw [its_some hc] at hits
   cases hits
   exact ⟨hcL, g1⟩
  ·obtain ⟨s', hs'⟩ := snoc_pre hq e
   obtain ⟨i, hi, rfl⟩ := its_inv hits
   have hk : T ((p ++ [s]) ++ [s']) ≠ none := fun hn => by rw [h.none_of hs' hn] at hi; cases hi
   have hf : Falls T.its (p ++ [s]) (p ++ s :: r) ((p ++ [s]) ++ [s']) := Classical.byContradiction fun hn => hk (by rw [← h2 _ hn]; exact g2 s')
   exact hf.2.2.2 q _ hs' hits
 ·intro hf
  have hall := hf.2.2.2
  refine ⟨(hall _ _ (List.prefix_refl _) (its_some hc)).2, fun s' => ?_⟩
  by_cases e : Falls T.its (p ++ [s]) (p ++ s :: r) ((p ++ [s]) ++ [s'])
  ·exact h1 _ e
  ·rw [h2 _ e]
   cases hT : T ((p ++ [s]) ++ [s']) with
   | none => rfl
   | some i =>
     exact absurd ⟨List.prefix_append _ _, snoc_ne _ _, (hall _ _ (List.prefix_append _ _) (its_some hT)).1, fun q its hq hits => hall q its ((List.prefix_append _ _).trans hq) hits⟩ e
theorem falls_iff {A : Path → Option (List It)} {q : Path} (hq : q ≠ p ++ [s]) : Falls A p (p ++ s :: r) q ↔ Falls A (p ++ [s]) (p ++ s :: r) q := by
 constructor
 ·rintro ⟨h1, h2, h3, h4⟩
  exact ⟨pre_same h3 h1 h2, hq, h3, h4⟩
 ·rintro ⟨h1, h2, h3, h4⟩
  refine ⟨(List.prefix_append _ _).trans h1, fun e => ?_, h3, h4⟩
  have := h1.length_le
  rw [e, List.length_append] at this
  simp only [List.length_cons, List.length_nil] at this
  omega
end
set_option maxRecDepth 100000 in
set_option maxHeartbeats 1000000 in
theorem prune_any (x : Nat) (n : Int) (B : Nat) (hB : B ≤ 4611686018427387904) : ∀ (r p : Path) (T : Tree) (nd : Nd) (w : World) (a : Option Addr) (cap : Nat), TrIn lo w x n B T → Few T → T p = some nd → StrsIn w a r → r.length ≤ cap → (∀ s ∈ r, s.length ≤ maxLen) → r.length ≤ 1073741824 →
 Calls Try.prog 35 #[ndVal nd.b, .slice a r.length cap] w (RetPr lo x n B T p (p ++ r) nd.its w) := by
 intro r
 induction r with
 | nil =>
   intro p T nd w a cap h hfw hT hst hcap hsz hlen
   rw [List.append_nil]
   obtain ⟨nb, nits, nmb⟩ := nd
   have HF : Hid (∀ b, (b = true ↔ nits = [] ∧ ∀ s, T (p ++ [s]) = none) → RetPr lo x n B T p p nits w (.returned (.bool b)) w) := Lib.hid fun b hb => ⟨T, b, rfl, hb, h, fun q hq => (falls_self hq).elim, fun _ _ => rfl, Fr.refl _ _⟩
   go_enter Try.func35, Try.ntmps35
   go_upto_region 5 with fail
   obtain ⟨a0, c0, hc0, hcl0, _⟩ := (h.nodes _ _ hT).its
   have hc1 := (h.nodes _ _ hT).bel
   obtain ⟨k, hk, hkB, hk0⟩ := h.len hT 3
   have HK := Lib.hid hk0
   have HE : Hid (nits = [] ↔ nits.length = 0) := List.length_eq_zero_iff.symm
   have HFF := Lib.hid HF.out
   clear hk0 HF
   simp only at hc0 hc1 hk hcl0
   generalize nits.length = m at *
   by_cases hm : m = 0
   ·have hm1 : ((m : Int) == 0) = true := beq_iff_eq.2 (by omega)
    have hm2 : (m == 0) = true := beq_iff_eq.2 hm
    by_cases hkz : k = 0
    ·have hz1 : ((k : Int) == 0) = true := beq_iff_eq.2 (by omega)
     have hz2 : (k == 0) = true := beq_iff_eq.2 hkz
     have HB := Lib.hid (HFF.out true ⟨fun _ => ⟨HE.out.2 hm, HK.out.1 hkz⟩, fun _ => rfl⟩)
     clear hm hkz
     go_wp2
     all_goals
      go_ret
      exact HB.out
    ·have hz1 : ((k : Int) == 0) = false := beq_eq_false_iff_ne.2 (by omega)
     have hz2 : (k == 0) = false := beq_eq_false_iff_ne.2 hkz
     have HB := Lib.hid (HFF.out false ⟨fun h => (nomatch h), fun h => absurd (HK.out.2 h.2) hkz⟩)
     clear hm hkz
     go_wp2
     all_goals
      go_ret
      exact HB.out
   ·have hm1 : ((m : Int) == 0) = false := beq_eq_false_iff_ne.2 (by omega)
    have hm2 : (m == 0) = false := beq_eq_false_iff_ne.2 hm
    have HB := Lib.hid (HFF.out false ⟨fun h => (nomatch h), fun h => absurd (HE.out.1 h.1) hm⟩)
    clear hm
    go_wp2
    all_goals
       go_ret
       exact HB.out
 | cons s r ih =>
   intro p T nd w a cap h hfw hT hst hcap hsz hlen
   obtain ⟨nb, nits, nmb⟩ := nd
   obtain ⟨A, off, rfl, hc⟩ := hst.at (k := 0) (by simp)
   rw [Nat.add_zero, List.getElem_cons_zero] at hc
   have hsl := hsz s List.mem_cons_self
   have hszr : ∀ s' ∈ r, s'.length ≤ maxLen := fun s' hs' => hsz s' (List.mem_cons_of_mem _ hs')
   have hcap' : r.length + 1 ≤ cap := by simpa using hcap
   have hlen' : r.length + 1 ≤ 1073741824 := by simpa using hlen
   have hbel := (h.nodes _ _ hT).bel
   have hlook := fun (X : World) (hX : Below w.heap.size w X) => (h.kept hX).look hT (mkS s) hsl
   rw [show bl (mkS s) = s from rfl] at hlook
   have HST := Lib.hid hst
   have HHH := Lib.hid h
   simp only at hbel
   rw [List.length_cons]
   clear hst hsz hcap hlen
   have hlz : decide ((0 : Int) < (r.length : Int) + 1) = true := decide_eq_true (by omega)
   go_enter Try.func35, Try.ntmps35
   go_upto_region 2 with fail
   have y0 := hbel
   have y1 := hc
   refine wp_region_after (by kernel_rfl) (by kernel_rfl) (fun WA hWA => ?_)
   have hbA : Below w.heap.size w WA := by rw [hWA.out]; go_grown
   have py0 : ∀ i : After WA, i.w.cell? ⟨nb, 1, none⟩ = some (.map nmb) := fun i => i.cell (kept hbA y0)
   have py1 : ∀ i : After WA, i.w.cell? ⟨A, off, none⟩ = some (.string (mkS s)) := fun i => i.cell (kept hbA y1)
   have hlk : ∀ i : After WA, (Instr.lookup 53 (.map nmb) (.string (mkS s)) false).run Try.prog i.w = .ok (kidVal T p s) i.w := fun i => hlook _ (hbA.trans (i.h.mono hbA.size))
   clear hWA hlook
   go_big_quiet_step (fail)
   go_big_quiet_step (fail)
   go_big_quiet_step (fail)
   go_big_quiet_step (fail)
   go_big_quiet_step (fail)
   go_big_quiet_step (fail)
   go_big_quiet_step (fail)
   refine wpQuiet_of_exec (by rfl) _ (fun X hX => by obtain ⟨i, rfl⟩ := hX; exact exec_lookI _ _ _ _ rfl _ (hlk i)) ?_
   try simp only [pA, pB, pC, pD, pE]
   go_big_quiet_step (fail)
   refine wpQuiet_nil ?_
   first
    | rintro _ ⟨i, rfl⟩
    | intro i
   have hiA := i.h
   generalize i.w = W at hiA ⊢
   have hbW : Below w.heap.size w W := below2 hbA hiA
   have hTW := HHH.out.kept hbW
   clear hbA hiA py0 py1 hlk y0 y1
   cases hc2 : T (p ++ [s]) with
   | none =>
     have hv : kidVal T p s = .pointer none := by unfold kidVal; rw [hc2]
     have HF : Hid (∀ b, (b = true ↔ nits = [] ∧ ∀ s, T (p ++ [s]) = none) → RetPr lo x n B T p (p ++ s :: r) nits w (.returned (.bool b)) W) := Lib.hid fun b hb => ⟨T, b, rfl, hb, hTW, fun q hq => hTW.none_of (pre_same hq.2.2.1 hq.1 hq.2.1) hc2, fun _ _ => rfl, IxFr.of_below hbW⟩
     rw [hv]
     clear hc2 hv
     go_upto_region 5 with fail
     obtain ⟨a0, c0, hc0, hcl0, _⟩ := (hTW.nodes _ _ hT).its
     have hc1 := (hTW.nodes _ _ hT).bel
     obtain ⟨k, hk, hkB, hk0⟩ := hTW.len hT 3
     have HK := Lib.hid hk0
     have HE : Hid (nits = [] ↔ nits.length = 0) := List.length_eq_zero_iff.symm
     have HFF := Lib.hid HF.out
     clear hk0 HF
     simp only at hc0 hc1 hk hcl0
     generalize nits.length = m at *
     by_cases hm : m = 0
     ·have hm1 : ((m : Int) == 0) = true := beq_iff_eq.2 (by omega)
      have hm2 : (m == 0) = true := beq_iff_eq.2 hm
      by_cases hkz : k = 0
      ·have hz1 : ((k : Int) == 0) = true := beq_iff_eq.2 (by omega)
       have hz2 : (k == 0) = true := beq_iff_eq.2 hkz
       have HB := Lib.hid (HFF.out true ⟨fun _ => ⟨HE.out.2 hm, HK.out.1 hkz⟩, fun _ => rfl⟩)
       clear hm hkz
       go_wp2
       all_goals
        go_ret
        exact HB.out
      ·have hz1 : ((k : Int) == 0) = false := beq_eq_false_iff_ne.2 (by omega)
       have hz2 : (k == 0) = false := beq_eq_false_iff_ne.2 hkz
       have HB := Lib.hid (HFF.out false ⟨fun h => (nomatch h), fun h => absurd (HK.out.2 h.2) hkz⟩)
       clear hm hkz
       go_wp2
       all_goals
        go_ret
        exact HB.out
     ·have hm1 : ((m : Int) == 0) = false := beq_eq_false_iff_ne.2 (by omega)
      have hm2 : (m == 0) = false := beq_eq_false_iff_ne.2 hm
      have HB := Lib.hid (HFF.out false ⟨fun h => (nomatch h), fun h => absurd (HE.out.1 h.1) hm⟩)
      clear hm
      go_wp2
      all_goals
       go_ret
       exact HB.out
   | some c =>
     have hv : kidVal T p s = ndVal c.b := by unfold kidVal; rw [hc2]
     rw [hv]
     have HC2 := Lib.hid hc2
     have HT := Lib.hid hT
     have HTW := Lib.hid hTW
     have HBW := Lib.hid hbW
     have hstW := HST.out.kept hbW
     have hcut : ∃ a1, (if cap = 1 then (some ⟨A, off, none⟩ : Option Addr) else some ⟨A, off + 1, none⟩) = a1 ∧ StrsIn W a1 r := by
        refine ⟨_, rfl, ?_⟩
        have := hstW.cut (cap := cap) (by simp; omega)
        rw [List.drop_one, List.tail_cons] at this
        unfold cutA at this
        split
        ·rename_i e; rw [if_pos e] at this; exact this
        ·rename_i e
         rw [if_neg e] at this
         simpa [Addr.add_mid] using this
     obtain ⟨a1, ha1, hst1⟩ := hcut
     have HIH := Lib.hid (fun (cp : Nat) (hcp : r.length ≤ cp) => ih (p ++ [s]) T c W a1 cp hTW hfw hc2 hst1 hcp hszr (by omega))
     simp only [show p ++ [s] ++ r = p ++ s :: r by simp] at HIH
     clear hc2 hv hT hTW hbW ih hst1 h
     have hsame : ∀ T1 : Tree, (∀ q, ¬ Falls T.its (p ++ [s]) (p ++ s :: r) q → T1 q = T q) → T1 p = some ⟨nb, nits, nmb⟩ ∧ T1 (p ++ [s]) = some c := fun T1 h2 => by
        refine ⟨(h2 p fun hq => ?_).trans HT.out, (h2 _ fun hq => hq.2.1 rfl).trans HC2.out⟩
        have := hq.1.length_le
        rw [List.length_append] at this
        simp only [List.length_cons, List.length_nil] at this
        omega
     have HSM := Lib.hid hsame
     clear hsame
     by_cases hfall : Falls T.its p (p ++ s :: r) (p ++ [s])
     ·have HFA := Lib.hid hfall
      clear hfall
      by_cases hcc : cap = 1
      ·rw [if_pos hcc] at ha1
       subst ha1
       subst hcc
       obtain rfl : r = [] := List.eq_nil_of_length_eq_zero (by omega)
       simp only [List.length_nil, Nat.zero_add] at HIH hcap' hlen' ⊢
       clear hcap' hlen' hlz
       go_upto_region 4 with (go_at_call 35; go_loud (with_reducible refine (HIH.out _ (by omega)).mono ?_); rintro e w1 ⟨T1, b1, rfl, hb1, htr1, hf1, hf2, hfr1⟩; obtain rfl : b1 = true := hb1.2 ((falls_child HTW.out HC2.out hf1 hf2).2 HFA.out))
       obtain ⟨hp1, hcc1⟩ := HSM.out T1 hf2
       have hno := ((falls_child HTW.out HC2.out hf1 hf2).2 HFA.out).2
       have hst1 := hstW.ix hfr1
       obtain ⟨A', off', hA', hs1⟩ := hst1.at (k := 0) (by simp)
       cases hA'
       rw [Nat.add_zero, List.getElem_cons_zero] at hs1
       have HF1 := Lib.hid (And.intro hf1 hf2)
       have HFR1 : Hid (IxFr lo w w1.drew) := Lib.hid (((IxFr.of_below HBW.out).trans hfr1).trans (IxFr.of_below (Below.refl _ _).drew))
       have htD : TrIn lo w1.drew x n B T1 := htr1.kept (Below.refl _ _).drew
       have y0 : w1.drew.cell? ⟨nb, 1, none⟩ = some (.map nmb) := (htD.nodes _ _ hp1).bel
       have y1 : w1.drew.cell? ⟨A, off, none⟩ = some (.string (mkS s)) := hs1
       cases nmb with
       | none => exact absurd hcc1 (by rw [(htD.nodes _ _ hp1).no rfl s]; simp)
       | some mm =>
         obtain ⟨w4, hrun4, htr4, hfr4⟩ := htD.drop hp1 (m := mm) rfl (mkS s) hcc1 hno 0
         rw [show bl (mkS s) = s from rfl] at htr4
         have HT4 := Lib.hid htr4
         have HFR4 := Lib.hid hfr4
         clear hst1 hs1 htr1 hfr1 hf1 hf2 hb1 htD htr4 hfr4 hno
         refine wp_region_noPanic ?_
         refine wp_region_late (fun W' => Below w1.drew.heap.size w1.drew W') [7] (by kernel_rfl) ?_
         have hHeld := Below.refl w1.drew.heap.size w1.drew
         refine wpAnyL_take (i := 0) (oi := ⟨some 25, _, _, _, _, _⟩) (v := ?_) rfl (by kernel_rfl) (by kernel_rfl) (by kernel_rfl) (by kernel_rfl) (by kernel_rfl) (fun _ _ _ h => h) (Or.inl ⟨by rfl, ?_⟩) (by assumption) ?_
         case refine_2 => (intro Xw hSw; have sy0 := kept hSw y0; have sy1 := kept hSw y1; go_simp; try with_reducible rfl)
         try simp only [pA, pB, pC, pD, pE]
         refine wpAnyL_take (i := 1) (oi := ⟨some 26, _, _, _, _, _⟩) (v := ?_) rfl (by kernel_rfl) (by kernel_rfl) (by kernel_rfl) (by kernel_rfl) (by kernel_rfl) (fun _ _ _ h => h) (Or.inl ⟨by rfl, ?_⟩) (by assumption) ?_
         case refine_2 => (intro Xw hSw; have sy0 := kept hSw y0; have sy1 := kept hSw y1; go_simp; try with_reducible rfl)
         try simp only [pA, pB, pC, pD, pE]
         refine wpAnyL_take (i := 2) (oi := ⟨some 27, _, _, _, _, _⟩) (v := ?_) rfl (by kernel_rfl) (by kernel_rfl) (by kernel_rfl) (by kernel_rfl) (by kernel_rfl) (fun _ _ _ h => h) (Or.inl ⟨by rfl, ?_⟩) (by assumption) ?_
         case refine_2 => (intro Xw hSw; have sy0 := kept hSw y0; have sy1 := kept hSw y1; go_simp; try with_reducible rfl)
         try simp only [pA, pB, pC, pD, pE]
         refine wpAnyL_take (i := 3) (oi := ⟨some 28, _, _, _, _, _⟩) (v := ?_) rfl (by kernel_rfl) (by kernel_rfl) (by kernel_rfl) (by kernel_rfl) (by kernel_rfl) (fun _ _ _ h => h) (Or.inl ⟨by rfl, ?_⟩) (by assumption) ?_
         case refine_2 => (intro Xw hSw; have sy0 := kept hSw y0; have sy1 := kept hSw y1; go_simp; try with_reducible rfl)
         try simp only [pA, pB, pC, pD, pE]
         refine wpAnyL_take (i := 4) (oi := ⟨some 29, _, _, _, _, _⟩) (v := ?_) rfl (by kernel_rfl) (by kernel_rfl) (by kernel_rfl) (by kernel_rfl) (by kernel_rfl) (fun _ _ _ h => h) (Or.inl ⟨by rfl, ?_⟩) (by assumption) ?_
         case refine_2 => (intro Xw hSw; have sy0 := kept hSw y0; have sy1 := kept hSw y1; go_simp; try with_reducible rfl)
         try simp only [pA, pB, pC, pD, pE]
         refine wpAnyL_take (i := 5) (oi := ⟨some 30, _, _, _, _, _⟩) (v := ?_) rfl (by kernel_rfl) (by kernel_rfl) (by kernel_rfl) (by kernel_rfl) (by kernel_rfl) (fun _ _ _ h => h) (Or.inl ⟨by rfl, ?_⟩) (by assumption) ?_
         case refine_2 => (intro Xw hSw; have sy0 := kept hSw y0; have sy1 := kept hSw y1; go_simp; try with_reducible rfl)
         try simp only [pA, pB, pC, pD, pE]
         refine wpAnyL_take (i := 6) (oi := ⟨some 31, _, _, _, _, _⟩) (v := ?_) rfl (by kernel_rfl) (by kernel_rfl) (by kernel_rfl) (by kernel_rfl) (by kernel_rfl) (fun _ _ _ h => h) (Or.inl ⟨by rfl, ?_⟩) (by assumption) ?_
         case refine_2 => (intro Xw hSw; have sy0 := kept hSw y0; have sy1 := kept hSw y1; go_simp; try with_reducible rfl)
         try simp only [pA, pB, pC, pD, pE]
         refine wpAnyL_one (i := 7) (o := ⟨none, _, _, _, _, _⟩) (by kernel_rfl) rfl ?_
         intro K hK
         go_simp
         refine hK.out _ _ (Or.inl (by kernel_rfl)) ?_
         clear hK K
         try simp only [pA, pB, pC, pD, pE]
         refine wpAnyL_done (by kernel_rfl) ?_ _
         refine NoPanic.normal ?_
         clear hHeld y0 y1 hrun4
         have htr4 := HT4.out
         have hp4 : T1.upd (p ++ [s]) none p = some ⟨nb, nits, some mm⟩ := (Tree.upd_other _ _ (snoc_ne _ _).symm).trans hp1
         have HF : Hid (∀ b, (b = true ↔ nits = [] ∧ ∀ s', T1.upd (p ++ [s]) none (p ++ [s']) = none) → RetPr lo x n B T p (p ++ s :: []) nits w (.returned (.bool b)) w4) := Lib.hid fun b hb => by
           refine ⟨_, b, rfl, hb, HT4.out, fun q hq => ?_, fun q hq => ?_, HFR1.out.trans HFR4.out⟩
           ·by_cases e : q = p ++ [s]
            ·rw [e]; exact Tree.upd_same _ _ _
            ·rw [Tree.upd_other _ _ e]; exact HF1.out.1 q ((falls_iff e).1 hq)
           ·have e : q ≠ p ++ [s] := fun e => hq (by rw [e]; exact HFA.out)
            rw [Tree.upd_other _ _ e]
            exact HF1.out.2 q (fun g => hq ((falls_iff e).2 g))
         clear hp1 hcc1
         go_upto_region 5 with fail
         obtain ⟨a0, c0, hc0, hcl0, _⟩ := (htr4.nodes _ _ hp4).its
         have hc1 := (htr4.nodes _ _ hp4).bel
         obtain ⟨k, hk, hkB, hk0⟩ := htr4.len hp4 3
         have HK := Lib.hid hk0
         have HE : Hid (nits = [] ↔ nits.length = 0) := List.length_eq_zero_iff.symm
         have HFF := Lib.hid HF.out
         clear hk0 HF
         simp only at hc0 hc1 hk hcl0
         generalize nits.length = m at *
         by_cases hm : m = 0
         ·have hm1 : ((m : Int) == 0) = true := beq_iff_eq.2 (by omega)
          have hm2 : (m == 0) = true := beq_iff_eq.2 hm
          by_cases hkz : k = 0
          ·have hz1 : ((k : Int) == 0) = true := beq_iff_eq.2 (by omega)
           have hz2 : (k == 0) = true := beq_iff_eq.2 hkz
           have HB := Lib.hid (HFF.out true ⟨fun _ => ⟨HE.out.2 hm, HK.out.1 hkz⟩, fun _ => rfl⟩)
           clear hm hkz
           go_wp2
           all_goals
                  go_ret
                  exact HB.out
          ·have hz1 : ((k : Int) == 0) = false := beq_eq_false_iff_ne.2 (by omega)
           have hz2 : (k == 0) = false := beq_eq_false_iff_ne.2 hkz
           have HB := Lib.hid (HFF.out false ⟨fun h => (nomatch h), fun h => absurd (HK.out.2 h.2) hkz⟩)
           clear hm hkz
           go_wp2
           all_goals
                  go_ret
                  exact HB.out
         ·have hm1 : ((m : Int) == 0) = false := beq_eq_false_iff_ne.2 (by omega)
          have hm2 : (m == 0) = false := beq_eq_false_iff_ne.2 hm
          have HB := Lib.hid (HFF.out false ⟨fun h => (nomatch h), fun h => absurd (HE.out.1 h.1) hm⟩)
          clear hm
          go_wp2
          all_goals
               go_ret
               exact HB.out
      ·rw [if_neg hcc] at ha1
       subst ha1
       have HCC := Lib.hid hcc
       go_upto_region 4 with (go_at_call 35; go_loud (with_reducible refine (HIH.out _ (by omega)).mono ?_); rintro e w1 ⟨T1, b1, rfl, hb1, htr1, hf1, hf2, hfr1⟩; obtain rfl : b1 = true := hb1.2 ((falls_child HTW.out HC2.out hf1 hf2).2 HFA.out))
       obtain ⟨hp1, hcc1⟩ := HSM.out T1 hf2
       have hno := ((falls_child HTW.out HC2.out hf1 hf2).2 HFA.out).2
       have hst1 := hstW.ix hfr1
       obtain ⟨A', off', hA', hs1⟩ := hst1.at (k := 0) (by simp)
       cases hA'
       rw [Nat.add_zero, List.getElem_cons_zero] at hs1
       have HF1 := Lib.hid (And.intro hf1 hf2)
       have HFR1 : Hid (IxFr lo w w1.drew) := Lib.hid (((IxFr.of_below HBW.out).trans hfr1).trans (IxFr.of_below (Below.refl _ _).drew))
       have htD : TrIn lo w1.drew x n B T1 := htr1.kept (Below.refl _ _).drew
       have y0 : w1.drew.cell? ⟨nb, 1, none⟩ = some (.map nmb) := (htD.nodes _ _ hp1).bel
       have y1 : w1.drew.cell? ⟨A, off, none⟩ = some (.string (mkS s)) := hs1
       cases nmb with
       | none => exact absurd hcc1 (by rw [(htD.nodes _ _ hp1).no rfl s]; simp)
       | some mm =>
         obtain ⟨w4, hrun4, htr4, hfr4⟩ := htD.drop hp1 (m := mm) rfl (mkS s) hcc1 hno 0
         rw [show bl (mkS s) = s from rfl] at htr4
         have HT4 := Lib.hid htr4
         have HFR4 := Lib.hid hfr4
         clear hst1 hs1 htr1 hfr1 hf1 hf2 hb1 htD htr4 hfr4 hno
         refine wp_region_noPanic ?_
         refine wp_region_late (fun W' => Below w1.drew.heap.size w1.drew W') [7] (by kernel_rfl) ?_
         have hHeld := Below.refl w1.drew.heap.size w1.drew
         refine wpAnyL_take (i := 0) (oi := ⟨some 25, _, _, _, _, _⟩) (v := ?_) rfl (by kernel_rfl) (by kernel_rfl) (by kernel_rfl) (by kernel_rfl) (by kernel_rfl) (fun _ _ _ h => h) (Or.inl ⟨by rfl, ?_⟩) (by assumption) ?_
         case refine_2 => (intro Xw hSw; have sy0 := kept hSw y0; have sy1 := kept hSw y1; go_simp; try with_reducible rfl)
         try simp only [pA, pB, pC, pD, pE]
         refine wpAnyL_take (i := 1) (oi := ⟨some 26, _, _, _, _, _⟩) (v := ?_) rfl (by kernel_rfl) (by kernel_rfl) (by kernel_rfl) (by kernel_rfl) (by kernel_rfl) (fun _ _ _ h => h) (Or.inl ⟨by rfl, ?_⟩) (by assumption) ?_
         case refine_2 => (intro Xw hSw; have sy0 := kept hSw y0; have sy1 := kept hSw y1; go_simp; try with_reducible rfl)
         try simp only [pA, pB, pC, pD, pE]
         refine wpAnyL_take (i := 2) (oi := ⟨some 27, _, _, _, _, _⟩) (v := ?_) rfl (by kernel_rfl) (by kernel_rfl) (by kernel_rfl) (by kernel_rfl) (by kernel_rfl) (fun _ _ _ h => h) (Or.inl ⟨by rfl, ?_⟩) (by assumption) ?_
         case refine_2 => (intro Xw hSw; have sy0 := kept hSw y0; have sy1 := kept hSw y1; go_simp; try with_reducible rfl)
         try simp only [pA, pB, pC, pD, pE]
         refine wpAnyL_take (i := 3) (oi := ⟨some 28, _, _, _, _, _⟩) (v := ?_) rfl (by kernel_rfl) (by kernel_rfl) (by kernel_rfl) (by kernel_rfl) (by kernel_rfl) (fun _ _ _ h => h) (Or.inl ⟨by rfl, ?_⟩) (by assumption) ?_
         case refine_2 => (intro Xw hSw; have sy0 := kept hSw y0; have sy1 := kept hSw y1; go_simp; try with_reducible rfl)
         try simp only [pA, pB, pC, pD, pE]
         refine wpAnyL_take (i := 4) (oi := ⟨some 29, _, _, _, _, _⟩) (v := ?_) rfl (by kernel_rfl) (by kernel_rfl) (by kernel_rfl) (by kernel_rfl) (by kernel_rfl) (fun _ _ _ h => h) (Or.inl ⟨by rfl, ?_⟩) (by assumption) ?_
         case refine_2 => (intro Xw hSw; have sy0 := kept hSw y0; have sy1 := kept hSw y1; go_simp; try with_reducible rfl)
         try simp only [pA, pB, pC, pD, pE]
         refine wpAnyL_take (i := 5) (oi := ⟨some 30, _, _, _, _, _⟩) (v := ?_) rfl (by kernel_rfl) (by kernel_rfl) (by kernel_rfl) (by kernel_rfl) (by kernel_rfl) (fun _ _ _ h => h) (Or.inl ⟨by rfl, ?_⟩) (by assumption) ?_
         case refine_2 => (intro Xw hSw; have sy0 := kept hSw y0; have sy1 := kept hSw y1; go_simp; try with_reducible rfl)
         try simp only [pA, pB, pC, pD, pE]
         refine wpAnyL_take (i := 6) (oi := ⟨some 31, _, _, _, _, _⟩) (v := ?_) rfl (by kernel_rfl) (by kernel_rfl) (by kernel_rfl) (by kernel_rfl) (by kernel_rfl) (fun _ _ _ h => h) (Or.inl ⟨by rfl, ?_⟩) (by assumption) ?_
         case refine_2 => (intro Xw hSw; have sy0 := kept hSw y0; have sy1 := kept hSw y1; go_simp; try with_reducible rfl)
         try simp only [pA, pB, pC, pD, pE]
         refine wpAnyL_one (i := 7) (o := ⟨none, _, _, _, _, _⟩) (by kernel_rfl) rfl ?_
         intro K hK
         go_simp
         refine hK.out _ _ (Or.inl (by kernel_rfl)) ?_
         clear hK K
         try simp only [pA, pB, pC, pD, pE]
         refine wpAnyL_done (by kernel_rfl) ?_ _
         refine NoPanic.normal ?_
         clear hHeld y0 y1 hrun4
         have htr4 := HT4.out
         have hp4 : T1.upd (p ++ [s]) none p = some ⟨nb, nits, some mm⟩ := (Tree.upd_other _ _ (snoc_ne _ _).symm).trans hp1
         have HF : Hid (∀ b, (b = true ↔ nits = [] ∧ ∀ s', T1.upd (p ++ [s]) none (p ++ [s']) = none) → RetPr lo x n B T p (p ++ s :: r) nits w (.returned (.bool b)) w4) := Lib.hid fun b hb => by
           refine ⟨_, b, rfl, hb, HT4.out, fun q hq => ?_, fun q hq => ?_, HFR1.out.trans HFR4.out⟩
           ·by_cases e : q = p ++ [s]
            ·rw [e]; exact Tree.upd_same _ _ _
            ·rw [Tree.upd_other _ _ e]; exact HF1.out.1 q ((falls_iff e).1 hq)
           ·have e : q ≠ p ++ [s] := fun e => hq (by rw [e]; exact HFA.out)
            rw [Tree.upd_other _ _ e]
            exact HF1.out.2 q (fun g => hq ((falls_iff e).2 g))
         clear hp1 hcc1
         go_upto_region 5 with fail
         obtain ⟨a0, c0, hc0, hcl0, _⟩ := (htr4.nodes _ _ hp4).its
         have hc1 := (htr4.nodes _ _ hp4).bel
         obtain ⟨k, hk, hkB, hk0⟩ := htr4.len hp4 3
         have HK := Lib.hid hk0
         have HE : Hid (nits = [] ↔ nits.length = 0) := List.length_eq_zero_iff.symm
         have HFF := Lib.hid HF.out
         clear hk0 HF
         simp only at hc0 hc1 hk hcl0
         generalize nits.length = m at *
         by_cases hm : m = 0
         ·have hm1 : ((m : Int) == 0) = true := beq_iff_eq.2 (by omega)
          have hm2 : (m == 0) = true := beq_iff_eq.2 hm
          by_cases hkz : k = 0
          ·have hz1 : ((k : Int) == 0) = true := beq_iff_eq.2 (by omega)
           have hz2 : (k == 0) = true := beq_iff_eq.2 hkz
           have HB := Lib.hid (HFF.out true ⟨fun _ => ⟨HE.out.2 hm, HK.out.1 hkz⟩, fun _ => rfl⟩)
           clear hm hkz
           go_wp2
           all_goals
                  go_ret
                  exact HB.out
          ·have hz1 : ((k : Int) == 0) = false := beq_eq_false_iff_ne.2 (by omega)
           have hz2 : (k == 0) = false := beq_eq_false_iff_ne.2 hkz
           have HB := Lib.hid (HFF.out false ⟨fun h => (nomatch h), fun h => absurd (HK.out.2 h.2) hkz⟩)
           clear hm hkz
           go_wp2
           all_goals
                  go_ret
                  exact HB.out
         ·have hm1 : ((m : Int) == 0) = false := beq_eq_false_iff_ne.2 (by omega)
          have hm2 : (m == 0) = false := beq_eq_false_iff_ne.2 hm
          have HB := Lib.hid (HFF.out false ⟨fun h => (nomatch h), fun h => absurd (HE.out.1 h.1) hm⟩)
          clear hm
          go_wp2
          all_goals
               go_ret
               exact HB.out
     ·have HFA := Lib.hid hfall
      clear hfall
      by_cases hcc : cap = 1
      ·rw [if_pos hcc] at ha1
       subst ha1
       subst hcc
       obtain rfl : r = [] := List.eq_nil_of_length_eq_zero (by omega)
       simp only [List.length_nil, Nat.zero_add] at HIH hcap' hlen' ⊢
       clear hcap' hlen' hlz
       go_upto_region 5 with (go_at_call 35; go_loud (with_reducible refine (HIH.out _ (by omega)).mono ?_); rintro e w1 ⟨T1, b1, rfl, hb1, htr1, hf1, hf2, hfr1⟩; obtain rfl : b1 = false := (by cases b1 with | false => rfl | true => exact absurd ((falls_child HTW.out HC2.out hf1 hf2).1 (hb1.1 rfl)) HFA.out))
       obtain ⟨hp1, hcc1⟩ := HSM.out T1 hf2
       have HF1 := Lib.hid (And.intro hf1 (And.intro hf2 hfr1))
       have HTR1 := Lib.hid htr1
       have HF : Hid (∀ b, (b = true ↔ nits = [] ∧ ∀ s', T1 (p ++ [s']) = none) → RetPr lo x n B T p (p ++ s :: []) nits w (.returned (.bool b)) w1) := Lib.hid fun b hb => by
        refine ⟨T1, b, rfl, hb, HTR1.out, fun q hq => ?_, fun q hq => ?_, (IxFr.of_below HBW.out).trans HF1.out.2.2⟩
        ·by_cases e : q = p ++ [s]
         ·exact absurd (show Falls T.its p (p ++ s :: []) (p ++ [s]) from e ▸ hq) HFA.out
         ·exact HF1.out.1 q ((falls_iff e).1 hq)
        ·by_cases e : q = p ++ [s]
         ·rw [e, hcc1]; exact HC2.out.symm
         ·exact HF1.out.2.1 q (fun g => hq ((falls_iff e).2 g))
       clear hf1 hf2 hfr1 hb1
       obtain ⟨a0, c0, hc0, hcl0, _⟩ := (htr1.nodes _ _ hp1).its
       have hc1 := (htr1.nodes _ _ hp1).bel
       obtain ⟨k, hk, hkB, hk0⟩ := htr1.len hp1 3
       have HK := Lib.hid hk0
       have HE : Hid (nits = [] ↔ nits.length = 0) := List.length_eq_zero_iff.symm
       have HFF := Lib.hid HF.out
       clear hk0 HF
       simp only at hc0 hc1 hk hcl0
       generalize nits.length = m at *
       by_cases hm : m = 0
       ·have hm1 : ((m : Int) == 0) = true := beq_iff_eq.2 (by omega)
        have hm2 : (m == 0) = true := beq_iff_eq.2 hm
        by_cases hkz : k = 0
        ·have hz1 : ((k : Int) == 0) = true := beq_iff_eq.2 (by omega)
         have hz2 : (k == 0) = true := beq_iff_eq.2 hkz
         have HB := Lib.hid (HFF.out true ⟨fun _ => ⟨HE.out.2 hm, HK.out.1 hkz⟩, fun _ => rfl⟩)
         clear hm hkz
         go_wp2
         all_goals
               go_ret
               exact HB.out
        ·have hz1 : ((k : Int) == 0) = false := beq_eq_false_iff_ne.2 (by omega)
         have hz2 : (k == 0) = false := beq_eq_false_iff_ne.2 hkz
         have HB := Lib.hid (HFF.out false ⟨fun h => (nomatch h), fun h => absurd (HK.out.2 h.2) hkz⟩)
         clear hm hkz
         go_wp2
         all_goals
               go_ret
               exact HB.out
       ·have hm1 : ((m : Int) == 0) = false := beq_eq_false_iff_ne.2 (by omega)
        have hm2 : (m == 0) = false := beq_eq_false_iff_ne.2 hm
        have HB := Lib.hid (HFF.out false ⟨fun h => (nomatch h), fun h => absurd (HE.out.1 h.1) hm⟩)
        clear hm
        go_wp2
        all_goals
           go_ret
           exact HB.out
      ·rw [if_neg hcc] at ha1
       subst ha1
       have HCC := Lib.hid hcc
       go_upto_region 5 with (go_at_call 35; go_loud (with_reducible refine (HIH.out _ (by omega)).mono ?_); rintro e w1 ⟨T1, b1, rfl, hb1, htr1, hf1, hf2, hfr1⟩; obtain rfl : b1 = false := (by cases b1 with | false => rfl | true => exact absurd ((falls_child HTW.out HC2.out hf1 hf2).1 (hb1.1 rfl)) HFA.out))
       obtain ⟨hp1, hcc1⟩ := HSM.out T1 hf2
       have HF1 := Lib.hid (And.intro hf1 (And.intro hf2 hfr1))
       have HTR1 := Lib.hid htr1
       have HF : Hid (∀ b, (b = true ↔ nits = [] ∧ ∀ s', T1 (p ++ [s']) = none) → RetPr lo x n B T p (p ++ s :: r) nits w (.returned (.bool b)) w1) := Lib.hid fun b hb => by
        refine ⟨T1, b, rfl, hb, HTR1.out, fun q hq => ?_, fun q hq => ?_, (IxFr.of_below HBW.out).trans HF1.out.2.2⟩
        ·by_cases e : q = p ++ [s]
         ·exact absurd (show Falls T.its p (p ++ s :: r) (p ++ [s]) from e ▸ hq) HFA.out
         ·exact HF1.out.1 q ((falls_iff e).1 hq)
        ·by_cases e : q = p ++ [s]
         ·rw [e, hcc1]; exact HC2.out.symm
         ·exact HF1.out.2.1 q (fun g => hq ((falls_iff e).2 g))
       clear hf1 hf2 hfr1 hb1
       obtain ⟨a0, c0, hc0, hcl0, _⟩ := (htr1.nodes _ _ hp1).its
       have hc1 := (htr1.nodes _ _ hp1).bel
       obtain ⟨k, hk, hkB, hk0⟩ := htr1.len hp1 3
       have HK := Lib.hid hk0
       have HE : Hid (nits = [] ↔ nits.length = 0) := List.length_eq_zero_iff.symm
       have HFF := Lib.hid HF.out
       clear hk0 HF
       simp only at hc0 hc1 hk hcl0
       generalize nits.length = m at *
       by_cases hm : m = 0
       ·have hm1 : ((m : Int) == 0) = true := beq_iff_eq.2 (by omega)
        have hm2 : (m == 0) = true := beq_iff_eq.2 hm
        by_cases hkz : k = 0
        ·have hz1 : ((k : Int) == 0) = true := beq_iff_eq.2 (by omega)
         have hz2 : (k == 0) = true := beq_iff_eq.2 hkz
         have HB := Lib.hid (HFF.out true ⟨fun _ => ⟨HE.out.2 hm, HK.out.1 hkz⟩, fun _ => rfl⟩)
         clear hm hkz
         go_wp2
         all_goals
               go_ret
               exact HB.out
        ·have hz1 : ((k : Int) == 0) = false := beq_eq_false_iff_ne.2 (by omega)
         have hz2 : (k == 0) = false := beq_eq_false_iff_ne.2 hkz
         have HB := Lib.hid (HFF.out false ⟨fun h => (nomatch h), fun h => absurd (HK.out.2 h.2) hkz⟩)
         clear hm hkz
         go_wp2
         all_goals
               go_ret
               exact HB.out
       ·have hm1 : ((m : Int) == 0) = false := beq_eq_false_iff_ne.2 (by omega)
        have hm2 : (m == 0) = false := beq_eq_false_iff_ne.2 hm
        have HB := Lib.hid (HFF.out false ⟨fun h => (nomatch h), fun h => absurd (HE.out.1 h.1) hm⟩)
        clear hm
        go_wp2
        all_goals
           go_ret
           exact HB.out
end Go.Proofs.Ytohmadchgacafaa
