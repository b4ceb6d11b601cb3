/- The disk: Truncate, Remove. Conditions: as in the text. -/
import Derived.Test.YtbkelbdeodbhcaaDiskG
set_option linter.unusedSimpArgs false
set_option linter.unusedVariables false
set_option linter.unnecessarySimpa false
namespace Go.Proofs.Ytbkelbdeodbhcaa
open Go.RowKit

variable {F : Nat → Prop} {d : Nat} {S : DS} {b : Nat} {D : DataW Unit} {s : ByteArray} {w w' : World}

/-! ### Remove -/
def delF (l : List DF) (s : ByteArray) : List DF := l.filter fun f => !decide (f.name = s)
theorem getF_delF (l : List DF) (s t : ByteArray) : getF (delF l s) t = if t = s then none else getF l t := by
  unfold getF delF
  induction l with
  | nil => simp
  | cons g r ih =>
    by_cases hg : g.name = s
    · rw [List.filter_cons_of_neg (by simp [hg]), List.find?_cons, ih]
      by_cases ht : t = s
      · simp [ht]
      · have e : decide (g.name = t) = false := decide_eq_false (fun e => ht (e.symm.trans hg))
        rw [e]
    · rw [List.filter_cons_of_pos (by simp [hg]), List.find?_cons, List.find?_cons, ih]
      by_cases ht : t = s
      · subst ht
        simp [hg]
      · simp [ht]
def DS.remove (S : DS) (s : ByteArray) : DS × Int :=
  if nameOk s then (match getF S.f s with
    | none => (S, 10)
    | some _ => if S.change.down then (S.change, 12) else ({ S.change with f := delF S.f s }, 0)) else (S, 1)
/-- no two files bear one name -/
def Uniq (l : List DF) : Prop := l.Pairwise fun f g => f.name ≠ g.name
theorem delF_none {l : List DF} {s : ByteArray} (h : getF l s = none) : delF l s = l := by
  unfold getF at h
  unfold delF
  rw [List.filter_eq_self]
  intro f hf
  have := List.find?_eq_none.1 h f hf
  simpa using this
theorem delF_len : ∀ {l : List DF} {s : ByteArray} {f : DF}, Uniq l → getF l s = some f → (delF l s).length + 1 = l.length
  | [], s, f, _, h => by simp [getF] at h
  | g :: r, s, f, hu, h => by
    obtain ⟨h1, h2⟩ := List.pairwise_cons.1 hu
    by_cases hg : g.name = s
    · have hn : getF r s = none := by
        unfold getF
        rw [List.find?_eq_none]
        intro x hx
        have := h1 x hx
        simp only [decide_eq_true_eq]
        intro e
        exact this (hg.trans e.symm)
      have e1 : delF (g :: r) s = delF r s := by unfold delF; rw [List.filter_cons_of_neg (by simp [hg])]
      rw [e1, delF_none hn]
      rfl
    · have e1 : delF (g :: r) s = g :: delF r s := by unfold delF; rw [List.filter_cons_of_pos (by simp [hg])]
      have e2 : getF r s = some f := by
        unfold getF at h ⊢
        rw [List.find?_cons, show decide (g.name = s) = false from decide_eq_false hg] at h
        exact h
      have := delF_len h2 e2
      rw [e1]
      simp only [List.length_cons]
      omega
theorem ownsMap_tight {w : World} {b n : Nat} {D : DataW Unit} (h : w.ownsMap Try.prog 9 fileR b n D) : w.ownsMap Try.prog 9 fileR b (Maps.size D) D := by
  obtain ⟨es, cl, hb, Ft, hs, rfl⟩ := h
  exact ⟨es, cl, hb, Ft, by simp [Maps.size, length_sorted], rfl⟩
theorem fr_map (h : w.grownBy w' (some b)) : Fr (isR b) w w' := ⟨h.os, h.tape, h.output, h.size, fun k hk hb => h.block k hk (fun e => hb (by simpa using e))⟩
/-- a file that is no more -/
theorem DkIn.delFile {f : DF} {n : Nat} (h : DkIn w F d S b D) (hu : Uniq S.f) (hg : getF S.f s = some f) (hown : w'.ownsMap Try.prog 9 fileR b n (D.del (nk s))) (hfr : Fr (isR b) w w') :
    DkIn w' F d { S with f := delF S.f s } b (D.del (nk s)) := by
  have hnb : ∀ k, isR b k → NoByte w k := fun k hk => by
    subst hk
    obtain ⟨es, cl, hb, _⟩ := h.own
    exact NoByte.map hb
  have hlen := delF_len hu hg
  have hsz : Maps.size (D.del (nk s)) = (delF S.f s).length := by
    have h1 := Maps.size_del (k := nk s) (h.own.tidy nlaw)
    rw [h.files.has, hg] at h1
    have h2 := h.files.size
    simp at h1
    omega
  refine ⟨h.fd, (hfr.block d (Fr.lt h.cells) (disk_noMap h.cells h.own)).trans h.cells, h.fb, ?_, ?_⟩
  · have h1 := ownsMap_tight hown
    rw [hsz] at h1
    exact h1
  · refine ⟨?_, ?_, ?_, ?_, hsz⟩
    · intro t ht
      rw [getF_delF] at ht
      by_cases e : t = s
      · subst e; exact Maps.atKey_del_same _
      · rw [if_neg e] at ht
        rw [Maps.atKey_del_other (fun e2 => e (nk_inj e2))]
        exact h.files.none t ht
    · intro t f' ht
      rw [getF_delF] at ht
      by_cases e : t = s
      · rw [if_pos e] at ht; cases ht
      · rw [if_neg e] at ht
        obtain ⟨fb, h1, h2, h3⟩ := h.files.some t f' ht
        exact ⟨fb, h1, by rw [Maps.atKey_del_other (fun e2 => e (nk_inj e2))]; exact h2, h3.fr hfr hnb (file_noMap h3 h.own)⟩
    · intro t u fb ht hu'
      by_cases e : t = s
      · subst e; rw [Maps.atKey_del_same] at ht; cases ht
      · by_cases e2 : u = s
        · subst e2; rw [Maps.atKey_del_same] at hu'; cases hu'
        · rw [Maps.atKey_del_other (fun e3 => e (nk_inj e3))] at ht
          rw [Maps.atKey_del_other (fun e3 => e2 (nk_inj e3))] at hu'
          exact h.files.apart t u fb ht hu'
    · intro t
      rw [getF_delF]
      by_cases e : t = s
      · subst e; simp [Maps.has_del_same]
      · rw [if_neg e, Maps.has_del_other (fun e2 => e (nk_inj e2))]
        exact h.files.has t
end Go.Proofs.Ytbkelbdeodbhcaa
