/- The disk: Names: the files' names, in order. Conditions: at most 8 files, in order. -/
import Derived.Test.YtbkelbdeodbhcaaDiskP
import Derived.Test.YtbkelbdeodbhcaaDPlain
import Derived.Sort.KeysCollected
set_option linter.unusedSimpArgs false
set_option linter.unusedVariables false
set_option linter.unnecessarySimpa false
namespace Go.Proofs.Ytbkelbdeodbhcaa
open Go.RowKit Go.Maps Go.Sort

variable {F : Nat → Prop} {d : Nat} {S : DS} {b : Nat} {D : DataW Unit} {s : ByteArray} {w w' : World}
def nameVals (l : List DF) : List Value := l.map fun f => .string f.name
theorem getF_some_iff {l : List DF} {s : ByteArray} : (getF l s).isSome = true ↔ ∃ f ∈ l, f.name = s := by
  unfold getF
  rw [List.find?_isSome]
  simp
theorem names_perm (h : DkIn w F d S b D) (hs : Srt S.f) : (S.f.map fun f => bl f.name).Perm (strKeys D) := by
  refine Collected.perm (left := fun _ => false) ⟨?_, fun x => ?_⟩ h.own nlaw Try.underlying9 (fun _ => rfl)
  · refine List.pairwise_map.2 (hs.imp fun {a b} hlt e => ?_)
    exact nameLt_ne hlt (bl_inj e)
  · have hh := h.files.has (mkS x)
    rw [show nk (mkS x) = .string x from rfl] at hh
    rw [hh, getF_some_iff]
    simp only [and_true, List.mem_map]
    constructor
    · rintro ⟨f, hf, rfl⟩; exact ⟨f, hf, (mkS_bl _).symm⟩
    · rintro ⟨f, hf, e⟩; exact ⟨f, hf, by rw [e]; rfl⟩
theorem names_sorted (h : DkIn w F d S b D) (hs : Srt S.f) {ss : List (List UInt8)} (hp : ss.Perm (strKeys D)) : ss.mergeSort (fun x y => decide (x ≤ y)) = S.f.map fun f => bl f.name := by
  have e1 := mergeSort_of_perm (hp.trans (names_perm h hs).symm)
  refine e1.trans (List.mergeSort_of_pairwise ?_)
  refine List.pairwise_map.2 (hs.imp fun {a b} hlt => ?_)
  simp only [leB, decide_eq_true_eq]
  exact List.le_of_lt (nameLt_iff.1 hlt)
theorem Names_srt (h : DkIn w F d S b D) (hs : Srt S.f) (h8 : S.f.length ≤ 8) : Calls Try.prog 26 #[.pointer (some ⟨d, 0, none⟩)] w fun e w' => ∃ a cap, e = .returned (.slice a S.f.length cap) ∧ CellsIn w' a (nameVals S.f) ∧ Below w.heap.size w w' := by
  refine (Names_any h h8).mono ?_
  rintro e w' ⟨v, ss, rfl, hp, hrow, _, hb⟩
  rw [names_sorted h hs hp] at hrow
  have hlen : ss.length = S.f.length := by have := (hp.trans (names_perm h hs).symm).length_eq; rwa [List.length_map] at this
  have he : (S.f.map fun f => bl f.name).map encStr = nameVals S.f := by
    rw [List.map_map]
    refine List.map_congr_left fun f _ => ?_
    show encStr (bl f.name) = _
    unfold encStr
    rfl
  rw [he, hlen] at hrow
  obtain ⟨a, cap, rfl, hc, _⟩ := own_cellsIn hrow
  exact ⟨a, cap, rfl, hc, hb⟩
end Go.Proofs.Ytbkelbdeodbhcaa
