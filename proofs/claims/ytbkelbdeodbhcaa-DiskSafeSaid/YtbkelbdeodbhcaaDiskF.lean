/- The disk: what its files' changes leave; Read, Sync, Truncate. Conditions: as in the text. -/
import Derived.Test.YtbkelbdeodbhcaaDiskE
set_option linter.unusedSimpArgs false
set_option linter.unusedVariables false
set_option linter.unnecessarySimpa false
namespace Go.Proofs.Ytbkelbdeodbhcaa
open Go.RowKit

variable {F : Nat → Prop} {d : Nat} {S : DS} {b : Nat} {D : DataW Unit} {s : ByteArray} {w w' : World}

theorem file_noDisk {w : World} {fb d b arm : Nat} {down : Bool} {f : DF} (h : FileAt w fb f) (hd : DkCells w d b arm down) : fb ≠ d := by
  rintro rfl
  obtain ⟨a, cap, h1, _⟩ := h
  have := h1.symm.trans hd
  simp at this
theorem file_noMap {w : World} {fb b n : Nat} {f : DF} {D : DataW Unit} (h : FileAt w fb f) (hm : w.ownsMap Try.prog 9 fileR b n D) : fb ≠ b := by
  rintro rfl
  obtain ⟨a, cap, h1, _⟩ := h
  obtain ⟨es, cl, hb, _⟩ := hm
  have := h1.symm.trans hb
  simp at this
theorem disk_noMap {w : World} {d b n arm : Nat} {down : Bool} {D : DataW Unit} (hd : DkCells w d b arm down) (hm : w.ownsMap Try.prog 9 fileR b n D) : d ≠ b := by
  rintro rfl
  obtain ⟨es, cl, hb, _⟩ := hm
  have := (show w.heap[d]? = _ from hd).symm.trans hb
  simp at this
theorem Fr.lt {w : World} {k : Nat} {o : Obj} (h : w.heap[k]? = some o) : k < w.heap.size := (Array.getElem?_eq_some_iff.1 h).1
theorem FileAt.fr {T : Nat → Prop} {fb : Nat} {f : DF} (h : FileAt w fb f) (hf : Fr T w w') (hT : ∀ k, T k → NoByte w k) (hk : ¬ T fb) : FileAt w' fb f := by
  obtain ⟨a, cap, h1, h2, h3⟩ := h
  exact ⟨a, cap, (hf.block fb (Fr.lt h1) hk).trans h1, h2.fr hf hT, h3⟩
theorem ownsMap_fr {T : Nat → Prop} {n : Nat} (h : w.ownsMap Try.prog 9 fileR b n D) (hf : Fr T w w') (hk : ¬ T b) : w'.ownsMap Try.prog 9 fileR b n D := by
  obtain ⟨es, cl, hb, r⟩ := h
  exact ⟨es, cl, (hf.block b (Fr.lt hb) hk).trans hb, r⟩
/-- a disk stays, whatever turns elsewhere -/
theorem DkIn.fr {T : Nat → Prop} (h : DkIn w F d S b D) (hf : Fr T w w') (hT : ∀ k, T k → NoByte w k) (hk : ∀ k, F k → ¬ T k) : DkIn w' F d S b D where
  fd := h.fd
  cells := (hf.block d (Fr.lt h.cells) (hk d h.fd)).trans h.cells
  fb := h.fb
  own := ownsMap_fr h.own hf (hk b h.fb)
  files := ⟨h.files.none, fun s f hg => let ⟨fb, h1, h2, h3⟩ := h.files.some s f hg; ⟨fb, h1, h2, h3.fr hf hT (hk fb h1)⟩, h.files.apart, h.files.has, h.files.size⟩
/-- another number of changes -/
theorem DkIn.setCells {arm : Nat} {down : Bool} (h : DkIn w F d S b D) (hc : DkCells w' d b arm down) (hf : Fr (isR d) w w') : DkIn w' F d { S with arm := arm, down := down } b D where
  fd := h.fd
  cells := hc
  fb := h.fb
  own := ownsMap_fr h.own hf (fun e => disk_noMap h.cells h.own e.symm)
  files := ⟨h.files.none, fun s f hg => let ⟨fb, h1, h2, h3⟩ := h.files.some s f hg; ⟨fb, h1, h2, h3.fr hf (fun k hk => by subst hk; exact NoByte.disk h.cells) (file_noDisk h3 h.cells)⟩, h.files.apart, h.files.has, h.files.size⟩

/-- the files, one of them another one of its name -/
def setF (l : List DF) (f : DF) : List DF := l.map fun g => if g.name = f.name then f else g
theorem getF_name {l : List DF} {s : ByteArray} {f : DF} (h : getF l s = some f) : f.name = s := by
  have := List.find?_some h
  simpa using this
theorem getF_setF (l : List DF) (f : DF) (s : ByteArray) : getF (setF l f) s = if s = f.name then (getF l s).map (fun _ => f) else getF l s := by
  unfold getF setF
  induction l with
  | nil => simp
  | cons g r ih =>
    rw [List.map_cons, List.find?_cons, List.find?_cons]
    by_cases hg : g.name = f.name
    · rw [if_pos hg]
      by_cases hs : s = f.name
      · subst hs; simp [hg]
      · rw [if_neg hs]
        have e1 : decide (f.name = s) = false := decide_eq_false (fun e => hs e.symm)
        have e2 : decide (g.name = s) = false := by rw [hg]; exact e1
        rw [e1, e2]
        simpa [hs] using ih
    · rw [if_neg hg]
      by_cases hgs : g.name = s
      · have hs : ¬ s = f.name := fun e => hg (hgs.trans e)
        simp [hgs, hs]
      · simp only [decide_eq_false hgs]
        exact ih
/-- one file turned in its place -/
theorem DkIn.setFile {fb : Nat} {f g : DF} (h : DkIn w F d S b D) (hg : getF S.f s = some g) (hfb : D.atKey (nk s) .nil = .lit (.int .i64 fb)) (hn : f.name = s) (hf : FileAt w' fb f) (hg0 : FileAt w fb g) (hfr : Fr (isR fb) w w') :
    DkIn w' F d { S with f := setF S.f f } b D := by
  have hnb : ∀ k, isR fb k → NoByte w k := fun k hk => by
    subst hk
    obtain ⟨a, cap, h1, _⟩ := hg0
    exact NoByte.file h1
  have hlen : (setF S.f f).length = S.f.length := by simp [setF]
  refine ⟨h.fd, (hfr.block d (Fr.lt h.cells) (fun e => file_noDisk hg0 h.cells e.symm)).trans h.cells, h.fb, ?_, ?_⟩
  · show w'.ownsMap Try.prog 9 fileR b (setF S.f f).length D
    rw [hlen]
    exact ownsMap_fr h.own hfr (fun e => file_noMap hg0 h.own e.symm)
  · refine ⟨?_, ?_, h.files.apart, ?_, by rw [hlen]; exact h.files.size⟩
    · intro t ht
      rw [getF_setF] at ht
      refine h.files.none t ?_
      split at ht
      · simpa using ht
      · exact ht
    · intro t f' ht
      rw [getF_setF] at ht
      split at ht
      · rename_i e
        obtain rfl : t = s := e.trans hn
        rw [hg] at ht
        obtain rfl : f = f' := by simpa using ht
        obtain ⟨fb', h1, h2, _⟩ := h.files.some t g hg
        obtain rfl : fb' = fb := by have := h2.symm.trans hfb; simp at this; omega
        exact ⟨fb', h1, h2, hf⟩
      · rename_i e
        obtain ⟨fb', h1, h2, h3⟩ := h.files.some t f' ht
        refine ⟨fb', h1, h2, h3.fr hfr hnb (fun e2 => ?_)⟩
        have e3 : fb' = fb := e2
        subst e3
        exact e ((h.files.apart t s fb' h2 hfb).trans hn.symm)
    · intro t
      rw [h.files.has, getF_setF]
      split <;> simp
end Go.Proofs.Ytbkelbdeodbhcaa
