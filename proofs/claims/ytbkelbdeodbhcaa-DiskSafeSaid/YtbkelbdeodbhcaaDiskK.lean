/- The disk's map: a file put at a name. Conditions: as in the text. -/
import Derived.Test.YtbkelbdeodbhcaaDiskJ
set_option linter.unusedSimpArgs false
set_option linter.unusedVariables false
set_option linter.unnecessarySimpa false
namespace Go.Proofs.Ytbkelbdeodbhcaa
open Go.RowKit

variable {F : Nat → Prop} {d : Nat} {S : DS} {b : Nat} {D : DataW Unit} {s : ByteArray} {w w' : World}

def nameLt (a b : ByteArray) : Bool := decide (bl a < bl b)
/-- a file ahead of the first whose name is not less -/
def insF : List DF → DF → List DF
  | [], f => [f]
  | g :: r, f => if nameLt g.name f.name then g :: insF r f else f :: g :: r
/-- files with another one, by names -/
def putF (l : List DF) (f : DF) : List DF := insF (delF l f.name) f
theorem insF_len (f : DF) : ∀ l : List DF, (insF l f).length = l.length + 1
  | [] => rfl
  | g :: r => by
    unfold insF
    split
    · simp [insF_len f r]
    · rfl
theorem getF_insF (f : DF) (u : ByteArray) : ∀ l : List DF, getF l f.name = none → getF (insF l f) u = if u = f.name then some f else getF l u
  | [], _ => by
    by_cases h : u = f.name
    · subst h; simp [insF, getF]
    · have : ¬ f.name = u := fun e => h e.symm
      simp [insF, getF, h, this]
  | g :: r, hn => by
    have hg : ¬ g.name = f.name := by
      intro e
      simp [getF, e] at hn
    have hr : getF r f.name = none := by
      unfold getF at hn ⊢
      rw [List.find?_cons, show decide (g.name = f.name) = false from decide_eq_false hg] at hn
      exact hn
    have ih := getF_insF f u r hr
    unfold insF
    split
    · unfold getF at ih ⊢
      rw [List.find?_cons, List.find?_cons]
      by_cases hu : g.name = u
      · have : ¬ u = f.name := fun e => hg (hu.trans e)
        simp [hu, this]
      · simp only [decide_eq_false hu]
        exact ih
    · unfold getF
      rw [List.find?_cons]
      by_cases hu : u = f.name
      · subst hu; simp
      · have : ¬ f.name = u := fun e => hu e.symm
        simp [hu, this]
theorem getF_putF (l : List DF) (f : DF) (u : ByteArray) : getF (putF l f) u = if u = f.name then some f else getF l u := by
  unfold putF
  rw [getF_insF f u _ (by rw [getF_delF]; simp)]
  by_cases h : u = f.name
  · simp [h]
  · rw [if_neg h, if_neg h, getF_delF, if_neg h]
theorem putF_len {l : List DF} (hu : Uniq l) (f : DF) : (putF l f).length = if (getF l f.name).isSome then l.length else l.length + 1 := by
  unfold putF
  rw [insF_len]
  cases h : getF l f.name with
  | none => rw [delF_none h]; rfl
  | some g => rw [delF_len hu h]; rfl
theorem isKey_nk (s : ByteArray) : WideAt.IsKeyLit (nk s) := by
  unfold nk; exact trivial
/-- a file put at its name -/
theorem DkIn.putFile {f : DF} {fb n : Nat} (h : DkIn w F d S b D) (hu : Uniq S.f) (hF : F fb) (hf : FileAt w fb f) (hfree : ∀ u, D.atKey (nk u) .nil = .lit (.int .i64 fb) → u = f.name)
    (hown : w'.ownsMap Try.prog 9 fileR b n (D.put (nk f.name) (.lit (.int .i64 fb)))) (hfr : Fr (isR b) w w') :
    DkIn w' F d { S with f := putF S.f f } b (D.put (nk f.name) (.lit (.int .i64 fb))) := by
  have hnb : ∀ k, isR b k → NoByte w k := fun k hk => by
    subst hk
    obtain ⟨es, cl, hb, _⟩ := h.own
    exact NoByte.map hb
  have hM := h.own.isMap
  have hsz : Maps.size (D.put (nk f.name) (.lit (.int .i64 fb))) = (putF S.f f).length := by
    rw [Maps.size_put (h.own.tidy nlaw), h.files.has, h.files.size, putF_len hu]
  refine ⟨h.fd, (hfr.block d (Fr.lt h.cells) (disk_noMap h.cells h.own)).trans h.cells, h.fb, ?_, ?_⟩
  · have h1 := ownsMap_tight hown
    rw [hsz] at h1
    exact h1
  · refine ⟨?_, ?_, ?_, ?_, hsz⟩
    · intro t ht
      rw [getF_putF] at ht
      by_cases e : t = f.name
      · rw [if_pos e] at ht; cases ht
      · rw [if_neg e] at ht
        rw [Maps.atKey_put_other (fun e2 => e (nk_inj e2))]
        exact h.files.none t ht
    · intro t f' ht
      rw [getF_putF] at ht
      by_cases e : t = f.name
      · rw [if_pos e] at ht
        obtain rfl : f = f' := by simpa using ht
        subst e
        exact ⟨fb, hF, Maps.atKey_put_same hM (isKey_nk _) _ _, hf.fr hfr hnb (file_noMap hf h.own)⟩
      · rw [if_neg e] at ht
        obtain ⟨fb', h1, h2, h3⟩ := h.files.some t f' ht
        exact ⟨fb', h1, by rw [Maps.atKey_put_other (fun e2 => e (nk_inj e2))]; exact h2, h3.fr hfr hnb (file_noMap h3 h.own)⟩
    · intro t u x ht hu'
      by_cases e : t = f.name
      · subst e
        rw [Maps.atKey_put_same hM (isKey_nk _)] at ht
        by_cases e2 : u = f.name
        · exact e2.symm
        · rw [Maps.atKey_put_other (fun e3 => e2 (nk_inj e3)), ← ht] at hu'
          exact absurd (hfree u hu') e2
      · rw [Maps.atKey_put_other (fun e3 => e (nk_inj e3))] at ht
        by_cases e2 : u = f.name
        · subst e2
          rw [Maps.atKey_put_same hM (isKey_nk _)] at hu'
          rw [← hu'] at ht
          exact hfree t ht
        · rw [Maps.atKey_put_other (fun e3 => e2 (nk_inj e3))] at hu'
          exact h.files.apart t u x ht hu'
    · intro t
      rw [getF_putF]
      by_cases e : t = f.name
      · subst e; simp [Maps.has_put_same hM (isKey_nk _)]
      · rw [if_neg e, Maps.has_put_other (fun e2 => e (nk_inj e2))]
        exact h.files.has t
end Go.Proofs.Ytbkelbdeodbhcaa
