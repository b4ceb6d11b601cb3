/- The disk: Crash: what is to be kept, as a map. Conditions: as in the text. -/
import Derived.Test.YtbkelbdeodbhcaaDNames
set_option linter.unusedSimpArgs false
set_option linter.unusedVariables false
set_option linter.unnecessarySimpa false
namespace Go.Proofs.Ytbkelbdeodbhcaa
open Go.RowKit

variable {F : Nat → Prop} {d : Nat} {S : DS} {b : Nat} {D : DataW Unit} {s : ByteArray} {w w' : World}
abbrev kpCells (p : ByteArray × Int) : List Value := [.string p.1, .int .i64 p.2]
def kcs : Ks → List Value
  | [] => []
  | p :: l => kpCells p ++ kcs l
theorem kcs_length (l : Ks) : (kcs l).length = l.length * 2 := by
  induction l with
  | nil => rfl
  | cons g l ih => simp only [kcs, List.length_append, ih, List.length_cons, List.length_nil]; omega
theorem kcs_drop : ∀ (l : Ks) (k : Nat), (kcs l).drop (k * 2) = kcs (l.drop k)
  | l, 0 => by simp
  | [], k + 1 => by simp [kcs]
  | g :: l, k + 1 => by
    rw [show (k + 1) * 2 = k * 2 + 2 by omega, List.drop_succ_cons, ← kcs_drop l k]
    simp [kcs]
theorem kcs_at {w : World} {a : Option Addr} {ks : Ks} (h : CellsIn w a (kcs ks)) {k : Nat} (hk : k < ks.length) :
    ∃ A off, a = some ⟨A, off, none⟩ ∧ w.cell? ⟨A, off + k * 2, none⟩ = some (.string ks[k].1) ∧ w.cell? ⟨A, off + k * 2 + 1, none⟩ = some (.int .i64 ks[k].2) := by
  have hd : (kcs ks).drop (k * 2) = kpCells ks[k] ++ kcs (ks.drop (k + 1)) := by rw [kcs_drop, List.drop_eq_getElem_cons hk]; rfl
  rcases h with h | ⟨A, off, h1, h2⟩
  · have := congrArg List.length h
    rw [kcs_length] at this
    simp at this
    omega
  · refine ⟨A, off, h1, h2 (k * 2) _ ?_, ?_⟩
    · have := congrArg (·[0]?) hd
      simpa using this
    · have := h2 (k * 2 + 1) (.int .i64 ks[k].2) (by have := congrArg (·[1]?) hd; simpa using this)
      rwa [← Nat.add_assoc] at this
/-- cells that begin with a text stay, whatever turns where no text lies -/
theorem CellsIn.frS {T : Nat → Prop} {a : Option Addr} {cs : List Value} (h : CellsIn w a cs) (hf : Fr T w w') (hT : ∀ k, T k → NoStr w k) (h0 : cs = [] ∨ ∃ t, cs[0]? = some (.string t)) : CellsIn w' a cs := by
  rcases h with h | ⟨A, off, h1, h2⟩
  · exact Or.inl h
  · rcases h0 with h0 | ⟨t, h0⟩
    · exact Or.inl h0
    · exact Or.inr ⟨A, off, h1, fun j v hv => hf.kept (h2 j v hv) (fun hA => hT A hA _ _ (h2 0 _ h0))⟩
theorem kcs_head (ks : Ks) : kcs ks = [] ∨ ∃ t, (kcs ks)[0]? = some (.string t) := by
  cases ks with
  | nil => exact Or.inl rfl
  | cons p r => exact Or.inr ⟨p.1, rfl⟩
theorem nameVals_head (l : List DF) : nameVals l = [] ∨ ∃ t, (nameVals l)[0]? = some (.string t) := by
  cases l with
  | nil => exact Or.inl rfl
  | cons p r => exact Or.inr ⟨p.name, rfl⟩
theorem DkCells.noStr {w : World} {k b arm : Nat} {down : Bool} (h : DkCells w k b arm down) : NoStr w k := by
  intro o c e
  simp only [World.cell?, show w.heap[k]? = _ from h] at e
  match o, e with
  | 0, e => simp at e
  | 1, e => simp at e
  | 2, e => simp at e
  | o + 3, e => simp at e
theorem FileAt.noStr {w : World} {fb : Nat} {f : DF} (h : FileAt w fb f) : NoStr w fb := by
  obtain ⟨a, cap, h1, _⟩ := h
  intro o c e
  simp only [World.cell?, h1] at e
  match o, e with
  | 0, e => simp at e
  | 1, e => simp at e
  | o + 2, e => simp at e
/-- a map of numbers by names -/
abbrev KeepMap (w : World) (M n : Nat) (E : DataW Unit) : Prop := w.ownsMap Try.prog 9 (plainElem Try.prog 3) M n E
theorem KeepMap.keep {M n : Nat} {E : DataW Unit} (h : KeepMap w M n E) (hk : w'.heap[M]? = w.heap[M]?) : KeepMap w' M n E := by
  obtain ⟨es, cl, hb, r⟩ := h
  exact ⟨es, cl, hk.trans hb, r⟩
theorem KeepMap.lt {M n : Nat} {E : DataW Unit} (h : KeepMap w M n E) : M < w.heap.size := by
  obtain ⟨es, cl, hb, r⟩ := h
  exact (Array.getElem?_eq_some_iff.1 hb).1
/-- the map has the last number of each name -/
def KeepIs (E : DataW Unit) (ks : Ks) : Prop := ∀ s : ByteArray, E.atKey (nk s) (.lit (.int .i64 0)) = .lit (.int .i64 (keepOf ks s))
theorem KeepIs.put {E : DataW Unit} {ks : Ks} {k : Nat} (h : KeepIs E (ks.take k)) (hm : Maps.IsMap E) (hk : k < ks.length) : KeepIs (E.put (nk ks[k].1) (.lit (.int .i64 ks[k].2))) (ks.take (k + 1)) := by
  intro s
  rw [keepOf_snoc ks k hk]
  by_cases e : ks[k].1 = s
  · rw [if_pos e, e, Maps.atKey_put_same hm (isKey_nk s)]
  · rw [if_neg e, Maps.atKey_put_other (fun e2 => e (nk_inj e2).symm), h s]
theorem int_elem {n : Int} (h : (Lit.int .i64 n).wf = true) : plainElem (H := Unit) Try.prog 3 (.int .i64 n) = some (.lit (.int .i64 n), []) := plainElem_int Try.underlying3 h
theorem srt_eq {l : List DF} (hs : Srt l) {f g : DF} (hf : f ∈ l) (hg : g ∈ l) (hn : f.name = g.name) : f = g := by
  obtain ⟨i, hi, rfl⟩ := List.getElem_of_mem hf
  obtain ⟨j, hj, rfl⟩ := List.getElem_of_mem hg
  rcases Nat.lt_trichotomy i j with h | h | h
  · exact absurd hn (nameLt_ne (List.pairwise_iff_getElem.1 hs i j hi hj h))
  · subst h; rfl
  · exact absurd hn.symm (nameLt_ne (List.pairwise_iff_getElem.1 hs j i hj hi h))
/-- so many files are behind a crash -/
def crashed (S : DS) (ks : Ks) (k : Nat) : DS := ⟨(S.f.take k).map (crashF ks) ++ S.f.drop k, 0, false⟩
theorem crashed_zero (S : DS) (ks : Ks) : crashed S ks 0 = ⟨S.f, 0, false⟩ := by simp [crashed]
theorem crashed_all (S : DS) (ks : Ks) : crashed S ks S.f.length = S.crash ks := by simp [crashed, DS.crash]
theorem crashed_names (S : DS) (ks : Ks) (k : Nat) : (crashed S ks k).f.map (·.name) = S.f.map (·.name) := by
  show ((S.f.take k).map (crashF ks) ++ S.f.drop k).map (·.name) = _
  rw [List.map_append, List.map_map]
  conv => rhs; rw [← List.take_append_drop k S.f, List.map_append]
  rfl
theorem crashed_at {S : DS} {ks : Ks} {k : Nat} (hs : Srt S.f) (h : k < S.f.length) : getF (crashed S ks k).f S.f[k].name = some S.f[k] := by
  have hsk : Srt (crashed S ks k).f := hs.names (crashed_names S ks k)
  have hmem : S.f[k] ∈ (crashed S ks k).f := List.mem_append_right _ (List.mem_drop_iff_getElem.2 ⟨0, by omega, by simp⟩)
  obtain ⟨f, hf⟩ := Option.isSome_iff_exists.1 (getF_some_iff.2 ⟨_, hmem, rfl⟩)
  have h1 := getF_mem hf
  have h2 := getF_name hf
  rw [hf]
  congr 1
  exact srt_eq hsk h1 hmem h2
theorem crashed_step {S : DS} {ks : Ks} {k : Nat} (hs : Srt S.f) (h : k < S.f.length) : setF (crashed S ks k).f (crashF ks S.f[k]) = (crashed S ks (k + 1)).f := by
  have hsk : Srt S.f := hs
  have hne : ∀ i (hi : i < S.f.length), i ≠ k → S.f[i].name ≠ S.f[k].name := fun i hi hik e => by
    rcases Nat.lt_or_gt_of_ne hik with h1 | h1
    · exact nameLt_ne (List.pairwise_iff_getElem.1 hs i k hi h h1) e
    · exact nameLt_ne (List.pairwise_iff_getElem.1 hs k i h hi h1) e.symm
  show setF ((S.f.take k).map (crashF ks) ++ S.f.drop k) _ = (S.f.take (k + 1)).map (crashF ks) ++ S.f.drop (k + 1)
  unfold setF
  rw [List.map_append, List.take_succ_eq_append_getElem h, List.map_append, List.append_assoc, List.drop_eq_getElem_cons h, List.map_cons]
  congr 1
  · conv => rhs; rw [← List.map_id ((S.f.take k).map (crashF ks))]
    refine List.map_congr_left fun x hx => if_neg ?_
    obtain ⟨y, hy, rfl⟩ := List.mem_map.1 hx
    obtain ⟨i, hi, rfl⟩ := List.mem_take_iff_getElem.1 hy
    exact hne i (by omega) (by omega)
  · rw [show (S.f[k].name = (crashF ks S.f[k]).name) from rfl]
    simp only [if_true, List.map_cons, List.map_nil, List.cons_append, List.nil_append]
    congr 1
    conv => rhs; rw [← List.map_id (S.f.drop (k + 1))]
    refine List.map_congr_left fun x hx => if_neg ?_
    obtain ⟨i, hi, rfl⟩ := List.mem_drop_iff_getElem.1 hx
    exact hne _ (by omega) (by omega)
end Go.Proofs.Ytbkelbdeodbhcaa
