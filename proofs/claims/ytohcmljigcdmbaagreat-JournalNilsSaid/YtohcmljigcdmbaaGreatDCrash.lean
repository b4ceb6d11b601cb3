/- The plain disk: its files lie in order; what keeps so. Conditions: none. -/
import Derived.Test.YtohcmljigcdmbaaGreatDRefF
import Derived.Sort.KeysCollected
set_option linter.unusedSimpArgs false
set_option linter.unusedVariables false
set_option linter.unnecessarySimpa false
set_option maxHeartbeats 16000000
set_option maxRecDepth 100000
namespace Go.Proofs.YtohcmljigcdmbaaGreat
open Go.RowKit
theorem nameLt_iff {a b : ByteArray} : nameLt a b = true ↔ bl a < bl b := by unfold nameLt; simp
theorem nameLt_trans {a b c : ByteArray} (h : nameLt a b = true) (k : nameLt b c = true) : nameLt a c = true := nameLt_iff.2 (List.lt_trans (nameLt_iff.1 h) (nameLt_iff.1 k))
theorem nameLt_irrefl (a : ByteArray) : nameLt a a = false := by
 rw [Bool.eq_false_iff]; intro h; exact List.lt_irrefl _ (nameLt_iff.1 h)
theorem nameLt_ne {a b : ByteArray} (h : nameLt a b = true) : a ≠ b := by
 rintro rfl; rw [nameLt_irrefl] at h; cases h
theorem nameLt_tri {a b : ByteArray} (h : nameLt a b = false) (hne : a ≠ b) : nameLt b a = true := by
 rw [nameLt_iff]
 have h1 : ¬ bl a < bl b := fun e => by rw [nameLt_iff.2 e] at h; cases h
 have h2 : bl b ≤ bl a := List.not_lt.1 h1
 rcases Decidable.em (bl b < bl a) with e | e
 ·exact e
 ·exact absurd (bl_inj (List.le_antisymm (List.not_lt.1 e) h2)) hne
/-- files by names -/
def Srt (l : List DF) : Prop := l.Pairwise fun f g => nameLt f.name g.name = true
theorem Srt.uniq {l : List DF} (h : Srt l) : Uniq l := h.imp fun h => nameLt_ne h
theorem Srt.del {l : List DF} (h : Srt l) (s : ByteArray) : Srt (delF l s) := h.filter _
theorem insF_mem {x f : DF} : ∀ {l : List DF}, x ∈ insF l f → x = f ∨ x ∈ l
 | [], h => by simpa [insF] using h
 | g :: r, h => by
   unfold insF at h
   split at h
   ·rcases List.mem_cons.1 h with h | h
    ·exact Or.inr (by simp [h])
    ·rcases insF_mem h with h | h
     ·exact Or.inl h
     ·exact Or.inr (List.mem_cons_of_mem _ h)
   ·rcases List.mem_cons.1 h with h | h
    ·exact Or.inl h
    ·exact Or.inr h
theorem Srt.ins {f : DF} : ∀ {l : List DF}, Srt l → (∀ g ∈ l, g.name ≠ f.name) → Srt (insF l f)
 | [], _, _ => List.pairwise_singleton _ _
 | g :: r, h, hne => by
   obtain ⟨h1, h2⟩ := List.pairwise_cons.1 h
   unfold insF
   split
   ·rename_i hlt
    refine List.pairwise_cons.2 ⟨fun x hx => ?_, Srt.ins h2 fun x hx => hne x (List.mem_cons_of_mem _ hx)⟩
    rcases insF_mem hx with rfl | hx
    ·exact hlt
    ·exact h1 x hx
   ·rename_i hlt
    have hfg := nameLt_tri (Bool.eq_false_iff.2 hlt) (hne g (by simp))
    refine List.pairwise_cons.2 ⟨fun x hx => ?_, h⟩
    rcases List.mem_cons.1 hx with rfl | hx
    ·exact hfg
    ·exact nameLt_trans hfg (h1 x hx)
theorem delF_ne {l : List DF} {s : ByteArray} : ∀ g ∈ delF l s, g.name ≠ s := fun g hg => by
 have := (List.mem_filter.1 hg).2
 simpa using this
theorem Srt.put {l : List DF} (h : Srt l) (f : DF) : Srt (putF l f) := (h.del _).ins delF_ne
theorem Srt.names {l m : List DF} (h : Srt l) (hn : m.map (·.name) = l.map (·.name)) : Srt m := by
 have h1 : (l.map (·.name)).Pairwise fun a b => nameLt a b = true := List.pairwise_map.2 h
 rw [← hn] at h1
 exact List.pairwise_map.1 h1
theorem setF_names (l : List DF) (f : DF) : (setF l f).map (·.name) = l.map (·.name) := by
 unfold setF
 rw [List.map_map]
 refine List.map_congr_left fun g _ => ?_
 simp only [Function.comp]
 split
 ·rename_i h; exact h.symm
 ·rfl
theorem Srt.set {l : List DF} (h : Srt l) (f : DF) : Srt (setF l f) := h.names (setF_names l f)
/-! ### what keeps so -/
structure FOk (f : DF) : Prop where
 name : nameOk f.name = true
 len : f.b.length ≤ 16777216
 safe : f.safe ≤ f.b.length
structure DInv (S : DS) : Prop where
 srt : Srt S.f
 len : S.f.length ≤ 8
 arm : S.arm ≤ 1048576
 ok : ∀ f ∈ S.f, FOk f
theorem getF_mem {l : List DF} {s : ByteArray} {f : DF} (h : getF l s = some f) : f ∈ l := List.mem_of_find?_eq_some h
theorem delF_sub {l : List DF} {s : ByteArray} : ∀ f ∈ delF l s, f ∈ l := fun f h => (List.mem_filter.1 h).1
theorem putF_mem {l : List DF} {f x : DF} (h : x ∈ putF l f) : x = f ∨ x ∈ l := by
 rcases insF_mem h with h | h
 ·exact Or.inl h
 ·exact Or.inr (delF_sub _ h)
theorem setF_mem {l : List DF} {f x : DF} (h : x ∈ setF l f) : x = f ∨ x ∈ l := by
 obtain ⟨y, hy, rfl⟩ := List.mem_map.1 h
 split
 ·exact Or.inl rfl
 ·exact Or.inr hy
theorem delF_len_le (l : List DF) (s : ByteArray) : (delF l s).length ≤ l.length := List.length_filter_le _ _
theorem DInv.change {S : DS} (h : DInv S) : DInv S.change := ⟨h.srt, h.len, by show S.arm - 1 ≤ 1048576; have := h.arm; omega, h.ok⟩
theorem DInv.sync {S : DS} (h : DInv S) (s : ByteArray) : DInv (S.sync s).1 := by
 unfold DS.sync
 split
 ·split
  ·exact h
  ·rename_i f hg
   split
   ·exact h.change
   ·refine ⟨h.srt.set _, by show (setF S.f _).length ≤ 8; unfold setF; rw [List.length_map]; exact h.len, h.change.arm, fun x hx => ?_⟩
    rcases setF_mem hx with rfl | hx
    ·have := h.ok f (getF_mem hg); exact ⟨this.name, this.len, Nat.le_refl _⟩
    ·exact h.ok x hx
 ·exact h
theorem DInv.trunc {S : DS} (h : DInv S) (s : ByteArray) (n : Int) : DInv (S.trunc s n).1 := by
 unfold DS.trunc
 split
 ·split
  ·exact h
  ·rename_i f hg
   split
   ·exact h
   ·split
    ·exact h.change
    ·refine ⟨h.srt.set _, by show (setF S.f _).length ≤ 8; unfold setF; rw [List.length_map]; exact h.len, h.change.arm, fun x hx => ?_⟩
     rcases setF_mem hx with rfl | hx
     ·have := h.ok f (getF_mem hg)
      exact ⟨this.name, by show (f.b.take n.toNat).length ≤ 16777216; have := this.len; rw [List.length_take]; omega, by show min f.safe n.toNat ≤ (f.b.take n.toNat).length; have := this.safe; rw [List.length_take]; omega⟩
     ·exact h.ok x hx
 ·exact h
theorem DInv.remove {S : DS} (h : DInv S) (s : ByteArray) : DInv (S.remove s).1 := by
 unfold DS.remove
 split
 ·split
  ·exact h
  ·split
   ·exact h.change
   ·exact ⟨h.srt.del _, Nat.le_trans (delF_len_le _ _) h.len, h.change.arm, fun x hx => h.ok x (delF_sub x hx)⟩
 ·exact h
theorem DInv.append {S : DS} (h : DInv S) (s : ByteArray) (l : Bytes) : DInv (S.append s l).1 := by
 unfold DS.append
 split
 ·rename_i hok
  split
  ·rename_i hg
   split
   ·exact h
   ·rename_i h8
    split
    ·exact h
    ·rename_i hl
     split
     ·exact h.change
     ·refine ⟨h.srt.put _, ?_, h.change.arm, fun x hx => ?_⟩
      ·show (putF S.f ⟨s, l, 0⟩).length ≤ 8
       rw [putF_len h.srt.uniq, hg]
       simp only [Option.isSome_none, Bool.false_eq_true, if_false]
       omega
      ·rcases putF_mem hx with rfl | hx
       ·exact ⟨hok, by show l.length ≤ 16777216; omega, Nat.zero_le _⟩
       ·exact h.ok x hx
  ·rename_i f hg
   split
   ·exact h
   ·rename_i hl
    split
    ·exact h.change
    ·have hf := h.ok f (getF_mem hg)
     refine ⟨h.srt.put _, ?_, h.change.arm, fun x hx => ?_⟩
     ·show (putF S.f _).length ≤ 8
      rw [putF_len h.srt.uniq]
      simp only [getF_name hg, hg, Option.isSome_some, if_true]
      exact h.len
     ·rcases putF_mem hx with rfl | hx
      ·exact ⟨hf.name, by show (f.b ++ l).length ≤ 16777216; rw [List.length_append]; omega, by show f.safe ≤ (f.b ++ l).length; have := hf.safe; rw [List.length_append]; omega⟩
      ·exact h.ok x hx
 ·exact h
theorem DInv.rename {S : DS} (h : DInv S) (s t : ByteArray) : DInv (S.rename s t).1 := by
 unfold DS.rename
 split
 ·rename_i hot
  split
  ·split
   ·exact h
   ·rename_i f hg
    split
    ·exact h.change
    ·have hf := h.ok f (getF_mem hg)
     refine ⟨(h.srt.del _).put _, ?_, h.change.arm, fun x hx => ?_⟩
     ·show (putF (delF S.f s) _).length ≤ 8
      rw [putF_len (h.srt.del _).uniq]
      have := delF_len h.srt.uniq hg
      have := h.len
      split <;> omega
     ·rcases putF_mem hx with rfl | hx
      ·exact ⟨hot, hf.len, hf.safe⟩
      ·exact h.ok x (delF_sub x hx)
  ·exact h
 ·exact h
theorem DInv.arm' {S : DS} (h : DInv S) (n : Int) : DInv (S.rarm n).1 := by
 unfold DS.rarm
 split
 ·rename_i hn
  refine ⟨h.srt, h.len, ?_, h.ok⟩
  show n.toNat ≤ 1048576
  unfold armOk at hn
  simp only [Bool.and_eq_true, decide_eq_true_eq] at hn
  omega
 ·exact h
theorem crashF_ok {f : DF} (h : FOk f) (ks : Ks) : FOk (crashF ks f) := by
 have hc := clampK_le (keepOf ks f.name) (f.b.length - f.safe)
 have h1 := h.safe
 have h2 := h.len
 refine ⟨h.name, ?_, ?_⟩
 ·show (f.b.take _).length ≤ _
  rw [List.length_take]; omega
 ·show f.safe + _ ≤ (f.b.take _).length
  rw [List.length_take]; omega
theorem DInv.crash {S : DS} (h : DInv S) (ks : Ks) : DInv (S.crash ks) := by
 refine ⟨h.srt.names ?_, by show (S.f.map _).length ≤ 8; rw [List.length_map]; exact h.len, Nat.zero_le _, fun x hx => ?_⟩
 ·show (S.f.map (crashF ks)).map (·.name) = _
  rw [List.map_map]
  rfl
 ·obtain ⟨y, hy, rfl⟩ := List.mem_map.1 hx
  exact crashF_ok (h.ok y hy) ks
theorem DInv.new : DInv ⟨[], 0, false⟩ := ⟨List.Pairwise.nil, by simp, by simp, fun f hf => nomatch hf⟩
end Go.Proofs.YtohcmljigcdmbaaGreat
/- The disk: Names: the files' names, in order. Conditions: at most 8 files, in order. -/
namespace Go.Proofs.YtohcmljigcdmbaaGreat
open Go.RowKit Go.Maps Go.Sort
variable {F : Nat → Prop} {d : Nat} {S : DS} {b : Nat} {D : DataW Unit} {s : ByteArray} {w w' : World}
variable {F : Nat → Prop} {d : Nat} {S : DS} {b : Nat} {D : DataW Unit} {s : ByteArray} {w w' : World}
abbrev kpCells (p : ByteArray × Int) : List Value := [.string p.1, .int .i64 p.2]
def kcs : Ks → List Value
 | [] => []
 | p :: l => kpCells p ++ kcs l
/-- a map of numbers by names -/
abbrev KeepMap (w : World) (M n : Nat) (E : DataW Unit) : Prop := w.ownsMap Tryz.prog 9 (plainElem Tryz.prog 3) M n E
theorem KeepMap.keep {M n : Nat} {E : DataW Unit} (h : KeepMap w M n E) (hk : w'.heap[M]? = w.heap[M]?) : KeepMap w' M n E := by
 obtain ⟨es, cl, hb, r⟩ := h
 exact ⟨es, cl, hk.trans hb, r⟩
theorem KeepMap.lt {M n : Nat} {E : DataW Unit} (h : KeepMap w M n E) : M < w.heap.size := by
 obtain ⟨es, cl, hb, r⟩ := h
 exact (Array.getElem?_eq_some_iff.1 hb).1
/-- the map has the last number of each name -/
def KeepIs (E : DataW Unit) (ks : Ks) : Prop := ∀ s : ByteArray, E.atKey (nk s) (.lit (.int .i64 0)) = .lit (.int .i64 (keepOf ks s))
theorem KeepIs.put {E : DataW Unit} {ks : Ks} {k : Nat} (h : KeepIs E (ks.take k)) (hm : Maps.IsMap E) (hk : k < ks.length) : KeepIs (E.put (nk ks[k].1) (.lit (.int .i64 ks[k].2))) (ks.take (k + 1)) := by
 intro s
 rw [keepOf_snoc ks k hk]
 by_cases e : ks[k].1 = s
 ·rw [if_pos e, e, Maps.atKey_put_same hm (isKey_nk s)]
 ·rw [if_neg e, Maps.atKey_put_other (fun e2 => e (nk_inj e2).symm), h s]
end Go.Proofs.YtohcmljigcdmbaaGreat
