/- The reference's marks and dots: Get, Has, Sort, Set. Conditions: at most 2^30 of them. -/
import Derived.Test.YtdlmbflhbecggaaGreatSrtK
import Derived.Test.YtdlmbflhbecggaaGreatVecD
set_option linter.unusedSimpArgs false
set_option linter.unusedVariables false
set_option linter.unnecessarySimpa false
set_option maxHeartbeats 16000000
set_option maxRecDepth 100000
namespace Go.Proofs.YtdlmbflhbecggaaGreat
open Go.RowKit
theorem Jb (d : Dot) (l : List Dot) (a : Actor) : iY (d :: l) a = if d.a = a then d.seq else iY l a := by
 unfold iY
 rw [List.find?_cons]
 by_cases h : d.a = a
 ·rw [decide_eq_true h, if_pos h]
 ·rw [decide_eq_false h, if_neg h]
/-! ### 17.Get -/
theorem Ip (a : Option Addr) (cap : Nat) (l : List Dot) (x : Actor) (w : World) (hl : l.length ≤ 1073741824) (h : DotsIn w a l) :
 Calls Tryz.prog 125 #[.slice a l.length cap, fB x] w fun e w' => e = .returned (.int .i64 (iY l x)) ∧ Below w.heap.size w w' := by
 go_enter Tryz.func125, Tryz.ntmps125
 go_wp2
 have c0 : (w.alloc (.cells #[.int .i64 x.dev, .int .i64 x.inc] 54)).cell? ⟨w.heap.size, 0, none⟩ = some (.int .i64 x.dev) := by go_simp
 have c1 : (w.alloc (.cells #[.int .i64 x.dev, .int .i64 x.inc] 54)).cell? ⟨w.heap.size, 1, none⟩ = some (.int .i64 x.inc) := by go_simp
 have hb0 : Below w.heap.size w (w.alloc (.cells #[.int .i64 x.dev, .int .i64 x.inc] 54)) := (Below.refl _ _).alloc (Nat.le_refl _) _
 have hz0 : w.heap.size < (w.alloc (.cells #[.int .i64 x.dev, .int .i64 x.inc] 54)).heap.size := by simp
 have h0 := h.kept hb0
 generalize (w.alloc (.cells #[.int .i64 x.dev, .int .i64 x.inc] 54)) = W0 at *
 clear h
 go_loopw [5] (fun i wr => ∃ k : Nat, i = .int .i64 k ∧ k ≤ l.length ∧ iY l x = iY (l.drop k) x ∧ Below W0.heap.size W0 wr) (fun i _ => l.length - (intOf i).toNat)
 case atStart => exact ⟨0, rfl, Nat.zero_le _, rfl, Below.refl _ _⟩
 case round =>
  obtain ⟨k, rfl, hk, hP0, hbr⟩ := hrel
  have HP := Lib.hid hP0
  clear hP0
  replace c0 := kept hbr c0
  replace c1 := kept hbr c1
  have HB := Lib.hid (hb0.trans (hbr.mono hb0.size))
  by_cases hlt : k < l.length
  ·obtain ⟨A, off, rfl, hda⟩ : ∃ A off, a = some ⟨A, off, none⟩ ∧ DotsAt wr A off l := by
        rcases h0.kept hbr with h | ⟨A, off, h1, h2⟩
        ·rw [h] at hlt; simp at hlt
        ·exact ⟨A, off, h1, h2⟩
   have e0 := hda.dev k hlt
   have e1 := hda.inc k hlt
   have e2 := hda.seq k hlt
   have HT : Hid (iY (l.drop k) x = if l[k].a = x then l[k].seq else iY (l.drop (k + 1)) x) := by unfold Hid; rw [List.drop_eq_getElem_cons hlt, Jb]
   have HLT := Lib.hid hlt
   have hEq := fun (W : World) => qH W 9998 l[k].a x
   have hm := lM
   generalize l[k] = d at *
   clear hda
   by_cases he : d.a = x
   ·rw [decide_eq_true he] at hEq
    have HE : Hid (iY l x = d.seq) := by unfold Hid; rw [HP.out, HT.out, if_pos he]
    clear he
    go_wp2
    go_quiet (fail)
    go_wp2
    go_ret
    exact ⟨by rw [HE.out]; rfl, below_drewN HB.out nq⟩
   ·rw [decide_eq_false he] at hEq
    have HE : Hid (iY l x = iY (l.drop (k + 1)) x) := by unfold Hid; rw [HP.out, HT.out, if_neg he]
    clear he
    go_wp2
    go_quiet (fail)
    go_wp2
    go_roundw
    case rel => exact ⟨k + 1, by go_num, HLT.out, HE.out, below_drewN hbr nq⟩
    case measure => have := HLT.out; simp [intOf] <;> omega
  ·obtain rfl : k = l.length := by omega
   have HE : Hid (iY l x = 0) := by unfold Hid; rw [HP.out, List.drop_length]; rfl
   go_wp2
   go_ret
   exact ⟨by rw [HE.out]; rfl, HB.out⟩
/-! ### 17.Has -/
theorem zV (a : Option Addr) (cap : Nat) (l : List Dot) (d : Dot) (w : World) (hl : l.length ≤ 1073741824) (h : DotsIn w a l) :
 Calls Tryz.prog 80 #[.slice a l.length cap, bY d] w fun e w' => e = .returned (.bool (gX l d)) ∧ Below w.heap.size w w' := by
 have HR0 := fun (X : World) => jB d X
 have HG := Lib.hid (fun (X : World) (h : DotsIn X a l) => Ip a cap l d.a X hl h)
 have HE : Hid (gX l d = (bK d && decide (d.seq ≤ iY l d.a))) := rfl
 generalize gX l d = r at *
 cases hd : bK d with
 | false =>
   rw [hd] at HR0
   have HE2 : Hid (r = false) := by unfold Hid; rw [HE.out, hd]; rfl
   have HR := Lib.hid HR0
   clear HR0 hd HE
   go_enter Tryz.func80, Tryz.ntmps80
   go_upto_region 1 with fail
   refine ai (by kernel_rfl) (by kernel_rfl) (fun W hW => ?_)
   have hbw : Below w.heap.size w W := by rw [hW.out]; go_grown
   have x0 : ∀ i : After W, i.w.cell? ⟨w.heap.size, 0, none⟩ = some (.int .i64 d.a.dev) := fun i => i.cell (by rw [hW.out]; go_simp)
   have x1 : ∀ i : After W, i.w.cell? ⟨w.heap.size, 1, none⟩ = some (.int .i64 d.a.inc) := fun i => i.cell (by rw [hW.out]; go_simp)
   have x2 : ∀ i : After W, i.w.cell? ⟨w.heap.size, 2, none⟩ = some (.int .i64 d.seq) := fun i => i.cell (by rw [hW.out]; go_simp)
   clear hW h
   go_big_quiet_step (fail)
   go_big_quiet_step (exact Calls.after (HR.out _))
   iterate 10 go_big_quiet_step (fail)
   refine wpQuiet_nil ?_
   rintro _ ⟨i, rfl⟩
   have hib := i.h
   generalize i.w = wi at hib ⊢
   go_wp2
   go_ret
   exact ⟨ah HE2.out.symm, below2 hbw hib⟩
 | true =>
   rw [hd] at HR0
   have HE2 : Hid (r = decide (d.seq ≤ iY l d.a)) := by unfold Hid; rw [HE.out, hd]; rfl
   have HR := Lib.hid HR0
   clear HR0 hd HE
   go_enter Tryz.func80, Tryz.ntmps80
   go_upto_region 1 with fail
   refine ai (by kernel_rfl) (by kernel_rfl) (fun W hW => ?_)
   have hbw : Below w.heap.size w W := by rw [hW.out]; go_grown
   have h1 := h.kept hbw
   have x0 : ∀ i : After W, i.w.cell? ⟨w.heap.size, 0, none⟩ = some (.int .i64 d.a.dev) := fun i => i.cell (by rw [hW.out]; go_simp)
   have x1 : ∀ i : After W, i.w.cell? ⟨w.heap.size, 1, none⟩ = some (.int .i64 d.a.inc) := fun i => i.cell (by rw [hW.out]; go_simp)
   have x2 : ∀ i : After W, i.w.cell? ⟨w.heap.size, 2, none⟩ = some (.int .i64 d.seq) := fun i => i.cell (by rw [hW.out]; go_simp)
   clear hW h
   go_big_quiet_step (fail)
   go_big_quiet_step (exact Calls.after (HR.out _))
   iterate 4 go_big_quiet_step (fail)
   go_big_quiet_step (exact Calls.after (HG.out _ (h1.kept (After.h _))))
   iterate 5 go_big_quiet_step (fail)
   refine wpQuiet_nil ?_
   rintro _ ⟨i, rfl⟩
   have hib := i.h
   generalize i.w = wi at hib ⊢
   go_wp2
   go_ret
   exact ⟨ah HE2.out.symm, below2 hbw hib⟩
/-! ### 16.Has -/
theorem Io (a : Option Addr) (cap : Nat) (l : List Dot) (x : Dot) (w : World) (hl : l.length ≤ 1073741824) (h : DotsIn w a l) :
 Calls Tryz.prog 93 #[.slice a l.length cap, bY x] w fun e w' => e = .returned (.bool (decide (x ∈ l))) ∧ Below w.heap.size w w' := by
 go_enter Tryz.func93, Tryz.ntmps93
 go_wp2
 have c0 : (w.alloc (.cells #[.int .i64 x.a.dev, .int .i64 x.a.inc, .int .i64 x.seq] 56)).cell? ⟨w.heap.size, 0, none⟩ = some (.int .i64 x.a.dev) := by go_simp
 have c1 : (w.alloc (.cells #[.int .i64 x.a.dev, .int .i64 x.a.inc, .int .i64 x.seq] 56)).cell? ⟨w.heap.size, 1, none⟩ = some (.int .i64 x.a.inc) := by go_simp
 have c2 : (w.alloc (.cells #[.int .i64 x.a.dev, .int .i64 x.a.inc, .int .i64 x.seq] 56)).cell? ⟨w.heap.size, 2, none⟩ = some (.int .i64 x.seq) := by go_simp
 have hb0 : Below w.heap.size w (w.alloc (.cells #[.int .i64 x.a.dev, .int .i64 x.a.inc, .int .i64 x.seq] 56)) := (Below.refl _ _).alloc (Nat.le_refl _) _
 have hz0 : w.heap.size < (w.alloc (.cells #[.int .i64 x.a.dev, .int .i64 x.a.inc, .int .i64 x.seq] 56)).heap.size := by simp
 have h0 := h.kept hb0
 generalize (w.alloc (.cells #[.int .i64 x.a.dev, .int .i64 x.a.inc, .int .i64 x.seq] 56)) = W0 at *
 clear h
 go_loopw [5] (fun i wr => ∃ k : Nat, i = .int .i64 k ∧ k ≤ l.length ∧ (x ∈ l ↔ x ∈ l.drop k) ∧ Below W0.heap.size W0 wr) (fun i _ => l.length - (intOf i).toNat)
 case atStart => exact ⟨0, rfl, Nat.zero_le _, Iff.rfl, Below.refl _ _⟩
 case round =>
  obtain ⟨k, rfl, hk, hP0, hbr⟩ := hrel
  have HP := Lib.hid hP0
  clear hP0
  replace c0 := kept hbr c0
  replace c1 := kept hbr c1
  replace c2 := kept hbr c2
  have HB := Lib.hid (hb0.trans (hbr.mono hb0.size))
  by_cases hlt : k < l.length
  ·obtain ⟨A, off, rfl, hda⟩ : ∃ A off, a = some ⟨A, off, none⟩ ∧ DotsAt wr A off l := by
        rcases h0.kept hbr with h | ⟨A, off, h1, h2⟩
        ·rw [h] at hlt; simp at hlt
        ·exact ⟨A, off, h1, h2⟩
   have e0 := hda.dev k hlt
   have e1 := hda.inc k hlt
   have e2 := hda.seq k hlt
   have HT : Hid (x ∈ l.drop k ↔ x = l[k] ∨ x ∈ l.drop (k + 1)) := by unfold Hid; rw [List.drop_eq_getElem_cons hlt, List.mem_cons]
   have HLT := Lib.hid hlt
   have hEq := fun (W : World) => Eg W 9997 l[k] x
   have hm := lZ
   generalize l[k] = d at *
   clear hda
   by_cases he : d = x
   ·rw [decide_eq_true he] at hEq
    have HE : Hid (decide (x ∈ l) = true) := decide_eq_true (HP.out.2 (HT.out.2 (Or.inl he.symm)))
    clear he
    go_wp2
    go_quiet (fail)
    go_wp2
    go_ret
    exact ⟨ah HE.out.symm, below_drewN HB.out nq⟩
   ·rw [decide_eq_false he] at hEq
    have HE : Hid (x ∈ l ↔ x ∈ l.drop (k + 1)) := HP.out.trans (HT.out.trans ⟨fun h => h.resolve_left fun e => he e.symm, Or.inr⟩)
    clear he
    go_wp2
    go_quiet (fail)
    go_wp2
    go_roundw
    case rel => exact ⟨k + 1, by go_num, HLT.out, HE.out, below_drewN hbr nq⟩
    case measure => have := HLT.out; simp [intOf] <;> omega
  ·obtain rfl : k = l.length := by omega
   have HE : Hid (decide (x ∈ l) = false) := decide_eq_false (fun h => by have := HP.out.1 h; rw [List.drop_length] at this; cases this)
   go_wp2
   go_ret
   exact ⟨ah HE.out.symm, HB.out⟩
def fV (x : Actor) (n : Int) (st : List Dot × Bool) (d : Dot) : List Dot × Bool :=
 ((if d.a = x then (if !st.2 && !bP d.a x then st.1 ++ [⟨x, n⟩] else st.1) else (if !st.2 && !bP d.a x then st.1 ++ [⟨x, n⟩] else st.1) ++ [d]), st.2 || !bP d.a x)
def xx (l : List Dot) (x : Actor) (n : Int) : List Dot :=
 if (l.foldl (fV x n) ([], false)).2 = true then (l.foldl (fV x n) ([], false)).1 else (l.foldl (fV x n) ([], false)).1 ++ [⟨x, n⟩]
theorem Bd (x : Actor) (n : Int) : ∀ (l o : List Dot), (∀ d ∈ l, bP x d.a = true) → l.foldl (fV x n) (o, true) = (o ++ l, true)
 | [], o, _ => by simp
 | d :: l, o, h => by
   have h1 := h d List.mem_cons_self
   have h2 : d.a ≠ x := fun e => by rw [e, iD] at h1; cases h1
   rw [List.foldl_cons]
   have : fV x n (o, true) d = (o ++ [d], true) := by simp [fV, h2]
   rw [this, Bd x n l _ (fun e he => h e (List.mem_cons_of_mem _ he))]
   simp
theorem CV (x : Actor) (n : Int) : ∀ (l o : List Dot), oZ l → (if (l.foldl (fV x n) (o, false)).2 = true then (l.foldl (fV x n) (o, false)).1 else (l.foldl (fV x n) (o, false)).1 ++ [⟨x, n⟩]) = o ++ setM l x n
 | [], o, _ => by simp [setM]
 | d :: l, o, h => by
   obtain ⟨h1, h2⟩ := List.pairwise_cons.1 h
   rw [List.foldl_cons]
   by_cases hx : d.a = x
   ·have hs : fV x n (o, false) d = (o ++ [⟨x, n⟩], true) := by simp [fV, hx, iD]
    rw [hs, Bd x n l _ (fun e he => by rw [← hx]; exact h1 e he), if_pos rfl]
    unfold setM
    rw [if_pos hx]
    simp
   ·cases hl : bP d.a x with
    | true =>
      have hs : fV x n (o, false) d = (o ++ [d], false) := by simp [fV, hx, hl]
      rw [hs, CV x n l _ h2]
      rw [show setM (d :: l) x n = d :: setM l x n from by rw [setM, if_neg hx, if_pos hl]]
      simp
    | false =>
      have hs : fV x n (o, false) d = (o ++ [⟨x, n⟩] ++ [d], true) := by simp [fV, hx, hl]
      have hg := kW hx hl
      rw [hs, Bd x n l _ (fun e he => iT hg (h1 e he)), if_pos rfl]
      unfold setM
      rw [if_neg hx, if_neg (by rw [hl]; decide)]
      simp
theorem qx {l : List Dot} (h : oZ l) (x : Actor) (n : Int) : xx l x n = setM l x n := by
 have := CV x n l [] h
 unfold xx
 rw [this]
 rfl
end Go.Proofs.YtdlmbflhbecggaaGreat
