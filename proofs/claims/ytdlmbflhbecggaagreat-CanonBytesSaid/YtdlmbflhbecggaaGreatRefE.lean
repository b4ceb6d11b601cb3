/- The reference's events: put. Conditions: at most 2^20 of them. -/
import Derived.Test.YtdlmbflhbecggaaGreatRefM
import Derived.Test.YtdlmbflhbecggaaGreatOrmH
import Derived.Test.YtdlmbflhbecggaaGreatTrod
set_option linter.unusedSimpArgs false
set_option linter.unusedVariables false
set_option linter.unnecessarySimpa false
set_option maxHeartbeats 16000000
set_option maxRecDepth 100000
namespace Go.Proofs.YtdlmbflhbecggaaGreat
open Go.RowKit
theorem BI {α : Type} {f : α → List Value} {n : Nat} (hf : ∀ x, (f x).length = n) : ∀ (l : List α) (k : Nat), (l.flatMap f).take (k * n) = (l.take k).flatMap f
 | l, 0 => by simp
 | [], k + 1 => by simp
 | g :: l, k + 1 => by
   rw [show (k + 1) * n = n + k * n by rw [Nat.add_mul]; omega, List.take_succ_cons, List.flatMap_cons, List.flatMap_cons, ← BI hf l k, List.take_append, hf g, List.take_of_length_le (by rw [hf g]; omega)]
   simp
theorem BJ {α : Type} {f : α → List Value} {n : Nat} (hf : ∀ x, (f x).length = n) : ∀ (l : List α) (k : Nat), (l.flatMap f).drop (k * n) = (l.drop k).flatMap f
 | l, 0 => by simp
 | [], k + 1 => by simp
 | g :: l, k + 1 => by
   rw [show (k + 1) * n = n + k * n by rw [Nat.add_mul]; omega, List.drop_succ_cons, List.flatMap_cons, ← BJ hf l k, List.drop_append, hf g, List.drop_of_length_le (by rw [hf g]; omega)]
   simp
theorem ui (x : bg) : (jP x).length = 19 := rfl
theorem qV (l : List bg) (k : Nat) : (aU l).take (k * 19) = aU (l.take k) := BI ui l k
theorem qW (l : List bg) (k : Nat) : (aU l).drop (k * 19) = aU (l.drop k) := BJ ui l k
theorem eU (l : List bg) : (aU l).length = l.length * 19 := by
 induction l with
 | nil => rfl
 | cons x l ih =>
   show (jP x ++ aU l).length = _
   rw [List.length_append, ih, ui, List.length_cons]
   omega
theorem gB (l : List bg) : ∀ u ∈ aU l, u.oneCell' = true := by
 intro u hu
 obtain ⟨x, _, hx⟩ := List.mem_flatMap.1 hu
 exact dn _ _ _ u hx
theorem EvsIn.cells {w : World} {a : Option Addr} {ls : List bg} (h : EvsIn w a ls) : CellsIn w a (aU ls) := by
 rcases h.rows with h1 | ⟨A, off, h1, h2⟩
 ·exact Or.inl (by rw [h1]; rfl)
 ·exact Or.inr ⟨A, off, h1, yD jP 19 ls off fun i hi => ⟨ui _, h2 i hi⟩⟩
theorem dV (w : World) (e : Ev) (a : Option Addr) (c : Nat) : CellsIn (w.alloc (.cells (ah e a c).toArray 64)) (some ⟨w.heap.size, 0, none⟩) (ah e a c) := by
 refine Or.inr ⟨_, _, rfl, fun j v hv => ?_⟩
 rw [Nat.zero_add, World.cell?_alloc_new]
 simpa using hv
/-- how many are ahead of a dot -/
def iV (l : List bg) (d : Dot) : Nat := (l.takeWhile fun x => cZ x.1.dot d).length
theorem Ir {l : List bg} {d : Dot} {k : Nat} (h : k < l.length) (hp : cZ l[k].1.dot d = true) : iV (l.drop k) d = iV (l.drop (k + 1)) d + 1 := by
 unfold iV
 exact z111
theorem KT {l : List bg} {d : Dot} {k : Nat} (h : k < l.length) (hp : cZ l[k].1.dot d = false) : iV (l.drop k) d = 0 := by
 unfold iV
 exact z103
def iZ (l : List bg) (x : bg) : List bg := l.take (iV l x.1.dot) ++ x :: l.drop (iV l x.1.dot)
/-- one event more, by its dot -/
def qo (e : Ev) : List Ev → List Ev
 | [] => [e]
 | x :: l => if cZ x.dot e.dot = true then x :: qo e l else e :: x :: l
theorem BM (x : bg) : ∀ l : List bg, aQ (iZ l x) = qo x.1 (aQ l)
 | [] => rfl
 | y :: l => by
   have ih := BM x l
   show aQ (iZ (y :: l) x) = qo x.1 (y.1 :: aQ l)
   cases hy : cZ y.1.dot x.1.dot with
   | true =>
     have e : iV (y :: l) x.1.dot = iV l x.1.dot + 1 := by unfold iV; rw [List.takeWhile_cons]; simp [hy]
     unfold qo
     rw [if_pos hy, ← ih]
     unfold iZ
     rw [e]
     simp [aQ]
   | false =>
     have e : iV (y :: l) x.1.dot = 0 := by unfold iV; rw [List.takeWhile_cons]; simp [hy]
     unfold qo iZ
     rw [if_neg (by rw [hy]; decide), e]
     simp [aQ]
theorem BC (l : List bg) (x : bg) : (iZ l x).length = l.length + 1 := by
 have h : iV l x.1.dot ≤ l.length := List.Sublist.length_le (List.takeWhile_sublist _)
 unfold iZ
 rw [List.length_append, List.length_cons, List.length_take, List.length_drop]
 omega
theorem z112 {p : Prop} (h : p := by
 rcases List.mem_append.1 h with h | h
 ·exact Or.inr (List.mem_of_mem_take h)
 ·rcases List.mem_cons.1 h with h | h
  ·exact Or.inl h
  ·exact Or.inr (List.mem_of_mem_drop h)) : p := h
theorem vC {l : List bg} {x y : bg} (h : y ∈ iZ l x) : y = x ∨ y ∈ l := by
 unfold iZ at h
 exact z112
def Nz (ls : List bg) (w : World) (x : Ending) (w' : World) : Prop := ∃ a c, x = .returned (.slice a ls.length c) ∧ w'.ownsRow w.heap.size 64 19 (.slice a ls.length c) ls.length (aU ls) ∧ EvsIn w' a ls ∧ ls.length ≤ c ∧ Below w.heap.size w w'
theorem Jv (a ae : Option Addr) (cap ce : Nat) (ls : List bg) (e : Ev) (w : World) (hl : ls.length ≤ 1048576) (hlc : ls.length ≤ cap) (hE : EvsIn w a ls) (hd : DotsIn w ae e.over) :
 Calls Tryz.prog 143 #[.slice a ls.length cap, ja e ae ce] w (Nz (iZ ls (e, ae, ce)) w) := by
 obtain ⟨i0, hi, hz0, hz1, hz2⟩ := info_parts Tryz.infoEv
 have HL := Lib.hid (fun (x y : Dot) (X : World) => uU x y X)
 go_enter Tryz.func143, Tryz.ntmps143
 go_upto_region 1 with fail
 refine aX (fun W0 hW0 => ?_)
 have hb0 : Below w.heap.size w W0 := by rw [hW0.out]; go_grown
 have hR0 : W0.rangeAt w.heap.size 0 (ah e ae ce) := by rw [hW0.out]; exact bY e ae ce w _
 have HR := Lib.hid hR0
 have D0 := hR0 0 _ rfl
 have D1 := hR0 1 _ rfl
 have D2 := hR0 2 _ rfl
 simp only [Nat.zero_add] at D0 D1 D2
 have hE0 := hE.kept hb0
 have HC := Lib.hid hE0.cells
 have HD : Hid (∀ x ∈ iZ ls (e, ae, ce), DotsIn W0 x.2.1 x.1.over) := fun x hx => by
  rcases vC hx with rfl | hx
  ·exact hd.kept hb0
  ·exact hE0.dots x hx
 have hz0' := hb0.size
 clear hW0 hR0 hE hd
 go_wp2
 go_loopw [5] (fun i wr => ∃ q : Nat, i = .int .i64 q ∧ q ≤ ls.length ∧ iV ls e.dot = q + iV (ls.drop q) e.dot ∧ Below W0.heap.size W0 wr) (fun i _ => ls.length - (intOf i).toNat)
 case atStart => exact ⟨0, rfl, Nat.zero_le _, by simp, Below.refl _ _⟩
 case round =>
  obtain ⟨q, rfl, hq, hA0, hB⟩ := hrel
  have HA := Lib.hid hA0
  have HQ := Lib.hid hq
  clear hA0
  by_cases hqt : q < ls.length
  ·obtain ⟨A, off, rfl, hra, _⟩ := hE0.at hqt
   have r1 := hra q hqt
   have HY := Lib.hid (fun (h : cZ ls[q].1.dot e.dot = true) => Ir hqt h)
   have HN := Lib.hid (fun (h : cZ ls[q].1.dot e.dot = false) => KT hqt h)
   have HL1 := fun (X : World) => HL.out ls[q].1.dot e.dot X
   have HQT := Lib.hid hqt
   have hql : q ≤ 1048576 := by omega
   generalize ls[q] = y2 at *
   obtain ⟨y, ay, cy⟩ := y2
   simp only [jP] at r1
   simp only at HY HN HL1
   have F0 := r1 0 _ rfl
   have F1 := r1 1 _ rfl
   have F2 := r1 2 _ rfl
   simp only [Nat.add_zero] at F0
   clear hra r1
   cases hly : cZ y.dot e.dot with
   | true =>
     rw [hly] at HL1
     have HA2 : Hid (iV ls e.dot = q + 1 + iV (ls.drop (q + 1)) e.dot) := by unfold Hid; rw [HA.out, HY.out hly]; omega
     clear hly
     go_upto_region 2 with fail
     refine aH (by kernel_rfl) (by kernel_rfl) (fun WA hWA => ?_)
     have hbA : Below wr.heap.size wr WA := by rw [hWA.out]; go_grown
     have hBA : Below W0.heap.size W0 WA := hB.trans (hbA.mono hB.size)
     have pD0 : ∀ i : After WA, i.w.cell? ⟨w.heap.size, 0, none⟩ = some (.int .i64 e.dot.a.dev) := fun i => i.cell (kept hBA D0)
     have pD1 : ∀ i : After WA, i.w.cell? ⟨w.heap.size, 1, none⟩ = some (.int .i64 e.dot.a.inc) := fun i => i.cell (kept hBA D1)
     have pD2 : ∀ i : After WA, i.w.cell? ⟨w.heap.size, 2, none⟩ = some (.int .i64 e.dot.seq) := fun i => i.cell (kept hBA D2)
     have pF0 : ∀ i : After WA, i.w.cell? ⟨A, off + q * 19, none⟩ = some (.int .i64 y.dot.a.dev) := fun i => i.cell (kept hBA F0)
     have pF1 : ∀ i : After WA, i.w.cell? ⟨A, off + q * 19 + 1, none⟩ = some (.int .i64 y.dot.a.inc) := fun i => i.cell (kept hBA F1)
     have pF2 : ∀ i : After WA, i.w.cell? ⟨A, off + q * 19 + 2, none⟩ = some (.int .i64 y.dot.seq) := fun i => i.cell (kept hBA F2)
     clear hWA hBA
     iterate 12 go_big_quiet_step (fail)
     go_big_quiet_step (exact Calls.after (HL1 _))
     go_big_quiet_step (fail)
     refine wpQuiet_nil ?_
     rintro _ ⟨i, rfl⟩
     have hiA := i.h
     generalize i.w = wp at hiA ⊢
     have hbY : Below wr.heap.size wr wp := below2 hbA hiA
     replace hB := hB.trans (hbY.mono hB.size)
     clear hbA hiA hbY pD0 pD1 pD2 pF0 pF1 pF2
     have HB2 := Lib.hid hB
     clear hB
     go_wp2
     go_roundw
     case rel => exact ⟨q + 1, by go_num, HQT.out, HA2.out, HB2.out⟩
     case measure => have := HQT.out; simp [intOf] <;> omega
   | false =>
     rw [hly] at HL1
     have HI : Hid (iV ls e.dot = q) := by unfold Hid; rw [HA.out, HN.out hly]; omega
     clear hly
     go_upto_region 2 with fail
     refine aH (by kernel_rfl) (by kernel_rfl) (fun WA hWA => ?_)
     have hbA : Below wr.heap.size wr WA := by rw [hWA.out]; go_grown
     have hBA : Below W0.heap.size W0 WA := hB.trans (hbA.mono hB.size)
     have pD0 : ∀ i : After WA, i.w.cell? ⟨w.heap.size, 0, none⟩ = some (.int .i64 e.dot.a.dev) := fun i => i.cell (kept hBA D0)
     have pD1 : ∀ i : After WA, i.w.cell? ⟨w.heap.size, 1, none⟩ = some (.int .i64 e.dot.a.inc) := fun i => i.cell (kept hBA D1)
     have pD2 : ∀ i : After WA, i.w.cell? ⟨w.heap.size, 2, none⟩ = some (.int .i64 e.dot.seq) := fun i => i.cell (kept hBA D2)
     have pF0 : ∀ i : After WA, i.w.cell? ⟨A, off + q * 19, none⟩ = some (.int .i64 y.dot.a.dev) := fun i => i.cell (kept hBA F0)
     have pF1 : ∀ i : After WA, i.w.cell? ⟨A, off + q * 19 + 1, none⟩ = some (.int .i64 y.dot.a.inc) := fun i => i.cell (kept hBA F1)
     have pF2 : ∀ i : After WA, i.w.cell? ⟨A, off + q * 19 + 2, none⟩ = some (.int .i64 y.dot.seq) := fun i => i.cell (kept hBA F2)
     clear hWA hBA
     iterate 12 go_big_quiet_step (fail)
     go_big_quiet_step (exact Calls.after (HL1 _))
     go_big_quiet_step (fail)
     refine wpQuiet_nil ?_
     rintro _ ⟨i, rfl⟩
     have hiA := i.h
     generalize i.w = wp at hiA ⊢
     have hbY : Below wr.heap.size wr wp := below2 hbA hiA
     replace hB := hB.trans (hbY.mono hB.size)
     clear hbA hiA hbY pD0 pD1 pD2 pF0 pF1 pF2
     go_upto_region 4 with fail
     refine aX (fun W hW => ?_)
     have hbW : Below wp.heap.size wp W.drew := by rw [hW.out]; go_grown
     have hBW : Below W0.heap.size W0 W.drew := hB.trans (hbW.mono hB.size)
     have lI := HC.out.kept hBW
     have hzW := hBW.size
     have hq := HQ.out
     have hcut : ∀ X, (Instr.sliceAt 29 (.slice (some ⟨A, off, none⟩) ls.length cap) none (some (.int .i64 (q : Nat))) none).run Tryz.prog X = .ok (.slice (some ⟨A, off, none⟩) q cap) X := fun X => kU X _ _ i0 (some ⟨A, off, none⟩) ls.length cap .i64 q Tryz.underlying29 hi (by omega)
     have lQ : ∀ X, (Instr.sliceAt 29 (.slice (some ⟨A, off, none⟩) ls.length cap) (some (.int .i64 (q : Nat))) none none).run Tryz.prog X = .ok (.slice (lC (some ⟨A, off, none⟩) cap q 19) (ls.length - q) (cap - q)) X := fun X => jT X _ _ i0 (some ⟨A, off, none⟩) ls.length cap .i64 q 19 Tryz.underlying29 hi hz1 (by omega)
     have hR1 : ∀ X, Below W.drew.heap.size W.drew X → CellsIn X (some ⟨A, off, none⟩) (aU (ls.take q)) := fun X h => by rw [← qV]; exact (lI.kept h).take _
     have hR2 : ∀ X, Below W.drew.heap.size W.drew X → CellsIn X (lC (some ⟨A, off, none⟩) cap q 19) (aU (ls.drop q)) := fun X h => by rw [← qW]; exact (lI.kept h).cut (eU ls) hlc q
     have l1 : (aU (ls.take q)).length = q * 19 := by rw [eU, List.length_take, Nat.min_eq_left hq]
     have l2 : (aU (ls.drop q)).length = (ls.length - q) * 19 := by rw [eU, List.length_drop]
     have hF : ∀ X, Below W.drew.heap.size W.drew X → X.rangeAt w.heap.size 0 (ah e ae ce) := fun X h => aj (aj HR.out hBW) h
     clear hW
     refine wp_region_noPanic ?_
     refine wp_region_held_drew (S := fun W' => Below W.drew.heap.size W.drew W') (by kernel_rfl) (Below.refl _ _) (fun hHeld => ?_)
     refine tH (v := ?_) 1 23 rfl (Or.inl ⟨by rfl, ?_⟩) ?_
     case refine_2 => exact z61
     try simp only [pS]
     refine tH (v := ?_) 2 24 rfl (Or.inl ⟨by rfl, ?_⟩) ?_
     case refine_2 => exact z61
     try simp only [pS]
     refine tH 3 25 rfl (Or.inl ⟨by rfl, fun W hSW => gq _ _ _ _ _ rfl _ (hcut W)⟩) ?_
     try simp only [pS]
     refine tH 5 27 rfl (yieldsIf_load_mid (by rfl) 64 _ rfl w.heap.size 0 rfl (ah e ae ce) _ (fun X h => hF X h) Tryz.underlying64 rfl (by kernel_rfl)) ?_
     try simp only [pS]
     refine tH (v := ?_) 8 30 rfl (Or.inl ⟨by rfl, ?_⟩) ?_
     case refine_2 => exact z61
     try simp only [pS]
     refine tH (v := ?_) 9 31 rfl (Or.inl ⟨by rfl, ?_⟩) ?_
     case refine_2 => exact z61
     try simp only [pS]
     refine tH 10 32 rfl (Or.inl ⟨by rfl, fun W hSW => gq _ _ _ _ _ rfl _ (lQ W)⟩) ?_
     try simp only [pS]
     refine wpAnyH_ready (rs := [0, 6]) (by kernel_rfl) (by simp) ?_
     refine AllReadyH.cons (o := ⟨some 22, _, _, _, _, _⟩) rfl (fun K hK => ?_) (AllReadyH.cons (o := ⟨some 28, _, _, _, _, _⟩) rfl (fun K hK => ?_) AllReadyH.nil)
     focus
      refine dA (by rfl) 29 64 rfl i0 _ 19 Tryz.underlying29 hi hz0 hz1 (by decide) ?_
      intro v0 X0 hown0 hbel0
      refine hK.out _ _ ?_ (fun ai => ?_)
      ·exact z69
      clear hK K hHeld
      have hHeld := ai
      clear ai
      try simp only [pS]
      refine wpAnyH_ready (rs := [4, 6]) (by kernel_rfl) (by simp) ?_
      refine AllReadyH.cons (o := ⟨some 26, _, _, _, _, _⟩) rfl (fun K hK => ?_) (AllReadyH.cons (o := ⟨some 28, _, _, _, _, _⟩) rfl (fun K hK => ?_) AllReadyH.nil)
      focus
       refine ak (by rfl) (.tmp 22) (.tmp 25) 29 rfl W.drew.heap.size 64 i0 _ 19 176 Tryz.underlying29 hi hz0 hz1 hz2 rfl (by decide) _ 0 _ rfl hown0 (some ⟨A, off, none⟩) q cap (aU (ls.take q)) rfl l1 (hR1 _ hHeld) (gB _) (by first | omega | (unfold maxLen; omega)) (by first | omega | (unfold maxLen; omega)) hHeld.size ?_
       intro v1 X1 hown1 hg1
       refine hK.out _ _ ?_ (fun ai => ?_)
       ·exact z32
       clear hK K hHeld
       have hHeld := ai
       clear ai
       try simp only [pS]
       refine rH 6 28 rfl fun K hK => ?_
       refine bF (by rfl) 29 64 _ rfl (ah e ae ce).toArray 19 rfl rfl (by decide) (by decide) Tryz.underlying29 (by kernel_rfl) (by kernel_rfl) ?_
       refine hK.out _ _ ?_ (fun ai => ?_)
       ·exact z68
       clear hK K hHeld
       have hHeld := ai
       clear ai
       try simp only [pS]
       have hN := (fun X => dV X e ae ce) X1
       refine rH 7 29 rfl fun K hK => ?_
       refine ak (by rfl) (.tmp 26) (.tmp 28) 29 rfl W.drew.heap.size 64 i0 _ 19 176 Tryz.underlying29 hi hz0 hz1 hz2 rfl (by decide) _ (0 + q) _ rfl (hown1.alloc _) (some ⟨X1.heap.size, 0, none⟩) 1 1 (ah e ae ce) rfl rfl hN (dn _ _ _) (by first | omega | (unfold maxLen; omega)) (by first | omega | (unfold maxLen; omega)) hHeld.size ?_
       intro v2 X2 hown2 hg2
       refine hK.out _ _ ?_ (fun ai => ?_)
       ·exact z33
       clear hK K hHeld
       have hHeld := ai
       clear ai
       try simp only [pS]
      rotate_left 1
      focus
       refine bF (by rfl) 29 64 _ rfl (ah e ae ce).toArray 19 rfl rfl (by decide) (by decide) Tryz.underlying29 (by kernel_rfl) (by kernel_rfl) ?_
       refine hK.out _ _ ?_ (fun ai => ?_)
       ·exact z68
       clear hK K hHeld
       have hHeld := ai
       clear ai
       try simp only [pS]
       have hN := (fun X => dV X e ae ce) X0
       refine rH 4 26 rfl fun K hK => ?_
       refine ak (by rfl) (.tmp 22) (.tmp 25) 29 rfl W.drew.heap.size 64 i0 _ 19 176 Tryz.underlying29 hi hz0 hz1 hz2 rfl (by decide) _ 0 _ rfl (hown0.alloc _) (some ⟨A, off, none⟩) q cap (aU (ls.take q)) rfl l1 (hR1 _ hHeld) (gB _) (by first | omega | (unfold maxLen; omega)) (by first | omega | (unfold maxLen; omega)) hHeld.size ?_
       intro v1 X1 hown1 hg1
       refine hK.out _ _ ?_ (fun ai => ?_)
       ·exact z32
       clear hK K hHeld
       have hHeld := ai
       clear ai
       try simp only [pS]
       replace hN := hN.grown hg1 (fun q hq e => by have := (hown0.lt _ e).2; simp only [Option.some.injEq] at hq; subst hq; simp only at this; omega)
       refine rH 7 29 rfl fun K hK => ?_
       refine ak (by rfl) (.tmp 26) (.tmp 28) 29 rfl W.drew.heap.size 64 i0 _ 19 176 Tryz.underlying29 hi hz0 hz1 hz2 rfl (by decide) _ (0 + q) _ rfl hown1 (some ⟨X0.heap.size, 0, none⟩) 1 1 (ah e ae ce) rfl rfl hN (dn _ _ _) (by first | omega | (unfold maxLen; omega)) (by first | omega | (unfold maxLen; omega)) hHeld.size ?_
       intro v2 X2 hown2 hg2
       refine hK.out _ _ ?_ (fun ai => ?_)
       ·exact z33
       clear hK K hHeld
       have hHeld := ai
       clear ai
       try simp only [pS]
     rotate_left 2
     focus
      refine bF (by rfl) 29 64 _ rfl (ah e ae ce).toArray 19 rfl rfl (by decide) (by decide) Tryz.underlying29 (by kernel_rfl) (by kernel_rfl) ?_
      refine hK.out _ _ ?_ (fun ai => ?_)
      ·exact z68
      clear hK K hHeld
      have hHeld := ai
      clear ai
      try simp only [pS]
      have hN := (fun X => dV X e ae ce) W.drew
      refine rH 0 22 rfl fun K hK => ?_
      refine dA (by rfl) 29 64 rfl i0 _ 19 Tryz.underlying29 hi hz0 hz1 (by decide) ?_
      intro v0 X0 hown0 hbel0
      refine hK.out _ _ ?_ (fun ai => ?_)
      ·exact z69
      clear hK K hHeld
      have hHeld := ai
      clear ai
      try simp only [pS]
      replace hN := hN.kept hbel0
      have qw := hown0
      replace hown0 := own_base hown0 (b2 := W.drew.heap.size) (by first | exact Nat.le_refl _ | simp)
      refine rH 4 26 rfl fun K hK => ?_
      refine ak (by rfl) (.tmp 22) (.tmp 25) 29 rfl W.drew.heap.size 64 i0 _ 19 176 Tryz.underlying29 hi hz0 hz1 hz2 rfl (by decide) _ 0 _ rfl hown0 (some ⟨A, off, none⟩) q cap (aU (ls.take q)) rfl l1 (hR1 _ hHeld) (gB _) (by first | omega | (unfold maxLen; omega)) (by first | omega | (unfold maxLen; omega)) hHeld.size ?_
      intro v1 X1 hown1 hg1
      refine hK.out _ _ ?_ (fun ai => ?_)
      ·exact z32
      clear hK K hHeld
      have hHeld := ai
      clear ai
      try simp only [pS]
      replace hN := hN.grown hg1 (fun q hq e => by have := (qw.lt _ e).1; simp only [Option.some.injEq] at hq; subst hq; simp at this; omega)
      refine rH 7 29 rfl fun K hK => ?_
      refine ak (by rfl) (.tmp 26) (.tmp 28) 29 rfl W.drew.heap.size 64 i0 _ 19 176 Tryz.underlying29 hi hz0 hz1 hz2 rfl (by decide) _ (0 + q) _ rfl hown1 (some ⟨W.drew.heap.size, 0, none⟩) 1 1 (ah e ae ce) rfl rfl hN (dn _ _ _) (by first | omega | (unfold maxLen; omega)) (by first | omega | (unfold maxLen; omega)) hHeld.size ?_
      intro v2 X2 hown2 hg2
      refine hK.out _ _ ?_ (fun ai => ?_)
      ·exact z33
      clear hK K hHeld
      have hHeld := ai
      clear ai
      try simp only [pS]
     all_goals
      refine rH 11 33 rfl fun K hK => ?_
      refine ak (by rfl) (.tmp 29) (.tmp 32) 29 rfl W.drew.heap.size 64 i0 _ 19 176 Tryz.underlying29 hi hz0 hz1 hz2 rfl (by decide) _ (0 + q + 1) _ rfl hown2 (lC (some ⟨A, off, none⟩) cap q 19) (ls.length - q) (cap - q) (aU (ls.drop q)) rfl l2 (hR2 _ hHeld) (gB _) (by first | omega | (unfold maxLen; omega)) (by first | omega | (unfold maxLen; omega)) hHeld.size ?_
      intro v3 X3 hown3 hg3
      refine hK.out _ _ ?_ (fun ai => ?_)
      ·exact z83
      clear hK K hHeld
      have hHeld := ai
      clear ai
      try simp only [pS]
      refine tH (v := ?_) 12 4 rfl (Or.inl ⟨by rfl, ?_⟩) ?_
      case refine_2 => exact z61
      try simp only [pS]
      refine wpAnyH_done (by kernel_rfl) ?_ _
      refine NoPanic.normal ?_
      have e1 : [] ++ aU (ls.take q) ++ ah e ae ce ++ aU (ls.drop q) = aU (iZ ls (e, ae, ce)) := by unfold iZ; rw [HI.out]; simp [aU]
      have e2 : 0 + q + 1 + (ls.length - q) = (iZ ls (e, ae, ce)).length := by rw [BC]; omega
      rw [e1, e2] at hown3
      obtain ⟨a2, c2, rfl, hcell2, hc2⟩ := dX hown3
      obtain ⟨a3, c3, he3, rC⟩ := iK hown3 (fun x hx => (HD.out x hx).kept (hBW.trans (hHeld.mono hzW)))
      obtain ⟨rfl, rfl⟩ : a2 = a3 ∧ c2 = c3 := by cases he3; exact ⟨rfl, rfl⟩
      have HZ := Lib.hid (And.intro (fH hown3 (Nat.le_trans hz0' hzW)) (And.intro rC (And.intro hc2 (hb0.trans ((hBW.trans (hHeld.mono hzW)).mono hz0')))))
      clear e1 e2 hR1 hR2 l1 l2 hF hcut lQ hown3 hHeld lI hBW hbW rC hcell2 hc2 he3
      go_wp2
      go_ret
      exact ⟨a2, c2, rfl, HZ.out.1, HZ.out.2.1, HZ.out.2.2.1, HZ.out.2.2.2⟩
  ·have HI : Hid (iV ls e.dot = q) := by unfold Hid; rw [HA.out, List.drop_eq_nil_of_le (by omega)]; rfl
   have hqd : decide (q < ls.length) = false := decide_eq_false hqt
   have hqi : decide ((q : Int) < (ls.length : Int)) = false := decide_eq_false (by omega)
   go_upto_region 2 with fail
   refine y62 ?_
   intro WA hWA hbA
   have hBA : Below W0.heap.size W0 WA := hB.trans (hbA.mono hB.size)
   have pD0 : ∀ i : After WA, i.w.cell? ⟨w.heap.size, 0, none⟩ = some (.int .i64 e.dot.a.dev) := fun i => i.cell (kept hBA D0)
   have pD1 : ∀ i : After WA, i.w.cell? ⟨w.heap.size, 1, none⟩ = some (.int .i64 e.dot.a.inc) := fun i => i.cell (kept hBA D1)
   have pD2 : ∀ i : After WA, i.w.cell? ⟨w.heap.size, 2, none⟩ = some (.int .i64 e.dot.seq) := fun i => i.cell (kept hBA D2)
   clear hWA hBA
   iterate 14 go_big_quiet_step (fail)
   refine wpQuiet_nil ?_
   rintro _ ⟨i, rfl⟩
   have hiA := i.h
   generalize i.w = wp at hiA ⊢
   have hbY : Below wr.heap.size wr wp := below2 hbA hiA
   replace hB := hB.trans (hbY.mono hB.size)
   clear hbA hiA hbY pD0 pD1 pD2
   go_upto_region 4 with fail
   refine aX (fun W hW => ?_)
   have hbW : Below wp.heap.size wp W.drew := by rw [hW.out]; go_grown
   have hBW : Below W0.heap.size W0 W.drew := hB.trans (hbW.mono hB.size)
   have lI := HC.out.kept hBW
   have hzW := hBW.size
   have hq := HQ.out
   have hcut : ∀ X, (Instr.sliceAt 29 (.slice a ls.length cap) none (some (.int .i64 (q : Nat))) none).run Tryz.prog X = .ok (.slice a q cap) X := fun X => kU X _ _ i0 a ls.length cap .i64 q Tryz.underlying29 hi (by omega)
   have lQ : ∀ X, (Instr.sliceAt 29 (.slice a ls.length cap) (some (.int .i64 (q : Nat))) none none).run Tryz.prog X = .ok (.slice (lC a cap q 19) (ls.length - q) (cap - q)) X := fun X => jT X _ _ i0 a ls.length cap .i64 q 19 Tryz.underlying29 hi hz1 (by omega)
   have hR1 : ∀ X, Below W.drew.heap.size W.drew X → CellsIn X a (aU (ls.take q)) := fun X h => by rw [← qV]; exact (lI.kept h).take _
   have hR2 : ∀ X, Below W.drew.heap.size W.drew X → CellsIn X (lC a cap q 19) (aU (ls.drop q)) := fun X h => by rw [← qW]; exact (lI.kept h).cut (eU ls) hlc q
   have l1 : (aU (ls.take q)).length = q * 19 := by rw [eU, List.length_take, Nat.min_eq_left hq]
   have l2 : (aU (ls.drop q)).length = (ls.length - q) * 19 := by rw [eU, List.length_drop]
   have hF : ∀ X, Below W.drew.heap.size W.drew X → X.rangeAt w.heap.size 0 (ah e ae ce) := fun X h => aj (aj HR.out hBW) h
   clear hW
   refine y67 ?_
   intro hHeld
   refine tH (v := ?_) 1 23 rfl (Or.inl ⟨by rfl, ?_⟩) ?_
   case refine_2 => exact z61
   try simp only [pS]
   refine tH (v := ?_) 2 24 rfl (Or.inl ⟨by rfl, ?_⟩) ?_
   case refine_2 => exact z61
   try simp only [pS]
   refine tH 3 25 rfl (Or.inl ⟨by rfl, fun W hSW => gq _ _ _ _ _ rfl _ (hcut W)⟩) ?_
   try simp only [pS]
   refine tH 5 27 rfl (yieldsIf_load_mid (by rfl) 64 _ rfl w.heap.size 0 rfl (ah e ae ce) _ (fun X h => hF X h) Tryz.underlying64 rfl (by kernel_rfl)) ?_
   try simp only [pS]
   refine tH (v := ?_) 8 30 rfl (Or.inl ⟨by rfl, ?_⟩) ?_
   case refine_2 => exact z61
   try simp only [pS]
   refine tH (v := ?_) 9 31 rfl (Or.inl ⟨by rfl, ?_⟩) ?_
   case refine_2 => exact z61
   try simp only [pS]
   refine tH 10 32 rfl (Or.inl ⟨by rfl, fun W hSW => gq _ _ _ _ _ rfl _ (lQ W)⟩) ?_
   try simp only [pS]
   refine wpAnyH_ready (rs := [0, 6]) (by kernel_rfl) (by simp) ?_
   refine AllReadyH.cons (o := ⟨some 22, _, _, _, _, _⟩) rfl (fun K hK => ?_) (AllReadyH.cons (o := ⟨some 28, _, _, _, _, _⟩) rfl (fun K hK => ?_) AllReadyH.nil)
   focus
        refine dA (by rfl) 29 64 rfl i0 _ 19 Tryz.underlying29 hi hz0 hz1 (by decide) ?_
        intro v0 X0 hown0 hbel0
        refine hK.out _ _ ?_ (fun ai => ?_)
        ·exact z69
        clear hK K hHeld
        have hHeld := ai
        clear ai
        try simp only [pS]
        refine wpAnyH_ready (rs := [4, 6]) (by kernel_rfl) (by simp) ?_
        refine AllReadyH.cons (o := ⟨some 26, _, _, _, _, _⟩) rfl (fun K hK => ?_) (AllReadyH.cons (o := ⟨some 28, _, _, _, _, _⟩) rfl (fun K hK => ?_) AllReadyH.nil)
        focus
         refine ak (by rfl) (.tmp 22) (.tmp 25) 29 rfl W.drew.heap.size 64 i0 _ 19 176 Tryz.underlying29 hi hz0 hz1 hz2 rfl (by decide) _ 0 _ rfl hown0 a q cap (aU (ls.take q)) rfl l1 (hR1 _ hHeld) (gB _) (by first | omega | (unfold maxLen; omega)) (by first | omega | (unfold maxLen; omega)) hHeld.size ?_
         intro v1 X1 hown1 hg1
         refine hK.out _ _ ?_ (fun ai => ?_)
         ·exact z32
         clear hK K hHeld
         have hHeld := ai
         clear ai
         try simp only [pS]
         refine rH 6 28 rfl fun K hK => ?_
         refine bF (by rfl) 29 64 _ rfl (ah e ae ce).toArray 19 rfl rfl (by decide) (by decide) Tryz.underlying29 (by kernel_rfl) (by kernel_rfl) ?_
         refine hK.out _ _ ?_ (fun ai => ?_)
         ·exact z68
         clear hK K hHeld
         have hHeld := ai
         clear ai
         try simp only [pS]
         have hN := (fun X => dV X e ae ce) X1
         refine rH 7 29 rfl fun K hK => ?_
         refine ak (by rfl) (.tmp 26) (.tmp 28) 29 rfl W.drew.heap.size 64 i0 _ 19 176 Tryz.underlying29 hi hz0 hz1 hz2 rfl (by decide) _ (0 + q) _ rfl (hown1.alloc _) (some ⟨X1.heap.size, 0, none⟩) 1 1 (ah e ae ce) rfl rfl hN (dn _ _ _) (by first | omega | (unfold maxLen; omega)) (by first | omega | (unfold maxLen; omega)) hHeld.size ?_
         intro v2 X2 hown2 hg2
         refine hK.out _ _ ?_ (fun ai => ?_)
         ·exact z33
         clear hK K hHeld
         have hHeld := ai
         clear ai
         try simp only [pS]
        rotate_left 1
        focus
         refine bF (by rfl) 29 64 _ rfl (ah e ae ce).toArray 19 rfl rfl (by decide) (by decide) Tryz.underlying29 (by kernel_rfl) (by kernel_rfl) ?_
         refine hK.out _ _ ?_ (fun ai => ?_)
         ·exact z68
         clear hK K hHeld
         have hHeld := ai
         clear ai
         try simp only [pS]
         have hN := (fun X => dV X e ae ce) X0
         refine rH 4 26 rfl fun K hK => ?_
         refine ak (by rfl) (.tmp 22) (.tmp 25) 29 rfl W.drew.heap.size 64 i0 _ 19 176 Tryz.underlying29 hi hz0 hz1 hz2 rfl (by decide) _ 0 _ rfl (hown0.alloc _) a q cap (aU (ls.take q)) rfl l1 (hR1 _ hHeld) (gB _) (by first | omega | (unfold maxLen; omega)) (by first | omega | (unfold maxLen; omega)) hHeld.size ?_
         intro v1 X1 hown1 hg1
         refine hK.out _ _ ?_ (fun ai => ?_)
         ·exact z32
         clear hK K hHeld
         have hHeld := ai
         clear ai
         try simp only [pS]
         replace hN := hN.grown hg1 (fun q hq e => by have := (hown0.lt _ e).2; simp only [Option.some.injEq] at hq; subst hq; simp only at this; omega)
         refine rH 7 29 rfl fun K hK => ?_
         refine ak (by rfl) (.tmp 26) (.tmp 28) 29 rfl W.drew.heap.size 64 i0 _ 19 176 Tryz.underlying29 hi hz0 hz1 hz2 rfl (by decide) _ (0 + q) _ rfl hown1 (some ⟨X0.heap.size, 0, none⟩) 1 1 (ah e ae ce) rfl rfl hN (dn _ _ _) (by first | omega | (unfold maxLen; omega)) (by first | omega | (unfold maxLen; omega)) hHeld.size ?_
         intro v2 X2 hown2 hg2
         refine hK.out _ _ ?_ (fun ai => ?_)
         ·exact z33
         clear hK K hHeld
         have hHeld := ai
         clear ai
         try simp only [pS]
   rotate_left 2
   focus
        refine bF (by rfl) 29 64 _ rfl (ah e ae ce).toArray 19 rfl rfl (by decide) (by decide) Tryz.underlying29 (by kernel_rfl) (by kernel_rfl) ?_
        refine hK.out _ _ ?_ (fun ai => ?_)
        ·exact z68
        clear hK K hHeld
        have hHeld := ai
        clear ai
        try simp only [pS]
        have hN := (fun X => dV X e ae ce) W.drew
        refine rH 0 22 rfl fun K hK => ?_
        refine dA (by rfl) 29 64 rfl i0 _ 19 Tryz.underlying29 hi hz0 hz1 (by decide) ?_
        intro v0 X0 hown0 hbel0
        refine hK.out _ _ ?_ (fun ai => ?_)
        ·exact z69
        clear hK K hHeld
        have hHeld := ai
        clear ai
        try simp only [pS]
        replace hN := hN.kept hbel0
        have qw := hown0
        replace hown0 := own_base hown0 (b2 := W.drew.heap.size) (by first | exact Nat.le_refl _ | simp)
        refine rH 4 26 rfl fun K hK => ?_
        refine ak (by rfl) (.tmp 22) (.tmp 25) 29 rfl W.drew.heap.size 64 i0 _ 19 176 Tryz.underlying29 hi hz0 hz1 hz2 rfl (by decide) _ 0 _ rfl hown0 a q cap (aU (ls.take q)) rfl l1 (hR1 _ hHeld) (gB _) (by first | omega | (unfold maxLen; omega)) (by first | omega | (unfold maxLen; omega)) hHeld.size ?_
        intro v1 X1 hown1 hg1
        refine hK.out _ _ ?_ (fun ai => ?_)
        ·exact z32
        clear hK K hHeld
        have hHeld := ai
        clear ai
        try simp only [pS]
        replace hN := hN.grown hg1 (fun q hq e => by have := (qw.lt _ e).1; simp only [Option.some.injEq] at hq; subst hq; simp at this; omega)
        refine rH 7 29 rfl fun K hK => ?_
        refine ak (by rfl) (.tmp 26) (.tmp 28) 29 rfl W.drew.heap.size 64 i0 _ 19 176 Tryz.underlying29 hi hz0 hz1 hz2 rfl (by decide) _ (0 + q) _ rfl hown1 (some ⟨W.drew.heap.size, 0, none⟩) 1 1 (ah e ae ce) rfl rfl hN (dn _ _ _) (by first | omega | (unfold maxLen; omega)) (by first | omega | (unfold maxLen; omega)) hHeld.size ?_
        intro v2 X2 hown2 hg2
        refine hK.out _ _ ?_ (fun ai => ?_)
        ·exact z33
        clear hK K hHeld
        have hHeld := ai
        clear ai
        try simp only [pS]
   all_goals
        refine rH 11 33 rfl fun K hK => ?_
        refine ak (by rfl) (.tmp 29) (.tmp 32) 29 rfl W.drew.heap.size 64 i0 _ 19 176 Tryz.underlying29 hi hz0 hz1 hz2 rfl (by decide) _ (0 + q + 1) _ rfl hown2 (lC a cap q 19) (ls.length - q) (cap - q) (aU (ls.drop q)) rfl l2 (hR2 _ hHeld) (gB _) (by first | omega | (unfold maxLen; omega)) (by first | omega | (unfold maxLen; omega)) hHeld.size ?_
        intro v3 X3 hown3 hg3
        refine hK.out _ _ ?_ (fun ai => ?_)
        ·exact z83
        clear hK K hHeld
        have hHeld := ai
        clear ai
        try simp only [pS]
        refine tH (v := ?_) 12 4 rfl (Or.inl ⟨by rfl, ?_⟩) ?_
        case refine_2 => exact z61
        try simp only [pS]
        refine wpAnyH_done (by kernel_rfl) ?_ _
        refine NoPanic.normal ?_
        have e1 : [] ++ aU (ls.take q) ++ ah e ae ce ++ aU (ls.drop q) = aU (iZ ls (e, ae, ce)) := by unfold iZ; rw [HI.out]; simp [aU]
        have e2 : 0 + q + 1 + (ls.length - q) = (iZ ls (e, ae, ce)).length := by rw [BC]; omega
        rw [e1, e2] at hown3
        obtain ⟨a2, c2, rfl, hcell2, hc2⟩ := dX hown3
        obtain ⟨a3, c3, he3, rC⟩ := iK hown3 (fun x hx => (HD.out x hx).kept (hBW.trans (hHeld.mono hzW)))
        obtain ⟨rfl, rfl⟩ : a2 = a3 ∧ c2 = c3 := by cases he3; exact ⟨rfl, rfl⟩
        have HZ := Lib.hid (And.intro (fH hown3 (Nat.le_trans hz0' hzW)) (And.intro rC (And.intro hc2 (hb0.trans ((hBW.trans (hHeld.mono hzW)).mono hz0')))))
        clear e1 e2 hR1 hR2 l1 l2 hF hcut lQ hown3 hHeld lI hBW hbW rC hcell2 hc2 he3
        go_wp2
        go_ret
        exact ⟨a2, c2, rfl, HZ.out.1, HZ.out.2.1, HZ.out.2.2.1, HZ.out.2.2.2⟩
theorem tN {fn : Func} {p u v : Tmp} {ty : TypeId} (h : fn.results = #[.cell p ty, .tmp u, .tmp v]) (tmps : Array Value) (P : Program) (w : World) :
 (results fn tmps).run P w =
  ((asAddr (tmps.getD p undef)).run P w).andThen fun a w₁ => ((loadVar ty a).run P w₁).andThen fun x w₂ => .ok (.tuple #[x, tmps.getD u undef, tmps.getD v undef]) w₂ := by
 simp only [results, h]
 simp [Sem.run_bind, Result.andThen]
theorem kZ {P : Program} {fn : Func} {R : Ending → World → Prop} {a : Act} {w : World} (p u z : Tmp) (ty t : TypeId) (g : Nat) (c : Array Value) (d : TypeDesc) (v x : Value) (hr : fn.results = #[.cell p ty, .tmp u, .tmp z])
 (hp : a.tmps.getD p undef = .pointer (some ⟨g, 0, none⟩)) (hv : a.tmps.getD u undef = v) (hx : a.tmps.getD z undef = x) (hg : w.heap[g]? = some (.cells c t (0, 0))) (hu : P.underlying ty = some d) (hd : d.isRow = true) (hi : (P.info? ty).map (·.size) = some c.size)
 (hde : a.defers = []) (hR : R (.returned (.tuple #[.agg c, v, x])) w) : bodyPost P fn R .ret a w := by
 have h1 : w.rangeAt g 0 c.toList := fun j v hv => by
  exact z113
 have h2 := run_loadVar_mid (P := P) w g 0 ty c.toList d h1 hu hd (by simpa using hi)
 refine bodyPost_ret ?_ hde hR
 rw [tN hr, hp, hv, hx]
 simp [asAddr, h2, Result.andThen]
theorem nI {B : Nat} {w w' : World} (h : Below B w w') {p : Addr} {v : Value} (hp : p.block < B) (hc : w.cell? p = some v) : w'.cell? p = some v := (World.cell?_of_block (h.block p.block hp)).trans hc
theorem Lu {B : Nat} {w w' : World} (h : Below B w w') {b o : Nat} {cs : List Value} (hb : b < B) (hc : w.rangeAt b o cs) : w'.rangeAt b o cs := fun j v hv => nI h hb (hc j v hv)
/-- an append to one row leaves another row, of another type, as it is -/
theorem jR {w w' : World} {base b2 n m size s2 : Nat} {e e2 : TypeId} {v v2 : Value} {xs ys : List Value} (h : w.ownsRow base e size v n xs) (k : w.ownsRow b2 e2 s2 v2 m ys) (hne : e ≠ e2) (hg : w.grownBy w' v2.ownBlock) : w'.ownsRow base e size v n xs := by
 refine ⟨h.1, ?_⟩
 rcases h.2 with h2 | ⟨g, cap, cur, hv, hbs, hb, rest⟩
 ·exact .inl h2
 ·refine .inr ⟨g, cap, cur, hv, hbs, (hg.block g (lt_of_block hb) (fun e3 => ?_)).trans hb, rest⟩
  rcases k.2 with ⟨rfl, _⟩ | ⟨g2, cap2, Uj, rfl, _, hb2, _⟩
  ·simp [Value.ownBlock] at e3
  ·obtain rfl : g = g2 := by simpa [Value.ownBlock] using e3
   rw [hb] at hb2
   simp only [Option.some.injEq, Obj.cells.injEq] at hb2
   exact hne hb2.2.1
theorem Ky {w : World} {g : Nat} (cs : Array Value) : Fr (isR g) w (w.setRow g cs) := ⟨rfl, rfl, rfl, by simp, fun k _ hk => bz _ _ _ _ (fun e => hk e.symm)⟩
theorem jD {a b : Option Addr} {n m c d : Nat} (h : Value.slice a n c = Value.slice b m d) : a = b ∧ c = d := by
 simp only [Value.slice.injEq] at h
 exact ⟨h.1, h.2.2⟩
/-- the reference's map, plainly -/
structure RM where
 ctx : List Dot
 kept : List Ev
 dead : List Dot
/-- and with the addresses of its lists -/
structure RMIt where
 ac : Option Addr
 ctx : List Dot
 cc : Nat
 aK : Option Addr
 K : List bg
 cK : Nat
 ad : Option Addr
 dead : List Dot
 cd : Nat
abbrev xQ (x : RMIt) : List Value := [.slice x.ac x.ctx.length x.cc, .slice x.aK x.K.length x.cK, .slice x.ad x.dead.length x.cd]
abbrev nz (x : RMIt) : Value := .agg #[.slice x.ac x.ctx.length x.cc, .slice x.aK x.K.length x.cK, .slice x.ad x.dead.length x.cd]
def RMIt.rm (x : RMIt) : RM := ⟨x.ctx, aQ x.K, x.dead⟩
structure RMIn (w : World) (x : RMIt) : Prop where
 ctx : DotsIn w x.ac x.ctx
 kept : EvsIn w x.aK x.K
 dead : DotsIn w x.ad x.dead
 cc : x.ctx.length ≤ x.cc
 cK : x.K.length ≤ x.cK
 cd : x.dead.length ≤ x.cd
theorem RMIn.keep {w w' : World} {x : RMIt} (h : RMIn w x) (hb : Below w.heap.size w w') : RMIn w' x := ⟨h.ctx.kept hb, h.kept.kept hb, h.dead.kept hb, h.cc, h.cK, h.cd⟩
structure RMSize (x : RMIt) : Prop where
 ctx : x.ctx.length ≤ 1048576
 K : x.K.length ≤ 524288
 dead : x.dead.length ≤ 524288
 ok : ∀ d ∈ x.ctx, bu d = true
def Ee (r : RM) (e : Ev) : Bool := cu e && (!iw r.ctx e.dot && (decide (eY r.ctx e.dot.a + 1 = e.dot.seq) && decide (r.kept.length < 2048)))
def Lt (r : RM) (e : Ev) : Int := if cu e = true then (if iw r.ctx e.dot = true then 0 else if eY r.ctx e.dot.a + 1 = e.dot.seq then (if r.kept.length < 2048 then 0 else 9) else 6) else 1
def pU (r : RM) (e : Ev) : RM := if Ee r e = true then ⟨jL r.ctx e.dot.a e.dot.seq, qo e r.kept, sortD (r.dead ++ e.over)⟩ else r
theorem IG (x : RMIt) (e : Ev) (ae : Option Addr) (ce : Nat) {aS aP aD : Option Addr} {cS cP cD : Nat} (h : Ee x.rm e = true) : RMIt.rm ⟨aS, jL x.ctx e.dot.a e.dot.seq, cS, aP, iZ x.K (e, ae, ce), cP, aD, sortD (x.dead ++ e.over), cD⟩ = pU x.rm e := by
 unfold pU
 rw [h, if_pos rfl]
 show (⟨jL x.ctx e.dot.a e.dot.seq, aQ (iZ x.K (e, ae, ce)), sortD (x.dead ++ e.over)⟩ : RM) = _
 rw [BM]
 rfl
def O1 (r : RM) (e : Ev) (w : World) (x : Ending) (w' : World) : Prop :=
 ∃ y, x = .returned (.tuple #[nz y, .bool (Ee r e), .int .i64 (Lt r e)]) ∧ RMIn w' y ∧ y.rm = pU r e ∧ Below w.heap.size w w'
theorem DotsIn.dcells {w : World} {a : Option Addr} {l : List Dot} (h : DotsIn w a l) : CellsIn w a (aI l) := by
 rcases h with h | ⟨A, off, h1, h2⟩
 ·exact Or.inl (by rw [h]; rfl)
 ·refine Or.inr ⟨A, off, h1, fun j v hv => ?_⟩
  subst h1
  have := h2.news j v hv
  rwa [Addr.add_mid] at this
theorem z30 {p : Prop} (h : p := by
 have c0 := kept hB C0
 have c1 := kept hB C1
 have c2 := kept hB C2
 have hZX := (hB.block _ (lt_of_block hZ)).trans hZ
 have HBX := Lib.hid (hb0.trans (hB.mono hb0.size))
 clear hB
 go_wp2_with (refine wpList_store_row rfl 32 _ _ rfl (w.heap.size + 2) #[.slice x.ac x.ctx.length x.cc, .slice x.aK x.K.length x.cK, .slice x.ad x.dead.length x.cd] rfl rfl 32 CZ hZX (by kernel_rfl) hZs (by kernel_rfl) ?_)
 refine kZ 4 5 6 32 32 (w.heap.size + 2) #[.slice x.ac x.ctx.length x.cc, .slice x.aK x.K.length x.cK, .slice x.ad x.dead.length x.cd] _ _ _ rfl rfl rfl rfl (setRow_heap _ _ _ _ _ _ hZX) Tryz.underlying32 rfl (by kernel_rfl) rfl ?_
 have hbS := below_setRow HBX.out (by omega : w.heap.size ≤ w.heap.size + 2) #[.slice x.ac x.ctx.length x.cc, .slice x.aK x.K.length x.cK, .slice x.ad x.dead.length x.cd]
 exact ⟨x, by rw [HO.out, HE.out]; rfl, HH.out.keep hbS, by unfold pU; rw [HO.out, if_neg (by decide)], hbS⟩) : p := h
theorem z7 {p : Prop} (h : p := by (intro w hSw; have sC0 := nI hSw (by simp) vC0; have sC1 := nI hSw (by simp) vC1; have sC2 := nI hSw (by simp) vC2; have sE0 := nI hSw (by simp) vE0; have sE1 := nI hSw (by simp) vE1; have sE2 := nI hSw (by simp) vE2; have Tz := nI hSw (by simp) Sl; go_simp; try with_reducible rfl)) : p := h
theorem z71 {p : Prop} (h : p := by
 have h9 : XA.ownsRow V.drew.heap.size 56 3 vT (x.dead ++ e.over).length (aI (x.dead ++ e.over)) := by
  rw [List.length_append, qH]
  rw [Nat.zero_add, List.nil_append] at hown
  exact hown
 obtain ⟨a, c, h1, h2⟩ := gy h9
 exact ⟨a, c, by rw [h1, List.length_append], h2⟩) : p := h
theorem y56 {p q : Prop} (k : q) (h : PLift q → p := by
 intro kk
 try simp only [pS]
 refine wpAnyH_done (by kernel_rfl) ?_ _
 refine NoPanic.normal ?_
 exact kk.down) : p := h ⟨k⟩
theorem y45 {p q : Prop} (k : q) (h : PLift q → p := by
 intro kk
 refine iH (by rfl) 32 _ _ rfl (w.heap.size + 2) #[.slice aS (jL x.ctx e.dot.a e.dot.seq).length cS, .slice aP (iZ x.K (e, ae, ce)).length cP, .slice aD (sortD (x.dead ++ e.over)).length cD] rfl rfl 32 CZ hZX (by kernel_rfl) hZs (by kernel_rfl) ?_
 refine hK.out _ _ (below_setRow dJ (Nat.le_refl _) _) (fun ai => ?_)
 try simp only [pS]
 revert ai
 exact kk.down) : p := h ⟨k⟩
theorem y14 {p q : Prop} (k : q) (h : PLift q → p := by
 intro kk
 refine kZ 4 5 6 32 32 (w.heap.size + 2) #[.slice aS (jL x.ctx e.dot.a e.dot.seq).length cS, .slice aP (iZ x.K (e, ae, ce)).length cP, .slice aD (sortD (x.dead ++ e.over)).length cD] _ _ _ rfl rfl rfl rfl (setRow_heap _ _ _ _ _ _ hZX) Tryz.underlying32 rfl (by kernel_rfl) rfl ?_
 have hbS := below_setRow (HBV.out.trans (hHeld.mono (Nat.le_of_lt (Nat.lt_of_le_of_lt (Nat.le_add_right _ 2) hlo)))) (by omega : w.heap.size ≤ w.heap.size + 2) #[.slice aS (jL x.ctx e.dot.a e.dot.seq).length cS, .slice aP (iZ x.K (e, ae, ce)).length cP, .slice aD (sortD (x.dead ++ e.over)).length cD]
 have hne : ∀ (v : Value) (n : Nat) (t : TypeId) (sz : Nat) (cs : List Value), wD.ownsRow V.drew.heap.size t sz v n cs → (wD.setRow (w.heap.size + 2) #[.slice aS (jL x.ctx e.dot.a e.dot.seq).length cS, .slice aP (iZ x.K (e, ae, ce)).length cP, .slice aD (sortD (x.dead ++ e.over)).length cD]).ownsRow V.drew.heap.size t sz v n cs := fun v n t sz cs h9 => h9.kept2 (Ky _) (fun g hg e => by have := (h9.lt g hg).1; omega)
 obtain ⟨a1, c1, he1, hd1⟩ := Bq (hne _ _ _ _ _ hS)
 revert hbS hne a1 c1 he1 hd1
 exact kk.down) : p := h ⟨k⟩
theorem y8 {p q : Prop} (k : q) (h : PLift q → p := by
 intro kk
 try simp only [pS]
 refine rH 16 50 rfl fun K hK => ?_
 refine ak (by rfl) (.tmp 47) (.tmp 49) 30 rfl V.drew.heap.size 56 iD _ 3 24 Tryz.underlying30 hD hD0 hD1 hD2 rfl (by decide) _ 0 [] rfl hown x.ad x.dead.length x.cd (aI x.dead) rfl (by rw [dQ]) (vd.kept hHeld) (dB _) (by unfold maxLen; omega) (by omega) hHeld.size ?_
 intro vA XA hownA hgA
 have hownO := hown
 have hown := hownA
 clear hownA
 have hNext := hHeld.grown hgA hHeld.size (fun k hk => (hownO.lt k hk).1)
 refine hK.out _ _ (hNext.mono (by omega)) (fun ai => ?_)
 clear hK K
 have hHeld := hNext
 have dJ := ai
 clear ai hNext
 replace hS := jR hS hownO (by decide) hgA
 replace hP := jR hP hownO (by decide) hgA
 clear hgA hownO
 try simp only [pS]
 refine rH 19 53 rfl fun K hK => ?_
 refine ak (by rfl) (.tmp 50) (.tmp 52) 30 rfl V.drew.heap.size 56 iD _ 3 24 Tryz.underlying30 hD hD0 hD1 hD2 rfl (by decide) _ (0 + x.dead.length) ([] ++ aI x.dead) rfl hown ae e.over.length ce (aI e.over) rfl (by rw [dQ]) (vo.kept hHeld) (dB _) (by unfold maxLen; omega) (by omega) hHeld.size ?_
 intro vA XA hownA hgA
 have hownO := hown
 clear hown
 have hown := hownA
 clear hownA
 have hNext := hHeld.grown hgA hHeld.size (fun k hk => (hownO.lt k hk).1)
 refine hK.out _ _ (hNext.mono (by omega)) (fun ai => ?_)
 clear hK K hHeld dJ
 have hHeld := hNext
 have dJ := ai
 clear ai hNext
 replace hS := jR hS hownO (by decide) hgA
 replace hP := jR hP hownO (by decide) hgA
 clear hgA hownO
 try simp only [pS]
 revert vA XA hown hHeld dJ hS hP
 exact kk.down) : p := h ⟨k⟩
theorem y70 {p q : Prop} (k : q) (h : PLift q → p := by
 intro kk
 have hDr := fH hD8 hHeld.size
 go_simp
 have hNext := hHeld.trans (hbD.mono hHeld.size)
 refine hK.out _ _ (hNext.mono (by omega)) (fun ai => ?_)
 have hHeld := hNext
 have dJ := ai
 clear ai hNext
 replace hS := ownsRow_below hS hbD
 replace hP := ownsRow_below hP hbD
 revert hDr hHeld dJ hS hP
 exact kk.down) : p := h ⟨k⟩
theorem z2 {p : Prop} (h : p := by
 refine y8 ?_
 clear hown hHeld dJ hS hP
 intro vA XA hown hHeld dJ hS hP
 obtain ⟨vT, hvT⟩ : ∃ vT, vT = vA := ⟨_, rfl⟩
 rw [← hvT] at hown
 obtain ⟨aT, cT, hT, G9⟩ : ∃ a cap, vT = .slice a (x.dead.length + e.over.length) cap ∧ DotsIn XA a (x.dead ++ e.over) := by
  exact z71
 rw [hT] at hvT
 subst hvT
 have HSo := Lib.hid (show Calls Tryz.prog 144 #[.slice aT (x.dead.length + e.over.length) cT] XA _ from by
  have h9 := O6.out XA aT cT (by rw [List.length_append]; omega) G9
  rw [List.length_append] at h9
  exact h9)
 refine rH 20 54 rfl fun K hK => ?_
 go_simp
 go_at_call 144
 (with_reducible refine HSo.out.mono ?_)
 rintro v wD ⟨vD, rfl, hD8, hbD⟩
 refine y70 ?_
 clear hD8 hK K hHeld dJ hS hP
 intro hDr hHeld dJ hS hP
 clear hbD hown hT G9 HSo
 obtain ⟨aD, cD, rfl, hDc, hDl⟩ := dX hDr
 clear hDc
 try simp only [pS]
 refine tH (v := ?_) 21 55 rfl (Or.inl ⟨by rfl, ?_⟩) ?_
 case refine_2 => exact z61
 try simp only [pS]
 have hZX : wD.heap[w.heap.size + 2]? = _ := (hHeld.block _ (by omega)).trans hZV
 refine wpAnyH_ready (rs := [22]) (by kernel_rfl) (by simp) ?_
 refine AllReadyH.cons (o := ⟨none, _, _, _, _, _⟩) rfl (fun K hK => ?_) AllReadyH.nil
 refine y45 ?_
 clear hK K
 intro ai
 refine tH (v := ?_) 23 5 rfl (Or.inl ⟨by rfl, ?_⟩) ?_
 case refine_2 => exact z61
 try simp only [pS]
 refine tH (v := ?_) 24 6 rfl (Or.inl ⟨by rfl, ?_⟩) ?_
 case refine_2 => exact z61
 refine y56 ?_
 clear ai
 go_wp2
 refine y14 ?_
 intro hbS hne a1 c1 he1 hd1
 obtain ⟨rfl, rfl⟩ := jD he1
 obtain ⟨a2, c2, he2, hd2⟩ := iK (hne _ _ _ _ _ hP) (fun z hz9 => by
  rcases vC hz9 with rfl | hz9
  ·exact HDD.out.kept hbS
  ·exact (HH.out.kept.dots z hz9).kept hbS)
 obtain ⟨rfl, rfl⟩ := jD he2
 obtain ⟨a3, c3, he3, hd3⟩ := gy (hne _ _ _ _ _ hDr)
 obtain ⟨rfl, rfl⟩ := jD he3
 exact ⟨⟨aS, jL x.ctx e.dot.a e.dot.seq, cS, aP, iZ x.K (e, ae, ce), cP, aD, sortD (x.dead ++ e.over), cD⟩, by rw [HO.out, HE.out]; rfl, ⟨hd1, hd2, hd3, hSl, hPl, hDl⟩, IG x e ae ce HO.out, hbS⟩) : p := h
theorem y28 {p q : Prop} (k : q) (h : PLift q → p := by
 intro kk
 have hP := fH hP0 hHeld.size
 go_simp
 have hNext := hHeld.trans (hbP.mono hHeld.size)
 refine hK.out _ _ (hNext.mono (by omega)) (fun ai => ?_)
 have hHeld := hNext
 have dJ := ai
 clear ai hNext
 replace hS := ownsRow_below hS hbP
 revert hP hHeld dJ hS
 exact kk.down) : p := h ⟨k⟩
theorem y26 {p q : Prop} (k : q) (h : PLift q → p := by
 intro kk
 refine dA (by rfl) 30 56 rfl iD _ 3 Tryz.underlying30 hD hD0 hD1 (by decide) ?_
 intro v0 X0 hown0 hbel0
 have hown := fH hown0 hHeld.size
 clear hown0
 have hNext := hHeld.trans (hbel0.mono hHeld.size)
 refine hK.out _ _ (hNext.mono (by omega)) (fun ai => ?_)
 have hHeld := hNext
 have dJ := ai
 revert v0 X0 hbel0 hown hNext ai hHeld dJ
 exact kk.down) : p := h ⟨k⟩
theorem y16 {p q : Prop} (k : q) (h : PLift q → p := by
 intro kk
 refine aH (by kernel_rfl) (by kernel_rfl) (fun WA hWA => ?_)
 have hbA : Below w2.heap.size w2 WA := by rw [hWA.out]; go_grown
 have hBA : Below W.heap.size W WA := hB.trans (hbA.mono hB.size)
 have pC0 : ∀ i : After WA, i.w.cell? ⟨w.heap.size, 0, none⟩ = some (.slice x.ac x.ctx.length x.cc) := fun i => i.cell (kept hBA C0)
 have pE0 : ∀ i : After WA, i.w.cell? ⟨w.heap.size + 1, 0, none⟩ = some (.int .i64 e.dot.a.dev) := fun i => i.cell (kept hBA E0)
 have pE1 : ∀ i : After WA, i.w.cell? ⟨w.heap.size + 1, 1, none⟩ = some (.int .i64 e.dot.a.inc) := fun i => i.cell (kept hBA E1)
 have pE2 : ∀ i : After WA, i.w.cell? ⟨w.heap.size + 1, 2, none⟩ = some (.int .i64 e.dot.seq) := fun i => i.cell (kept hBA E2)
 have hcA := HC0.kept hBA
 clear hWA
 iterate 5 go_big_quiet_step (fail)
 go_big_quiet_step (exact Calls.after (RZ.out _ (hcA.kept (After.h _))))
 iterate 5 go_big_quiet_step (fail)
 refine wpQuiet_nil ?_
 revert WA hbA hBA pC0 pE0 pE1 pE2 hcA
 exact kk.down) : p := h ⟨k⟩
theorem GH (x : RMIt) (e : Ev) (ae : Option Addr) (ce : Nat) (w : World) (h : RMIn w x) (hz : RMSize x) (hs : EvSmall e) (hd : DotsIn w ae e.over) :
 Calls Tryz.prog 105 #[nz x, ja e ae ce] w (O1 x.rm e w) := by
 have HH := Lib.hid h
 have HR0 := fun (X : World) (hd : DotsIn X ae e.over) => xI e ae ce X hs hd
 have Ai := fun (X : World) (h : DotsIn X x.ac x.ctx) => Jy x.ac x.cc x.ctx e.dot X (by have := hz.ctx; omega) h
 have RZ := Lib.hid (fun (X : World) (h : DotsIn X x.ac x.ctx) => Bg x.ac x.cc x.ctx e.dot.a X (by have := hz.ctx; omega) h)
 have hkl : (aQ x.K).length = x.K.length := aJ _
 have HKL := Lib.hid hkl
 have hrg := zM hz.ok e.dot.a
 have HSZ := Lib.hid hz
 have HDD := Lib.hid hd
 obtain ⟨iD, hD, hD0, hD1, hD2⟩ := info_parts Tryz.infoDot
 have RV := Lib.hid (fun (X : World) (h : DotsIn X x.ac x.ctx) => Ju x.ac x.cc x.ctx e.dot.a e.dot.seq X (by have := hz.ctx; omega) h)
 have Qj := Lib.hid (fun (X : World) (hE : EvsIn X x.aK x.K) (hd : DotsIn X ae e.over) => show Calls Tryz.prog 143 #[.slice x.aK x.K.length x.cK, .agg (ah e ae ce).toArray] X (Nz (iZ x.K (e, ae, ce)) X) from Jv x.aK ae x.cK ce x.K e X (by have := hz.K; omega) h.cK hE hd)
 have O6 := Lib.hid (fun (X : World) (a : Option Addr) (c : Nat) (hx : (x.dead ++ e.over).length ≤ 1048576) (hd : DotsIn X a (x.dead ++ e.over)) => Gw a c (x.dead ++ e.over) X hx hd)
 have HO0 : Ee x.rm e = (cu e && (!iw x.ctx e.dot && (decide (eY x.ctx e.dot.a + 1 = e.dot.seq) && decide (x.K.length < 2048)))) := by unfold Ee RMIt.rm; simp only [hkl]
 have HE0 : Lt x.rm e = if cu e = true then (if iw x.ctx e.dot = true then 0 else if eY x.ctx e.dot.a + 1 = e.dot.seq then (if x.K.length < 2048 then 0 else 9) else 6) else 1 := by unfold Lt RMIt.rm; simp only [hkl]
 clear hkl
 go_enter Tryz.func105, Tryz.ntmps105
 go_upto_region 1 with fail
 refine aX (fun W hW => ?_)
 have hb0 : Below w.heap.size w W := by rw [hW.out]; go_grown
 have hR : W.rangeAt (w.heap.size + 1) 0 (ah e ae ce) := by
  rw [hW.out]
  have h9 := aj (bY e ae ce (w.alloc (.cells #[.slice x.ac x.ctx.length x.cc, .slice x.aK x.K.length x.cK, .slice x.ad x.dead.length x.cd] 32)) 64) ((Below.refl _ _).alloc (Nat.le_refl _) (.cells #[.slice none 0 0, .slice none 0 0, .slice none 0 0] 32))
  rwa [show (w.alloc (.cells #[.slice x.ac x.ctx.length x.cc, .slice x.aK x.K.length x.cK, .slice x.ad x.dead.length x.cd] 32)).heap.size = w.heap.size + 1 by simp] at h9
 have C0 : W.cell? ⟨w.heap.size, 0, none⟩ = some (.slice x.ac x.ctx.length x.cc) := by rw [hW.out]; go_simp
 have C1 : W.cell? ⟨w.heap.size, 1, none⟩ = some (.slice x.aK x.K.length x.cK) := by rw [hW.out]; go_simp
 have C2 : W.cell? ⟨w.heap.size, 2, none⟩ = some (.slice x.ad x.dead.length x.cd) := by rw [hW.out]; go_simp
 obtain ⟨CZ, hZ, hZs⟩ : ∃ C : Array Value, W.heap[w.heap.size + 2]? = some (.cells C 32 (0, 0)) ∧ C.size = 3 := by
  rw [hW.out]
  refine ⟨#[.slice none 0 0, .slice none 0 0, .slice none 0 0], ?_, rfl⟩
  have h9 := bV ((w.alloc (.cells #[.slice x.ac x.ctx.length x.cc, .slice x.aK x.K.length x.cK, .slice x.ad x.dead.length x.cd] 32)).alloc (.cells (ah e ae ce).toArray 64)) (.cells #[.slice none 0 0, .slice none 0 0, .slice none 0 0] 32)
  rwa [show ((w.alloc (.cells #[.slice x.ac x.ctx.length x.cc, .slice x.aK x.K.length x.cK, .slice x.ad x.dead.length x.cd] 32)).alloc (.cells (ah e ae ce).toArray 64)).heap.size = w.heap.size + 2 by simp] at h9
 have E0 := hR 0 _ rfl
 have E1 := hR 1 _ rfl
 have E2 := hR 2 _ rfl
 have E18 := hR 18 _ rfl
 simp only [Nat.zero_add] at E0 E1 E2 E18
 have h0 := h.keep hb0
 have hd0 := hd.kept hb0
 have HC0 := h0.ctx
 clear hW h hd hs hz
 cases hev : cu e with
 | false =>
   rw [hev] at HR0 HO0 HE0
   have HR := Lib.hid HR0
   have HO := Lib.hid HO0
   have HE := Lib.hid HE0
   rw [if_neg (by decide)] at HE
   rw [Bool.false_and] at HO
   clear HR0 HO0 HE0 hev Ai
   go_upto_region 2 with (first
    | ((with_reducible refine bi _ (w.heap.size + 1) e ae ce hR ?_ rfl ?_); exact rfl)
    | (go_at_call 78; (with_reducible refine (HR.out _ hd0).mono ?_); rintro v w1 ⟨rfl, hB⟩))
   have c0 := kept hB C0
   have c1 := kept hB C1
   have c2 := kept hB C2
   have hZX := (hB.block _ (lt_of_block hZ)).trans hZ
   have HBX := Lib.hid (hb0.trans (hB.mono hb0.size))
   clear hB
   go_wp2_with (refine wpList_store_row rfl 32 _ _ rfl (w.heap.size + 2) #[.slice x.ac x.ctx.length x.cc, .slice x.aK x.K.length x.cK, .slice x.ad x.dead.length x.cd] rfl rfl 32 CZ hZX (by kernel_rfl) hZs (by kernel_rfl) ?_)
   refine kZ 4 5 6 32 32 (w.heap.size + 2) #[.slice x.ac x.ctx.length x.cc, .slice x.aK x.K.length x.cK, .slice x.ad x.dead.length x.cd] _ _ _ rfl rfl rfl rfl (setRow_heap _ _ _ _ _ _ hZX) Tryz.underlying32 rfl (by kernel_rfl) rfl ?_
   have hbS := below_setRow HBX.out (by omega : w.heap.size ≤ w.heap.size + 2) #[.slice x.ac x.ctx.length x.cc, .slice x.aK x.K.length x.cK, .slice x.ad x.dead.length x.cd]
   exact ⟨x, by rw [HO.out, HE.out]; rfl, HH.out.keep hbS, by unfold pU; rw [HO.out, if_neg (by decide)], hbS⟩
 | true =>
   have HEV := Lib.hid hev
   rw [hev] at HR0 HO0 HE0
   have HR := Lib.hid HR0
   rw [if_pos rfl] at HE0
   rw [Bool.true_and] at HO0
   clear HR0 hev
   go_upto_region 3 with (first
    | ((with_reducible refine bi _ (w.heap.size + 1) e ae ce hR ?_ rfl ?_); exact rfl)
    | (go_at_call 78; (with_reducible refine (HR.out _ hd0).mono ?_); rintro v w1 ⟨rfl, hB⟩))
   have c0 := kept hB C0
   have e0 := kept hB E0
   have e1 := kept hB E1
   have e2 := kept hB E2
   have hc1 := HC0.kept hB
   cases hha : iw x.ctx e.dot with
   | true =>
     rw [hha] at Ai HO0 HE0
     have Qm := Lib.hid Ai
     have HO := Lib.hid HO0
     have HE := Lib.hid HE0
     rw [if_pos rfl] at HE
     rw [Bool.not_true, Bool.false_and] at HO
     clear Ai HO0 HE0 hha
     go_upto_region 4 with (go_at_call 80; (with_reducible refine (Qm.out _ hc1).mono ?_); rintro v w2 ⟨rfl, hb2⟩)
     replace hB := hB.trans (hb2.mono hB.size)
     clear hb2 c0 e0 e1 e2
     have c0 := kept hB C0
     have c1 := kept hB C1
     have c2 := kept hB C2
     have hZX := (hB.block _ (lt_of_block hZ)).trans hZ
     have HBX := Lib.hid (hb0.trans (hB.mono hb0.size))
     clear hB
     go_wp2_with (refine wpList_store_row rfl 32 _ _ rfl (w.heap.size + 2) #[.slice x.ac x.ctx.length x.cc, .slice x.aK x.K.length x.cK, .slice x.ad x.dead.length x.cd] rfl rfl 32 CZ hZX (by kernel_rfl) hZs (by kernel_rfl) ?_)
     refine kZ 4 5 6 32 32 (w.heap.size + 2) #[.slice x.ac x.ctx.length x.cc, .slice x.aK x.K.length x.cK, .slice x.ad x.dead.length x.cd] _ _ _ rfl rfl rfl rfl (setRow_heap _ _ _ _ _ _ hZX) Tryz.underlying32 rfl (by kernel_rfl) rfl ?_
     have hbS := below_setRow HBX.out (by omega : w.heap.size ≤ w.heap.size + 2) #[.slice x.ac x.ctx.length x.cc, .slice x.aK x.K.length x.cK, .slice x.ad x.dead.length x.cd]
     exact ⟨x, by rw [HO.out, HE.out]; rfl, HH.out.keep hbS, by unfold pU; rw [HO.out, if_neg (by decide)], hbS⟩
   | false =>
     rw [hha] at Ai HO0 HE0
     have Qm := Lib.hid Ai
     rw [if_neg (by decide)] at HE0
     rw [Bool.not_false, Bool.true_and] at HO0
     clear Ai hha
     go_upto_region 5 with (go_at_call 80; (with_reducible refine (Qm.out _ hc1).mono ?_); rintro v w2 ⟨rfl, hb2⟩)
     replace hB := hB.trans (hb2.mono hB.size)
     clear hb2 c0 e0 e1 e2 hc1
     obtain ⟨g, hg⟩ : ∃ g, g = eY x.ctx e.dot.a := ⟨_, rfl⟩
     rw [← hg] at hrg HO0 HE0 RZ
     have HG := Lib.hid hg
     clear hg
     have hwr : IntKind.i64.wrap (g + 1) = g + 1 := IntWalk.i64_in _ (by omega)
     by_cases hsq : g + 1 = e.dot.seq
     ·have hnb : (g + 1 != e.dot.seq) = false := by rw [bne_eq_false_iff_eq]; exact hsq
      rw [if_pos hsq] at HE0
      rw [decide_eq_true hsq, Bool.true_and] at HO0
      refine aH (by kernel_rfl) (by kernel_rfl) (fun WA hWA => ?_)
      have hbA : Below w2.heap.size w2 WA := by rw [hWA.out]; go_grown
      have hBA : Below W.heap.size W WA := hB.trans (hbA.mono hB.size)
      have pC0 : ∀ i : After WA, i.w.cell? ⟨w.heap.size, 0, none⟩ = some (.slice x.ac x.ctx.length x.cc) := fun i => i.cell (kept hBA C0)
      have pE0 : ∀ i : After WA, i.w.cell? ⟨w.heap.size + 1, 0, none⟩ = some (.int .i64 e.dot.a.dev) := fun i => i.cell (kept hBA E0)
      have pE1 : ∀ i : After WA, i.w.cell? ⟨w.heap.size + 1, 1, none⟩ = some (.int .i64 e.dot.a.inc) := fun i => i.cell (kept hBA E1)
      have pE2 : ∀ i : After WA, i.w.cell? ⟨w.heap.size + 1, 2, none⟩ = some (.int .i64 e.dot.seq) := fun i => i.cell (kept hBA E2)
      have hcA := HC0.kept hBA
      clear hWA
      iterate 5 go_big_quiet_step (fail)
      go_big_quiet_step (exact Calls.after (RZ.out _ (hcA.kept (After.h _))))
      iterate 5 go_big_quiet_step (fail)
      refine wpQuiet_nil ?_
      rintro _ ⟨i, rfl⟩
      have hiA := i.h
      generalize i.w = w3 at hiA ⊢
      replace hB := hB.trans ((below2 hbA hiA).mono hB.size)
      clear hbA hiA hBA hcA pC0 pE0 pE1 pE2
      clear hnb hsq
      by_cases hln : x.K.length < 2048
      ·rw [if_pos hln] at HE0
       rw [decide_eq_true hln] at HO0
       have HO := Lib.hid HO0
       have HE := Lib.hid HE0
       clear HO0 HE0
       have c1 := kept hB C1
       have hdl : decide (2048 ≤ (x.K.length : Int)) = false := decide_eq_false (by omega)
       have hdn : decide (2048 ≤ x.K.length) = false := decide_eq_false (by omega)
       go_upto_region 9 with fail
       refine aX (fun V hV => ?_)
       have hbV : Below w3.heap.size w3 V.drew := by rw [hV.out]; go_grown
       have hBV : Below W.heap.size W V.drew := hB.trans (hbV.mono hB.size)
       have vC0 := kept hBV C0
       have vC1 := kept hBV C1
       have vC2 := kept hBV C2
       have vE0 := kept hBV E0
       have vE1 := kept hBV E1
       have vE2 := kept hBV E2
       have Sl := kept hBV E18
       have vR := aj hR hBV
       have vd := HH.out.dead.dcells.kept (hb0.trans (hBV.mono hb0.size))
       have vo := hd0.dcells.kept hBV
       have vc := HC0.kept hBV
       have vk := h0.kept.kept hBV
       have ve := hd0.kept hBV
       have hlo : w.heap.size + 2 < V.drew.heap.size := by have h8 := hBV.size; have h9 := lt_of_block hZ; omega
       have hZV := (hBV.block _ (lt_of_block hZ)).trans hZ
       have HBV := Lib.hid (hb0.trans (hBV.mono hb0.size))
       have hol : e.over.length ≤ 64 := (dN HEV.out).2.2.1
       have Hu : x.dead.length ≤ 524288 := HSZ.out.dead
       clear hV hbV hBV hB
       refine wp_region_noPanic ?_
       refine wp_region_held_drew (S := fun W' => Below (w.heap.size + 2) V.drew W') (by kernel_rfl) (Below.refl _ _) (fun dJ => ?_)
       have hHeld : Below V.drew.heap.size V.drew V.drew := Below.refl _ _
       refine tH (v := ?_) 0 34 rfl (Or.inl ⟨by rfl, ?_⟩) ?_
       case refine_2 => (intro w hSw; have sC0 := nI hSw (by simp) vC0; have sC1 := nI hSw (by simp) vC1; have sC2 := nI hSw (by simp) vC2; have sE0 := nI hSw (by simp) vE0; have sE1 := nI hSw (by simp) vE1; have sE2 := nI hSw (by simp) vE2; have Tz := nI hSw (by simp) Sl; go_simp; try with_reducible rfl)
       try simp only [pS]
       refine tH (v := ?_) 1 35 rfl (Or.inl ⟨by rfl, ?_⟩) ?_
       case refine_2 => (intro w hSw; have sC0 := nI hSw (by simp) vC0; have sC1 := nI hSw (by simp) vC1; have sC2 := nI hSw (by simp) vC2; have sE0 := nI hSw (by simp) vE0; have sE1 := nI hSw (by simp) vE1; have sE2 := nI hSw (by simp) vE2; have Tz := nI hSw (by simp) Sl; go_simp; try with_reducible rfl)
       try simp only [pS]
       refine tH (v := ?_) 2 36 rfl (Or.inl ⟨by rfl, ?_⟩) ?_
       case refine_2 => (intro w hSw; have sC0 := nI hSw (by simp) vC0; have sC1 := nI hSw (by simp) vC1; have sC2 := nI hSw (by simp) vC2; have sE0 := nI hSw (by simp) vE0; have sE1 := nI hSw (by simp) vE1; have sE2 := nI hSw (by simp) vE2; have Tz := nI hSw (by simp) Sl; go_simp; try with_reducible rfl)
       try simp only [pS]
       refine tH (v := ?_) 3 37 rfl (Or.inl ⟨by rfl, ?_⟩) ?_
       case refine_2 => (intro w hSw; have sC0 := nI hSw (by simp) vC0; have sC1 := nI hSw (by simp) vC1; have sC2 := nI hSw (by simp) vC2; have sE0 := nI hSw (by simp) vE0; have sE1 := nI hSw (by simp) vE1; have sE2 := nI hSw (by simp) vE2; have Tz := nI hSw (by simp) Sl; go_simp; try with_reducible rfl)
       try simp only [pS]
       refine tH (v := ?_) 4 38 rfl (Or.inl ⟨by rfl, ?_⟩) ?_
       case refine_2 => (intro w hSw; have sC0 := nI hSw (by simp) vC0; have sC1 := nI hSw (by simp) vC1; have sC2 := nI hSw (by simp) vC2; have sE0 := nI hSw (by simp) vE0; have sE1 := nI hSw (by simp) vE1; have sE2 := nI hSw (by simp) vE2; have Tz := nI hSw (by simp) Sl; go_simp; try with_reducible rfl)
       try simp only [pS]
       refine tH (v := ?_) 5 39 rfl (Or.inl ⟨by rfl, ?_⟩) ?_
       case refine_2 => (intro w hSw; have sC0 := nI hSw (by simp) vC0; have sC1 := nI hSw (by simp) vC1; have sC2 := nI hSw (by simp) vC2; have sE0 := nI hSw (by simp) vE0; have sE1 := nI hSw (by simp) vE1; have sE2 := nI hSw (by simp) vE2; have Tz := nI hSw (by simp) Sl; go_simp; try with_reducible rfl)
       try simp only [pS]
       refine tH (v := ?_) 6 40 rfl (Or.inl ⟨by rfl, ?_⟩) ?_
       case refine_2 => (intro w hSw; have sC0 := nI hSw (by simp) vC0; have sC1 := nI hSw (by simp) vC1; have sC2 := nI hSw (by simp) vC2; have sE0 := nI hSw (by simp) vE0; have sE1 := nI hSw (by simp) vE1; have sE2 := nI hSw (by simp) vE2; have Tz := nI hSw (by simp) Sl; go_simp; try with_reducible rfl)
       try simp only [pS]
       refine tH (v := ?_) 7 41 rfl (Or.inl ⟨by rfl, ?_⟩) ?_
       case refine_2 => (intro w hSw; have sC0 := nI hSw (by simp) vC0; have sC1 := nI hSw (by simp) vC1; have sC2 := nI hSw (by simp) vC2; have sE0 := nI hSw (by simp) vE0; have sE1 := nI hSw (by simp) vE1; have sE2 := nI hSw (by simp) vE2; have Tz := nI hSw (by simp) Sl; go_simp; try with_reducible rfl)
       try simp only [pS]
       refine tH (v := ?_) 9 43 rfl (Or.inl ⟨by rfl, ?_⟩) ?_
       case refine_2 => (intro w hSw; have sC0 := nI hSw (by simp) vC0; have sC1 := nI hSw (by simp) vC1; have sC2 := nI hSw (by simp) vC2; have sE0 := nI hSw (by simp) vE0; have sE1 := nI hSw (by simp) vE1; have sE2 := nI hSw (by simp) vE2; have Tz := nI hSw (by simp) Sl; go_simp; try with_reducible rfl)
       try simp only [pS]
       refine tH (v := ?_) 10 44 rfl (Or.inl ⟨by rfl, ?_⟩) ?_
       case refine_2 => (intro w hSw; have sC0 := nI hSw (by simp) vC0; have sC1 := nI hSw (by simp) vC1; have sC2 := nI hSw (by simp) vC2; have sE0 := nI hSw (by simp) vE0; have sE1 := nI hSw (by simp) vE1; have sE2 := nI hSw (by simp) vE2; have Tz := nI hSw (by simp) Sl; go_simp; try with_reducible rfl)
       try simp only [pS]
       refine tH 11 45 rfl (yieldsIf_load_mid (by rfl) 64 _ rfl (w.heap.size + 1) 0 rfl (ah e ae ce) _ (fun X h => Lu h (by omega) vR) Tryz.underlying64 rfl (by kernel_rfl)) ?_
       try simp only [pS]
       refine tH (v := ?_) 14 48 rfl (Or.inl ⟨by rfl, ?_⟩) ?_
       case refine_2 => (intro w hSw; have sC0 := nI hSw (by simp) vC0; have sC1 := nI hSw (by simp) vC1; have sC2 := nI hSw (by simp) vC2; have sE0 := nI hSw (by simp) vE0; have sE1 := nI hSw (by simp) vE1; have sE2 := nI hSw (by simp) vE2; have Tz := nI hSw (by simp) Sl; go_simp; try with_reducible rfl)
       try simp only [pS]
       refine tH (v := ?_) 15 49 rfl (Or.inl ⟨by rfl, ?_⟩) ?_
       case refine_2 => (intro w hSw; have sC0 := nI hSw (by simp) vC0; have sC1 := nI hSw (by simp) vC1; have sC2 := nI hSw (by simp) vC2; have sE0 := nI hSw (by simp) vE0; have sE1 := nI hSw (by simp) vE1; have sE2 := nI hSw (by simp) vE2; have Tz := nI hSw (by simp) Sl; go_simp; try with_reducible rfl)
       try simp only [pS]
       refine tH (v := ?_) 17 51 rfl (Or.inl ⟨by rfl, ?_⟩) ?_
       case refine_2 => (intro w hSw; have sC0 := nI hSw (by simp) vC0; have sC1 := nI hSw (by simp) vC1; have sC2 := nI hSw (by simp) vC2; have sE0 := nI hSw (by simp) vE0; have sE1 := nI hSw (by simp) vE1; have sE2 := nI hSw (by simp) vE2; have Tz := nI hSw (by simp) Sl; go_simp; try with_reducible rfl)
       try simp only [pS]
       refine tH (v := ?_) 18 52 rfl (Or.inl ⟨by rfl, ?_⟩) ?_
       case refine_2 => (intro w hSw; have sC0 := nI hSw (by simp) vC0; have sC1 := nI hSw (by simp) vC1; have sC2 := nI hSw (by simp) vC2; have sE0 := nI hSw (by simp) vE0; have sE1 := nI hSw (by simp) vE1; have sE2 := nI hSw (by simp) vE2; have Tz := nI hSw (by simp) Sl; go_simp; try with_reducible rfl)
       try simp only [pS]
       refine wpAnyH_ready (rs := [8, 13]) (by kernel_rfl) (by simp) ?_
       refine AllReadyH.cons (o := ⟨some 42, _, _, _, _, _⟩) rfl (fun K hK => ?_) (AllReadyH.cons (o := ⟨some 47, _, _, _, _, _⟩) rfl (fun K hK => ?_) AllReadyH.nil)
       ·skip
        go_simp
        go_at_call 142
        (with_reducible refine (RV.out _ (vc.kept hHeld)).mono ?_)
        rintro v wS ⟨vS, rfl, hS0, hbS⟩
        have hS := fH hS0 hHeld.size
        clear hS0
        go_simp
        have hNext := hHeld.trans (hbS.mono hHeld.size)
        refine hK.out _ _ (hNext.mono (by omega)) (fun ai => ?_)
        clear hK K hHeld dJ
        have hHeld := hNext
        have dJ := ai
        clear ai hNext
        obtain ⟨aS, cS, rfl, hSc, hSl⟩ := dX hS
        clear hSc
        clear hbS
        try simp only [pS]
        refine wpAnyH_ready (rs := [12, 13]) (by kernel_rfl) (by simp) ?_
        refine AllReadyH.cons (o := ⟨some 46, _, _, _, _, _⟩) rfl (fun K hK => ?_) (AllReadyH.cons (o := ⟨some 47, _, _, _, _, _⟩) rfl (fun K hK => ?_) AllReadyH.nil)
        ·skip
         go_simp
         go_at_call 143
         (with_reducible refine (Qj.out _ (vk.kept hHeld) (ve.kept hHeld)).mono ?_)
         rintro v wP ⟨aP, cP, rfl, hP0, _, hPl, hbP⟩
         have hP := fH hP0 hHeld.size
         go_simp
         have hNext := hHeld.trans (hbP.mono hHeld.size)
         refine hK.out _ _ (hNext.mono (by omega)) (fun ai => ?_)
         have hHeld := hNext
         have dJ := ai
         clear ai hNext
         replace hS := ownsRow_below hS hbP
         clear hP0 hK K
         clear hbP
         try simp only [pS]
         refine rH 13 47 rfl fun K hK => ?_
         refine dA (by rfl) 30 56 rfl iD _ 3 Tryz.underlying30 hD hD0 hD1 (by decide) ?_
         intro v0 X0 hown0 hbel0
         have hown := fH hown0 hHeld.size
         clear hown0
         have hNext := hHeld.trans (hbel0.mono hHeld.size)
         refine hK.out _ _ (hNext.mono (by omega)) (fun ai => ?_)
         have hHeld := hNext
         have dJ := ai
         clear hK K
         clear ai hNext
         replace hS := ownsRow_below hS hbel0
         replace hP := ownsRow_below hP hbel0
         clear hbel0
         try simp only [pS]
         refine rH 16 50 rfl fun K hK => ?_
         refine ak (by rfl) (.tmp 47) (.tmp 49) 30 rfl V.drew.heap.size 56 iD _ 3 24 Tryz.underlying30 hD hD0 hD1 hD2 rfl (by decide) _ 0 [] rfl hown x.ad x.dead.length x.cd (aI x.dead) rfl (by rw [dQ]) (vd.kept hHeld) (dB _) (by unfold maxLen; omega) (by omega) hHeld.size ?_
         intro vA XA hownA hgA
         have hownO := hown
         have hown := hownA
         clear hownA
         have hNext := hHeld.grown hgA hHeld.size (fun k hk => (hownO.lt k hk).1)
         refine hK.out _ _ (hNext.mono (by omega)) (fun ai => ?_)
         clear hK K
         have hHeld := hNext
         have dJ := ai
         clear ai hNext
         replace hS := jR hS hownO (by decide) hgA
         replace hP := jR hP hownO (by decide) hgA
         clear hgA hownO
         try simp only [pS]
         refine rH 19 53 rfl fun K hK => ?_
         refine ak (by rfl) (.tmp 50) (.tmp 52) 30 rfl V.drew.heap.size 56 iD _ 3 24 Tryz.underlying30 hD hD0 hD1 hD2 rfl (by decide) _ (0 + x.dead.length) ([] ++ aI x.dead) rfl hown ae e.over.length ce (aI e.over) rfl (by rw [dQ]) (vo.kept hHeld) (dB _) (by unfold maxLen; omega) (by omega) hHeld.size ?_
         intro vA XA hownA hgA
         have hownO := hown
         clear hown
         have hown := hownA
         clear hownA
         have hNext := hHeld.grown hgA hHeld.size (fun k hk => (hownO.lt k hk).1)
         refine hK.out _ _ (hNext.mono (by omega)) (fun ai => ?_)
         clear hK K hHeld dJ
         have hHeld := hNext
         have dJ := ai
         clear ai hNext
         replace hS := jR hS hownO (by decide) hgA
         replace hP := jR hP hownO (by decide) hgA
         clear hgA hownO
         try simp only [pS]
         obtain ⟨vT, hvT⟩ : ∃ vT, vT = vA := ⟨_, rfl⟩
         rw [← hvT] at hown
         obtain ⟨aT, cT, hT, G9⟩ : ∃ a cap, vT = .slice a (x.dead.length + e.over.length) cap ∧ DotsIn XA a (x.dead ++ e.over) := by
          have h9 : XA.ownsRow V.drew.heap.size 56 3 vT (x.dead ++ e.over).length (aI (x.dead ++ e.over)) := by
           rw [List.length_append, qH]
           rw [Nat.zero_add, List.nil_append] at hown
           exact hown
          obtain ⟨a, c, h1, h2⟩ := gy h9
          exact ⟨a, c, by rw [h1, List.length_append], h2⟩
         rw [hT] at hvT
         subst hvT
         have HSo := Lib.hid (show Calls Tryz.prog 144 #[.slice aT (x.dead.length + e.over.length) cT] XA _ from by
          have h9 := O6.out XA aT cT (by rw [List.length_append]; omega) G9
          rw [List.length_append] at h9
          exact h9)
         refine rH 20 54 rfl fun K hK => ?_
         go_simp
         go_at_call 144
         (with_reducible refine HSo.out.mono ?_)
         rintro v wD ⟨vD, rfl, hD8, hbD⟩
         have hDr := fH hD8 hHeld.size
         go_simp
         have hNext := hHeld.trans (hbD.mono hHeld.size)
         refine hK.out _ _ (hNext.mono (by omega)) (fun ai => ?_)
         have hHeld := hNext
         have dJ := ai
         clear ai hNext
         replace hS := ownsRow_below hS hbD
         replace hP := ownsRow_below hP hbD
         clear hD8 hK K
         clear hbD hown hT G9 HSo
         obtain ⟨aD, cD, rfl, hDc, hDl⟩ := dX hDr
         clear hDc
         try simp only [pS]
         refine tH (v := ?_) 21 55 rfl (Or.inl ⟨by rfl, ?_⟩) ?_
         case refine_2 => (intro w hSw; go_simp; try with_reducible rfl)
         try simp only [pS]
         have hZX : wD.heap[w.heap.size + 2]? = _ := (hHeld.block _ (by omega)).trans hZV
         refine wpAnyH_ready (rs := [22]) (by kernel_rfl) (by simp) ?_
         refine AllReadyH.cons (o := ⟨none, _, _, _, _, _⟩) rfl (fun K hK => ?_) AllReadyH.nil
         refine iH (by rfl) 32 _ _ rfl (w.heap.size + 2) #[.slice aS (jL x.ctx e.dot.a e.dot.seq).length cS, .slice aP (iZ x.K (e, ae, ce)).length cP, .slice aD (sortD (x.dead ++ e.over)).length cD] rfl rfl 32 CZ hZX (by kernel_rfl) hZs (by kernel_rfl) ?_
         refine hK.out _ _ (below_setRow dJ (Nat.le_refl _) _) (fun ai => ?_)
         try simp only [pS]
         clear hK K
         refine tH (v := ?_) 23 5 rfl (Or.inl ⟨by rfl, ?_⟩) ?_
         case refine_2 => (intro w hSw; go_simp; try with_reducible rfl)
         try simp only [pS]
         refine tH (v := ?_) 24 6 rfl (Or.inl ⟨by rfl, ?_⟩) ?_
         case refine_2 => (intro w hSw; go_simp; try with_reducible rfl)
         try simp only [pS]
         refine wpAnyH_done (by kernel_rfl) ?_ _
         refine NoPanic.normal ?_
         clear ai
         go_wp2
         refine kZ 4 5 6 32 32 (w.heap.size + 2) #[.slice aS (jL x.ctx e.dot.a e.dot.seq).length cS, .slice aP (iZ x.K (e, ae, ce)).length cP, .slice aD (sortD (x.dead ++ e.over)).length cD] _ _ _ rfl rfl rfl rfl (setRow_heap _ _ _ _ _ _ hZX) Tryz.underlying32 rfl (by kernel_rfl) rfl ?_
         have hbS := below_setRow (HBV.out.trans (hHeld.mono (Nat.le_of_lt (Nat.lt_of_le_of_lt (Nat.le_add_right _ 2) hlo)))) (by omega : w.heap.size ≤ w.heap.size + 2) #[.slice aS (jL x.ctx e.dot.a e.dot.seq).length cS, .slice aP (iZ x.K (e, ae, ce)).length cP, .slice aD (sortD (x.dead ++ e.over)).length cD]
         have hne : ∀ (v : Value) (n : Nat) (t : TypeId) (sz : Nat) (cs : List Value), wD.ownsRow V.drew.heap.size t sz v n cs → (wD.setRow (w.heap.size + 2) #[.slice aS (jL x.ctx e.dot.a e.dot.seq).length cS, .slice aP (iZ x.K (e, ae, ce)).length cP, .slice aD (sortD (x.dead ++ e.over)).length cD]).ownsRow V.drew.heap.size t sz v n cs := fun v n t sz cs h9 => h9.kept2 (Ky _) (fun g hg e => by have := (h9.lt g hg).1; omega)
         obtain ⟨a1, c1, he1, hd1⟩ := Bq (hne _ _ _ _ _ hS)
         obtain ⟨rfl, rfl⟩ := jD he1
         obtain ⟨a2, c2, he2, hd2⟩ := iK (hne _ _ _ _ _ hP) (fun z hz9 => by
          rcases vC hz9 with rfl | hz9
          ·exact HDD.out.kept hbS
          ·exact (HH.out.kept.dots z hz9).kept hbS)
         obtain ⟨rfl, rfl⟩ := jD he2
         obtain ⟨a3, c3, he3, hd3⟩ := gy (hne _ _ _ _ _ hDr)
         obtain ⟨rfl, rfl⟩ := jD he3
         exact ⟨⟨aS, jL x.ctx e.dot.a e.dot.seq, cS, aP, iZ x.K (e, ae, ce), cP, aD, sortD (x.dead ++ e.over), cD⟩, by rw [HO.out, HE.out]; rfl, ⟨hd1, hd2, hd3, hSl, hPl, hDl⟩, IG x e ae ce HO.out, hbS⟩
        ·skip
         refine dA (by rfl) 30 56 rfl iD _ 3 Tryz.underlying30 hD hD0 hD1 (by decide) ?_
         intro v0 X0 hown0 hbel0
         have hown := fH hown0 hHeld.size
         clear hown0
         have hNext := hHeld.trans (hbel0.mono hHeld.size)
         refine hK.out _ _ (hNext.mono (by omega)) (fun ai => ?_)
         have hHeld := hNext
         have dJ := ai
         clear hK K
         clear ai hNext
         replace hS := ownsRow_below hS hbel0
         clear hbel0
         try simp only [pS]
         refine rH 12 46 rfl fun K hK => ?_
         go_simp
         go_at_call 143
         (with_reducible refine (Qj.out _ (vk.kept hHeld) (ve.kept hHeld)).mono ?_)
         rintro v wP ⟨aP, cP, rfl, hP0, _, hPl, hbP⟩
         have hP := fH hP0 hHeld.size
         go_simp
         have hNext := hHeld.trans (hbP.mono hHeld.size)
         refine hK.out _ _ (hNext.mono (by omega)) (fun ai => ?_)
         have hHeld := hNext
         have dJ := ai
         clear ai hNext
         replace hS := ownsRow_below hS hbP
         clear hP0 hK K
         replace hown := ownsRow_below hown hbP
         clear hbP
         try simp only [pS]
         refine rH 16 50 rfl fun K hK => ?_
         refine ak (by rfl) (.tmp 47) (.tmp 49) 30 rfl V.drew.heap.size 56 iD _ 3 24 Tryz.underlying30 hD hD0 hD1 hD2 rfl (by decide) _ 0 [] rfl hown x.ad x.dead.length x.cd (aI x.dead) rfl (by rw [dQ]) (vd.kept hHeld) (dB _) (by unfold maxLen; omega) (by omega) hHeld.size ?_
         intro vA XA hownA hgA
         have hownO := hown
         have hown := hownA
         clear hownA
         have hNext := hHeld.grown hgA hHeld.size (fun k hk => (hownO.lt k hk).1)
         refine hK.out _ _ (hNext.mono (by omega)) (fun ai => ?_)
         clear hK K
         have hHeld := hNext
         have dJ := ai
         clear ai hNext
         replace hS := jR hS hownO (by decide) hgA
         replace hP := jR hP hownO (by decide) hgA
         clear hgA hownO
         try simp only [pS]
         refine rH 19 53 rfl fun K hK => ?_
         refine ak (by rfl) (.tmp 50) (.tmp 52) 30 rfl V.drew.heap.size 56 iD _ 3 24 Tryz.underlying30 hD hD0 hD1 hD2 rfl (by decide) _ (0 + x.dead.length) ([] ++ aI x.dead) rfl hown ae e.over.length ce (aI e.over) rfl (by rw [dQ]) (vo.kept hHeld) (dB _) (by unfold maxLen; omega) (by omega) hHeld.size ?_
         intro vA XA hownA hgA
         have hownO := hown
         clear hown
         have hown := hownA
         clear hownA
         have hNext := hHeld.grown hgA hHeld.size (fun k hk => (hownO.lt k hk).1)
         refine hK.out _ _ (hNext.mono (by omega)) (fun ai => ?_)
         clear hK K hHeld dJ
         have hHeld := hNext
         have dJ := ai
         clear ai hNext
         replace hS := jR hS hownO (by decide) hgA
         replace hP := jR hP hownO (by decide) hgA
         clear hgA hownO
         try simp only [pS]
         obtain ⟨vT, hvT⟩ : ∃ vT, vT = vA := ⟨_, rfl⟩
         rw [← hvT] at hown
         obtain ⟨aT, cT, hT, G9⟩ : ∃ a cap, vT = .slice a (x.dead.length + e.over.length) cap ∧ DotsIn XA a (x.dead ++ e.over) := by
          have h9 : XA.ownsRow V.drew.heap.size 56 3 vT (x.dead ++ e.over).length (aI (x.dead ++ e.over)) := by
           rw [List.length_append, qH]
           rw [Nat.zero_add, List.nil_append] at hown
           exact hown
          obtain ⟨a, c, h1, h2⟩ := gy h9
          exact ⟨a, c, by rw [h1, List.length_append], h2⟩
         rw [hT] at hvT
         subst hvT
         have HSo := Lib.hid (show Calls Tryz.prog 144 #[.slice aT (x.dead.length + e.over.length) cT] XA _ from by
          have h9 := O6.out XA aT cT (by rw [List.length_append]; omega) G9
          rw [List.length_append] at h9
          exact h9)
         refine rH 20 54 rfl fun K hK => ?_
         go_simp
         go_at_call 144
         (with_reducible refine HSo.out.mono ?_)
         rintro v wD ⟨vD, rfl, hD8, hbD⟩
         have hDr := fH hD8 hHeld.size
         go_simp
         have hNext := hHeld.trans (hbD.mono hHeld.size)
         refine hK.out _ _ (hNext.mono (by omega)) (fun ai => ?_)
         have hHeld := hNext
         have dJ := ai
         clear ai hNext
         replace hS := ownsRow_below hS hbD
         replace hP := ownsRow_below hP hbD
         clear hD8 hK K
         clear hbD hown hT G9 HSo
         obtain ⟨aD, cD, rfl, hDc, hDl⟩ := dX hDr
         clear hDc
         try simp only [pS]
         refine tH (v := ?_) 21 55 rfl (Or.inl ⟨by rfl, ?_⟩) ?_
         case refine_2 => (intro w hSw; go_simp; try with_reducible rfl)
         try simp only [pS]
         have hZX : wD.heap[w.heap.size + 2]? = _ := (hHeld.block _ (by omega)).trans hZV
         refine wpAnyH_ready (rs := [22]) (by kernel_rfl) (by simp) ?_
         refine AllReadyH.cons (o := ⟨none, _, _, _, _, _⟩) rfl (fun K hK => ?_) AllReadyH.nil
         refine iH (by rfl) 32 _ _ rfl (w.heap.size + 2) #[.slice aS (jL x.ctx e.dot.a e.dot.seq).length cS, .slice aP (iZ x.K (e, ae, ce)).length cP, .slice aD (sortD (x.dead ++ e.over)).length cD] rfl rfl 32 CZ hZX (by kernel_rfl) hZs (by kernel_rfl) ?_
         refine hK.out _ _ (below_setRow dJ (Nat.le_refl _) _) (fun ai => ?_)
         try simp only [pS]
         clear hK K
         refine tH (v := ?_) 23 5 rfl (Or.inl ⟨by rfl, ?_⟩) ?_
         case refine_2 => (intro w hSw; go_simp; try with_reducible rfl)
         try simp only [pS]
         refine tH (v := ?_) 24 6 rfl (Or.inl ⟨by rfl, ?_⟩) ?_
         case refine_2 => (intro w hSw; go_simp; try with_reducible rfl)
         try simp only [pS]
         refine wpAnyH_done (by kernel_rfl) ?_ _
         refine NoPanic.normal ?_
         clear ai
         go_wp2
         refine kZ 4 5 6 32 32 (w.heap.size + 2) #[.slice aS (jL x.ctx e.dot.a e.dot.seq).length cS, .slice aP (iZ x.K (e, ae, ce)).length cP, .slice aD (sortD (x.dead ++ e.over)).length cD] _ _ _ rfl rfl rfl rfl (setRow_heap _ _ _ _ _ _ hZX) Tryz.underlying32 rfl (by kernel_rfl) rfl ?_
         have hbS := below_setRow (HBV.out.trans (hHeld.mono (Nat.le_of_lt (Nat.lt_of_le_of_lt (Nat.le_add_right _ 2) hlo)))) (by omega : w.heap.size ≤ w.heap.size + 2) #[.slice aS (jL x.ctx e.dot.a e.dot.seq).length cS, .slice aP (iZ x.K (e, ae, ce)).length cP, .slice aD (sortD (x.dead ++ e.over)).length cD]
         have hne : ∀ (v : Value) (n : Nat) (t : TypeId) (sz : Nat) (cs : List Value), wD.ownsRow V.drew.heap.size t sz v n cs → (wD.setRow (w.heap.size + 2) #[.slice aS (jL x.ctx e.dot.a e.dot.seq).length cS, .slice aP (iZ x.K (e, ae, ce)).length cP, .slice aD (sortD (x.dead ++ e.over)).length cD]).ownsRow V.drew.heap.size t sz v n cs := fun v n t sz cs h9 => h9.kept2 (Ky _) (fun g hg e => by have := (h9.lt g hg).1; omega)
         obtain ⟨a1, c1, he1, hd1⟩ := Bq (hne _ _ _ _ _ hS)
         obtain ⟨rfl, rfl⟩ := jD he1
         obtain ⟨a2, c2, he2, hd2⟩ := iK (hne _ _ _ _ _ hP) (fun z hz9 => by
          rcases vC hz9 with rfl | hz9
          ·exact HDD.out.kept hbS
          ·exact (HH.out.kept.dots z hz9).kept hbS)
         obtain ⟨rfl, rfl⟩ := jD he2
         obtain ⟨a3, c3, he3, hd3⟩ := gy (hne _ _ _ _ _ hDr)
         obtain ⟨rfl, rfl⟩ := jD he3
         exact ⟨⟨aS, jL x.ctx e.dot.a e.dot.seq, cS, aP, iZ x.K (e, ae, ce), cP, aD, sortD (x.dead ++ e.over), cD⟩, by rw [HO.out, HE.out]; rfl, ⟨hd1, hd2, hd3, hSl, hPl, hDl⟩, IG x e ae ce HO.out, hbS⟩
       ·skip
        refine dA (by rfl) 30 56 rfl iD _ 3 Tryz.underlying30 hD hD0 hD1 (by decide) ?_
        intro v0 X0 hown0 hbel0
        have hown := fH hown0 hHeld.size
        clear hown0
        have hNext := hHeld.trans (hbel0.mono hHeld.size)
        refine hK.out _ _ (hNext.mono (by omega)) (fun ai => ?_)
        have hHeld := hNext
        have dJ := ai
        clear hK K
        clear ai hNext
        clear hbel0
        try simp only [pS]
        refine rH 8 42 rfl fun K hK => ?_
        go_simp
        go_at_call 142
        (with_reducible refine (RV.out _ (vc.kept hHeld)).mono ?_)
        rintro v wS ⟨vS, rfl, hS0, hbS⟩
        have hS := fH hS0 hHeld.size
        clear hS0
        go_simp
        have hNext := hHeld.trans (hbS.mono hHeld.size)
        refine hK.out _ _ (hNext.mono (by omega)) (fun ai => ?_)
        clear hK K hHeld dJ
        have hHeld := hNext
        have dJ := ai
        clear ai hNext
        obtain ⟨aS, cS, rfl, hSc, hSl⟩ := dX hS
        clear hSc
        replace hown := ownsRow_below hown hbS
        clear hbS
        try simp only [pS]
        refine rH 12 46 rfl fun K hK => ?_
        go_simp
        go_at_call 143
        (with_reducible refine (Qj.out _ (vk.kept hHeld) (ve.kept hHeld)).mono ?_)
        rintro v wP ⟨aP, cP, rfl, hP0, _, hPl, hbP⟩
        have hP := fH hP0 hHeld.size
        go_simp
        have hNext := hHeld.trans (hbP.mono hHeld.size)
        refine hK.out _ _ (hNext.mono (by omega)) (fun ai => ?_)
        have hHeld := hNext
        have dJ := ai
        clear ai hNext
        replace hS := ownsRow_below hS hbP
        clear hP0 hK K
        replace hown := ownsRow_below hown hbP
        clear hbP
        try simp only [pS]
        refine rH 16 50 rfl fun K hK => ?_
        refine ak (by rfl) (.tmp 47) (.tmp 49) 30 rfl V.drew.heap.size 56 iD _ 3 24 Tryz.underlying30 hD hD0 hD1 hD2 rfl (by decide) _ 0 [] rfl hown x.ad x.dead.length x.cd (aI x.dead) rfl (by rw [dQ]) (vd.kept hHeld) (dB _) (by unfold maxLen; omega) (by omega) hHeld.size ?_
        intro vA XA hownA hgA
        have hownO := hown
        have hown := hownA
        clear hownA
        have hNext := hHeld.grown hgA hHeld.size (fun k hk => (hownO.lt k hk).1)
        refine hK.out _ _ (hNext.mono (by omega)) (fun ai => ?_)
        clear hK K
        have hHeld := hNext
        have dJ := ai
        clear ai hNext
        replace hS := jR hS hownO (by decide) hgA
        replace hP := jR hP hownO (by decide) hgA
        clear hgA hownO
        try simp only [pS]
        refine rH 19 53 rfl fun K hK => ?_
        refine ak (by rfl) (.tmp 50) (.tmp 52) 30 rfl V.drew.heap.size 56 iD _ 3 24 Tryz.underlying30 hD hD0 hD1 hD2 rfl (by decide) _ (0 + x.dead.length) ([] ++ aI x.dead) rfl hown ae e.over.length ce (aI e.over) rfl (by rw [dQ]) (vo.kept hHeld) (dB _) (by unfold maxLen; omega) (by omega) hHeld.size ?_
        intro vA XA hownA hgA
        have hownO := hown
        clear hown
        have hown := hownA
        clear hownA
        have hNext := hHeld.grown hgA hHeld.size (fun k hk => (hownO.lt k hk).1)
        refine hK.out _ _ (hNext.mono (by omega)) (fun ai => ?_)
        clear hK K hHeld dJ
        have hHeld := hNext
        have dJ := ai
        clear ai hNext
        replace hS := jR hS hownO (by decide) hgA
        replace hP := jR hP hownO (by decide) hgA
        clear hgA hownO
        try simp only [pS]
        obtain ⟨vT, hvT⟩ : ∃ vT, vT = vA := ⟨_, rfl⟩
        rw [← hvT] at hown
        obtain ⟨aT, cT, hT, G9⟩ : ∃ a cap, vT = .slice a (x.dead.length + e.over.length) cap ∧ DotsIn XA a (x.dead ++ e.over) := by
           have h9 : XA.ownsRow V.drew.heap.size 56 3 vT (x.dead ++ e.over).length (aI (x.dead ++ e.over)) := by
            rw [List.length_append, qH]
            rw [Nat.zero_add, List.nil_append] at hown
            exact hown
           obtain ⟨a, c, h1, h2⟩ := gy h9
           exact ⟨a, c, by rw [h1, List.length_append], h2⟩
        rw [hT] at hvT
        subst hvT
        have HSo := Lib.hid (show Calls Tryz.prog 144 #[.slice aT (x.dead.length + e.over.length) cT] XA _ from by
           have h9 := O6.out XA aT cT (by rw [List.length_append]; omega) G9
           rw [List.length_append] at h9
           exact h9)
        refine rH 20 54 rfl fun K hK => ?_
        go_simp
        go_at_call 144
        (with_reducible refine HSo.out.mono ?_)
        rintro v wD ⟨vD, rfl, hD8, hbD⟩
        have hDr := fH hD8 hHeld.size
        go_simp
        have hNext := hHeld.trans (hbD.mono hHeld.size)
        refine hK.out _ _ (hNext.mono (by omega)) (fun ai => ?_)
        have hHeld := hNext
        have dJ := ai
        clear ai hNext
        replace hS := ownsRow_below hS hbD
        replace hP := ownsRow_below hP hbD
        clear hD8 hK K
        clear hbD hown hT G9 HSo
        obtain ⟨aD, cD, rfl, hDc, hDl⟩ := dX hDr
        clear hDc
        try simp only [pS]
        refine tH (v := ?_) 21 55 rfl (Or.inl ⟨by rfl, ?_⟩) ?_
        case refine_2 => (intro w hSw; go_simp; try with_reducible rfl)
        try simp only [pS]
        have hZX : wD.heap[w.heap.size + 2]? = _ := (hHeld.block _ (by omega)).trans hZV
        refine wpAnyH_ready (rs := [22]) (by kernel_rfl) (by simp) ?_
        refine AllReadyH.cons (o := ⟨none, _, _, _, _, _⟩) rfl (fun K hK => ?_) AllReadyH.nil
        refine iH (by rfl) 32 _ _ rfl (w.heap.size + 2) #[.slice aS (jL x.ctx e.dot.a e.dot.seq).length cS, .slice aP (iZ x.K (e, ae, ce)).length cP, .slice aD (sortD (x.dead ++ e.over)).length cD] rfl rfl 32 CZ hZX (by kernel_rfl) hZs (by kernel_rfl) ?_
        refine hK.out _ _ (below_setRow dJ (Nat.le_refl _) _) (fun ai => ?_)
        try simp only [pS]
        clear hK K
        refine tH (v := ?_) 23 5 rfl (Or.inl ⟨by rfl, ?_⟩) ?_
        case refine_2 => (intro w hSw; go_simp; try with_reducible rfl)
        try simp only [pS]
        refine tH (v := ?_) 24 6 rfl (Or.inl ⟨by rfl, ?_⟩) ?_
        case refine_2 => (intro w hSw; go_simp; try with_reducible rfl)
        try simp only [pS]
        refine wpAnyH_done (by kernel_rfl) ?_ _
        refine NoPanic.normal ?_
        clear ai
        go_wp2
        refine kZ 4 5 6 32 32 (w.heap.size + 2) #[.slice aS (jL x.ctx e.dot.a e.dot.seq).length cS, .slice aP (iZ x.K (e, ae, ce)).length cP, .slice aD (sortD (x.dead ++ e.over)).length cD] _ _ _ rfl rfl rfl rfl (setRow_heap _ _ _ _ _ _ hZX) Tryz.underlying32 rfl (by kernel_rfl) rfl ?_
        have hbS := below_setRow (HBV.out.trans (hHeld.mono (Nat.le_of_lt (Nat.lt_of_le_of_lt (Nat.le_add_right _ 2) hlo)))) (by omega : w.heap.size ≤ w.heap.size + 2) #[.slice aS (jL x.ctx e.dot.a e.dot.seq).length cS, .slice aP (iZ x.K (e, ae, ce)).length cP, .slice aD (sortD (x.dead ++ e.over)).length cD]
        have hne : ∀ (v : Value) (n : Nat) (t : TypeId) (sz : Nat) (cs : List Value), wD.ownsRow V.drew.heap.size t sz v n cs → (wD.setRow (w.heap.size + 2) #[.slice aS (jL x.ctx e.dot.a e.dot.seq).length cS, .slice aP (iZ x.K (e, ae, ce)).length cP, .slice aD (sortD (x.dead ++ e.over)).length cD]).ownsRow V.drew.heap.size t sz v n cs := fun v n t sz cs h9 => h9.kept2 (Ky _) (fun g hg e => by have := (h9.lt g hg).1; omega)
        obtain ⟨a1, c1, he1, hd1⟩ := Bq (hne _ _ _ _ _ hS)
        obtain ⟨rfl, rfl⟩ := jD he1
        obtain ⟨a2, c2, he2, hd2⟩ := iK (hne _ _ _ _ _ hP) (fun z hz9 => by
           rcases vC hz9 with rfl | hz9
           ·exact HDD.out.kept hbS
           ·exact (HH.out.kept.dots z hz9).kept hbS)
        obtain ⟨rfl, rfl⟩ := jD he2
        obtain ⟨a3, c3, he3, hd3⟩ := gy (hne _ _ _ _ _ hDr)
        obtain ⟨rfl, rfl⟩ := jD he3
        exact ⟨⟨aS, jL x.ctx e.dot.a e.dot.seq, cS, aP, iZ x.K (e, ae, ce), cP, aD, sortD (x.dead ++ e.over), cD⟩, by rw [HO.out, HE.out]; rfl, ⟨hd1, hd2, hd3, hSl, hPl, hDl⟩, IG x e ae ce HO.out, hbS⟩
      ·rw [if_neg hln] at HE0
       rw [decide_eq_false hln] at HO0
       have HO := Lib.hid HO0
       have HE := Lib.hid HE0
       clear HO0 HE0
       have c1 := kept hB C1
       have hdl : decide (2048 ≤ (x.K.length : Int)) = true := decide_eq_true (by omega)
       have hdn : decide (2048 ≤ x.K.length) = true := decide_eq_true (by omega)
       go_upto_region 8 with fail
       clear c1
       have c0 := kept hB C0
       have c1 := kept hB C1
       have c2 := kept hB C2
       have hZX := (hB.block _ (lt_of_block hZ)).trans hZ
       have HBX := Lib.hid (hb0.trans (hB.mono hb0.size))
       clear hB
       go_wp2_with (refine wpList_store_row rfl 32 _ _ rfl (w.heap.size + 2) #[.slice x.ac x.ctx.length x.cc, .slice x.aK x.K.length x.cK, .slice x.ad x.dead.length x.cd] rfl rfl 32 CZ hZX (by kernel_rfl) hZs (by kernel_rfl) ?_)
       refine kZ 4 5 6 32 32 (w.heap.size + 2) #[.slice x.ac x.ctx.length x.cc, .slice x.aK x.K.length x.cK, .slice x.ad x.dead.length x.cd] _ _ _ rfl rfl rfl rfl (setRow_heap _ _ _ _ _ _ hZX) Tryz.underlying32 rfl (by kernel_rfl) rfl ?_
       have hbS := below_setRow HBX.out (by omega : w.heap.size ≤ w.heap.size + 2) #[.slice x.ac x.ctx.length x.cc, .slice x.aK x.K.length x.cK, .slice x.ad x.dead.length x.cd]
       exact ⟨x, by rw [HO.out, HE.out]; rfl, HH.out.keep hbS, by unfold pU; rw [HO.out, if_neg (by decide)], hbS⟩
     ·have hnb : (g + 1 != e.dot.seq) = true := by rw [bne_iff_ne]; exact hsq
      rw [if_neg hsq] at HE0
      rw [decide_eq_false hsq, Bool.false_and] at HO0
      have HO := Lib.hid HO0
      have HE := Lib.hid HE0
      clear HO0 HE0
      refine aH (by kernel_rfl) (by kernel_rfl) (fun WA hWA => ?_)
      have hbA : Below w2.heap.size w2 WA := by rw [hWA.out]; go_grown
      have hBA : Below W.heap.size W WA := hB.trans (hbA.mono hB.size)
      have pC0 : ∀ i : After WA, i.w.cell? ⟨w.heap.size, 0, none⟩ = some (.slice x.ac x.ctx.length x.cc) := fun i => i.cell (kept hBA C0)
      have pE0 : ∀ i : After WA, i.w.cell? ⟨w.heap.size + 1, 0, none⟩ = some (.int .i64 e.dot.a.dev) := fun i => i.cell (kept hBA E0)
      have pE1 : ∀ i : After WA, i.w.cell? ⟨w.heap.size + 1, 1, none⟩ = some (.int .i64 e.dot.a.inc) := fun i => i.cell (kept hBA E1)
      have pE2 : ∀ i : After WA, i.w.cell? ⟨w.heap.size + 1, 2, none⟩ = some (.int .i64 e.dot.seq) := fun i => i.cell (kept hBA E2)
      have hcA := HC0.kept hBA
      clear hWA
      iterate 5 go_big_quiet_step (fail)
      go_big_quiet_step (exact Calls.after (RZ.out _ (hcA.kept (After.h _))))
      iterate 5 go_big_quiet_step (fail)
      refine wpQuiet_nil ?_
      rintro _ ⟨i, rfl⟩
      have hiA := i.h
      generalize i.w = w3 at hiA ⊢
      replace hB := hB.trans ((below2 hbA hiA).mono hB.size)
      clear hbA hiA hBA hcA pC0 pE0 pE1 pE2
      go_upto_region 6 with fail
      have c0 := kept hB C0
      have c1 := kept hB C1
      have c2 := kept hB C2
      have hZX := (hB.block _ (lt_of_block hZ)).trans hZ
      have HBX := Lib.hid (hb0.trans (hB.mono hb0.size))
      clear hB
      go_wp2_with (refine wpList_store_row rfl 32 _ _ rfl (w.heap.size + 2) #[.slice x.ac x.ctx.length x.cc, .slice x.aK x.K.length x.cK, .slice x.ad x.dead.length x.cd] rfl rfl 32 CZ hZX (by kernel_rfl) hZs (by kernel_rfl) ?_)
      refine kZ 4 5 6 32 32 (w.heap.size + 2) #[.slice x.ac x.ctx.length x.cc, .slice x.aK x.K.length x.cK, .slice x.ad x.dead.length x.cd] _ _ _ rfl rfl rfl rfl (setRow_heap _ _ _ _ _ _ hZX) Tryz.underlying32 rfl (by kernel_rfl) rfl ?_
      have hbS := below_setRow HBX.out (by omega : w.heap.size ≤ w.heap.size + 2) #[.slice x.ac x.ctx.length x.cc, .slice x.aK x.K.length x.cK, .slice x.ad x.dead.length x.cd]
      exact ⟨x, by rw [HO.out, HE.out]; rfl, HH.out.keep hbS, by unfold pU; rw [HO.out, if_neg (by decide)], hbS⟩
end Go.Proofs.YtdlmbflhbecggaaGreat
