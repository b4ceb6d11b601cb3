/- The reference's marks: Set. Conditions: at most 2^29 of them. -/
import Derived.Test.YtcijajjngmmbeaaGreatRefM
import Derived.Test.YtcijajjngmmbeaaGreatVecD
set_option linter.unusedSimpArgs false
set_option linter.unusedVariables false
set_option linter.unnecessarySimpa false
namespace Go.Proofs.YtcijajjngmmbeaaGreat
open Go.RowKit

def rsetStep (x : Actor) (n : Int) (st : List Dot × Bool) (d : Dot) : List Dot × Bool :=
  ((if d.a = x then (if !st.2 && !actorLt d.a x then st.1 ++ [⟨x, n⟩] else st.1) else (if !st.2 && !actorLt d.a x then st.1 ++ [⟨x, n⟩] else st.1) ++ [d]), st.2 || !actorLt d.a x)
def rsetM (l : List Dot) (x : Actor) (n : Int) : List Dot :=
  if (l.foldl (rsetStep x n) ([], false)).2 = true then (l.foldl (rsetStep x n) ([], false)).1 else (l.foldl (rsetStep x n) ([], false)).1 ++ [⟨x, n⟩]
theorem rset_len (x : Actor) (n : Int) (st : List Dot × Bool) (d : Dot) : (rsetStep x n st d).1.length ≤ st.1.length + 2 := by
  unfold rsetStep
  simp only
  split <;> split <;> simp <;> omega
theorem rset_in (x : Actor) (n : Int) : ∀ (l o : List Dot), (∀ d ∈ l, actorLt x d.a = true) → l.foldl (rsetStep x n) (o, true) = (o ++ l, true)
  | [], o, _ => by simp
  | d :: l, o, h => by
    have h1 := h d List.mem_cons_self
    have h2 : d.a ≠ x := fun e => by rw [e, actorLt_irrefl] at h1; cases h1
    rw [List.foldl_cons]
    have : rsetStep x n (o, true) d = (o ++ [d], true) := by simp [rsetStep, h2]
    rw [this, rset_in x n l _ (fun e he => h e (List.mem_cons_of_mem _ he))]
    simp
theorem rset_out (x : Actor) (n : Int) : ∀ (l o : List Dot), SrtM l → (if (l.foldl (rsetStep x n) (o, false)).2 = true then (l.foldl (rsetStep x n) (o, false)).1 else (l.foldl (rsetStep x n) (o, false)).1 ++ [⟨x, n⟩]) = o ++ setM l x n
  | [], o, _ => by simp [setM]
  | d :: l, o, h => by
    obtain ⟨h1, h2⟩ := List.pairwise_cons.1 h
    rw [List.foldl_cons]
    by_cases hx : d.a = x
    · have hs : rsetStep x n (o, false) d = (o ++ [⟨x, n⟩], true) := by simp [rsetStep, hx, actorLt_irrefl]
      rw [hs, rset_in x n l _ (fun e he => by rw [← hx]; exact h1 e he), if_pos rfl]
      unfold setM
      rw [if_pos hx]
      simp
    · cases hl : actorLt d.a x with
      | true =>
        have hs : rsetStep x n (o, false) d = (o ++ [d], false) := by simp [rsetStep, hx, hl]
        rw [hs, rset_out x n l _ h2]
        rw [show setM (d :: l) x n = d :: setM l x n from by rw [setM, if_neg hx, if_pos hl]]
        simp
      | false =>
        have hs : rsetStep x n (o, false) d = (o ++ [⟨x, n⟩] ++ [d], true) := by simp [rsetStep, hx, hl]
        have hg := actorLt_total hx hl
        rw [hs, rset_in x n l _ (fun e he => actorLt_trans hg (h1 e he)), if_pos rfl]
        unfold setM
        rw [if_neg hx, if_neg (by rw [hl]; decide)]
        simp
theorem rsetM_srt {l : List Dot} (h : SrtM l) (x : Actor) (n : Int) : rsetM l x n = setM l x n := by
  have := rset_out x n l [] h
  unfold rsetM
  rw [this]
  rfl
theorem foldl_take {α β : Type} (f : β → α → β) (b : β) (l : List α) (k : Nat) (h : k < l.length) : (l.take (k + 1)).foldl f b = f ((l.take k).foldl f b) l[k] := by
  rw [List.take_add_one, List.getElem?_eq_getElem h, List.foldl_append]
  rfl

set_option maxRecDepth 100000 in
set_option maxHeartbeats 8000000 in
theorem rSetM_any (a : Option Addr) (cap : Nat) (l : List Dot) (x : Actor) (n : Int) (w : World) (hl : l.length ≤ 268435456) (h : DotsIn w a l) :
    Calls Tryz.prog 84 #[.slice a l.length cap, actVal x, .int .i64 n] w fun e w' => ∃ v, e = .returned v ∧ w'.ownsRow w.heap.size 115 3 v (rsetM l x n).length (dotVals (rsetM l x n)) ∧ Below w.heap.size w w' := by
  obtain ⟨i0, hi, hz0, hz1, hz2⟩ := info_parts Tryz.infoMark
  have HR := Lib.hid (fun (d : Dot) (X : World) => rAhead_any d.a x X)
  go_enter Tryz.func84, Tryz.ntmps84
  go_wp2
  have C0 : (w.alloc (.cells #[.int .i64 x.dev, .int .i64 x.inc] 26)).cell? ⟨w.heap.size, 0, none⟩ = some (.int .i64 x.dev) := by go_simp
  have C1 : (w.alloc (.cells #[.int .i64 x.dev, .int .i64 x.inc] 26)).cell? ⟨w.heap.size, 1, none⟩ = some (.int .i64 x.inc) := by go_simp
  have hb0 : Below w.heap.size w (w.alloc (.cells #[.int .i64 x.dev, .int .i64 x.inc] 26)) := (Below.refl _ _).alloc (Nat.le_refl _) _
  have hz0' : w.heap.size + 1 = (w.alloc (.cells #[.int .i64 x.dev, .int .i64 x.inc] 26)).heap.size := by simp
  have h0 := h.kept hb0
  generalize (w.alloc (.cells #[.int .i64 x.dev, .int .i64 x.inc] 26)) = W0 at *
  have hown0 : (W0.alloc (Obj.cells #[] 115)).ownsRow W0.heap.size 115 3 (.slice (some ⟨W0.heap.size, 0, none⟩) 0 0) 0 [] := World.ownsRow_made _ _ _ (Nat.le_refl _) (by decide) rfl
  have hbM : Below W0.heap.size W0 (W0.alloc (Obj.cells #[] 115)) := (Below.refl _ _).alloc (Nat.le_refl _) _
  have HZ0 := Lib.hid hz0'
  have hlow : w.heap.size ≤ W0.heap.size := hb0.size
  clear h hz0'
  go_loopw [7, 8, 9] (fun u b i wr => ∃ (k : Nat) (o : List Dot) (t : Bool), i = .int .i64 k ∧ k ≤ l.length ∧ b = .bool t ∧ (l.take k).foldl (rsetStep x n) ([], false) = (o, t) ∧ wr.ownsRow W0.heap.size 115 3 u o.length (dotVals o) ∧ o.length ≤ 2 * k ∧ Below W0.heap.size W0 wr) (fun _ _ i _ => l.length - (intOf i).toNat)
  case atStart => exact ⟨0, [], false, rfl, Nat.zero_le _, rfl, rfl, by rw [HZ0.out]; exact hown0, Nat.zero_le _, hbM⟩
  case round =>
    obtain ⟨k, o, t, rfl, hk, rfl, hP0, hown, hol, hB⟩ := hrel
    have HP := Lib.hid hP0
    clear hP0
    by_cases hlt : k < l.length
    · obtain ⟨A, off, rfl, hda⟩ : ∃ A off, a = some ⟨A, off, none⟩ ∧ DotsAt W0 A off l := by
        rcases h0 with h | ⟨A, off, h1, h2⟩
        · rw [h] at hlt; simp at hlt
        · exact ⟨A, off, h1, h2⟩
      have E0 := hda.dev k hlt
      have E1 := hda.inc k hlt
      have E2 := hda.seq k hlt
      have HT : Hid ((l.take (k + 1)).foldl (rsetStep x n) ([], false) = rsetStep x n (o, t) l[k]) := by unfold Hid; rw [foldl_take _ _ _ _ hlt, HP.out]
      have HLT := Lib.hid hlt
      have HR1 := fun (X : World) => HR.out l[k] X
      have hEq := fun (W : World) => eqActor W 9998 l[k].a x
      have hm := noGuardActor
      have hkl : k ≤ 268435456 := by omega
      generalize l[k] = d at *
      clear hda
      have HO := Lib.hid hol
      clear hlt
      cases t with
      | true =>
        have HA : Hid (True) := trivial
        go_upto_region 6 with fail
        refine wp_region_after (by kernel_rfl) (by kernel_rfl) (fun WA hWA => ?_)
        have hbA : Below wr.heap.size wr WA := by rw [hWA.out]; go_grown
        have hBA : Below W0.heap.size W0 WA := hB.trans (hbA.mono hB.size)
        have pc0 : ∀ i : After WA, i.w.cell? ⟨w.heap.size, 0, none⟩ = some (.int .i64 x.dev) := fun i => i.cell (kept hBA C0)
        have pc1 : ∀ i : After WA, i.w.cell? ⟨w.heap.size, 1, none⟩ = some (.int .i64 x.inc) := fun i => i.cell (kept hBA C1)
        have pe0 : ∀ i : After WA, i.w.cell? ⟨A, off + k * 3, none⟩ = some (.int .i64 d.a.dev) := fun i => i.cell (kept hBA E0)
        have pe1 : ∀ i : After WA, i.w.cell? ⟨A, off + k * 3 + 1, none⟩ = some (.int .i64 d.a.inc) := fun i => i.cell (kept hBA E1)
        have pe2 : ∀ i : After WA, i.w.cell? ⟨A, off + k * 3 + 2, none⟩ = some (.int .i64 d.seq) := fun i => i.cell (kept hBA E2)
        clear hWA hBA
        go_big_quiet_step (fail)
        go_big_quiet_step (fail)
        go_big_quiet_step (fail)
        go_big_quiet_step (fail)
        go_big_quiet_step (fail)
        go_big_quiet_step (fail)
        go_big_quiet_step (fail)
        go_big_quiet_step (fail)
        go_big_quiet_step (fail)
        go_big_quiet_step (fail)
        go_big_quiet_step (fail)
        go_big_quiet_step (fail)
        refine wpQuiet_nil ?_
        rintro _ ⟨i, rfl⟩
        have hiA := i.h
        generalize i.w = wp at hiA ⊢
        have hbY : Below wr.heap.size wr wp := below2 hbA hiA
        replace hown := ownsRow_below hown hbY
        replace hB := hB.trans (hbY.mono hB.size)
        clear hbA hiA hbY pc0 pc1 pe0 pe1 pe2
        by_cases he : d.a = x
        · rw [decide_eq_true he] at hEq
          have HF : Hid (d.a = x) := he
          clear he
          go_upto_region 9 with fail
          refine wp_region_after (by kernel_rfl) (by kernel_rfl) (fun WA hWA => ?_)
          have hbA : Below wp.heap.size wp WA := by rw [hWA.out]; go_grown
          have hBA : Below W0.heap.size W0 WA := hB.trans (hbA.mono hB.size)
          have pc0 : ∀ i : After WA, i.w.cell? ⟨w.heap.size, 0, none⟩ = some (.int .i64 x.dev) := fun i => i.cell (kept hBA C0)
          have pc1 : ∀ i : After WA, i.w.cell? ⟨w.heap.size, 1, none⟩ = some (.int .i64 x.inc) := fun i => i.cell (kept hBA C1)
          have pe0 : ∀ i : After WA, i.w.cell? ⟨A, off + k * 3, none⟩ = some (.int .i64 d.a.dev) := fun i => i.cell (kept hBA E0)
          have pe1 : ∀ i : After WA, i.w.cell? ⟨A, off + k * 3 + 1, none⟩ = some (.int .i64 d.a.inc) := fun i => i.cell (kept hBA E1)
          have pe2 : ∀ i : After WA, i.w.cell? ⟨A, off + k * 3 + 2, none⟩ = some (.int .i64 d.seq) := fun i => i.cell (kept hBA E2)
          clear hWA hBA
          go_big_quiet_step (fail)
          go_big_quiet_step (fail)
          go_big_quiet_step (fail)
          go_big_quiet_step (fail)
          go_big_quiet_step (fail)
          go_big_quiet_step (fail)
          go_big_quiet_step (fail)
          refine wpQuiet_nil ?_
          rintro _ ⟨i, rfl⟩
          have hiA := i.h
          generalize i.w = wq at hiA ⊢
          have hbY : Below wp.heap.size wp wq := below2 hbA hiA
          replace hown := ownsRow_below hown hbY
          replace hB := hB.trans (hbY.mono hB.size)
          clear hbA hiA hbY pc0 pc1 pe0 pe1 pe2
          have HN : Hid ((l.take (k + 1)).foldl (rsetStep x n) ([], false) = (o, true)) := by unfold Hid; rw [HT.out]; simp [rsetStep, HF.out, actorLt_irrefl, HA.out]
          have HZ := Lib.hid (And.intro hown hB)
          have hll : (o).length ≤ 2 * (k + 1) := by have := HO.out; simp <;> omega
          have HL := Lib.hid hll
          clear hown hB hol hll
          go_wp2
          go_roundw
          case rel => exact ⟨k + 1, o, true, by go_num, HLT.out, rfl, HN.out, HZ.out.1, HL.out, HZ.out.2⟩
          case measure => have := HLT.out; simp [intOf] <;> omega
        · rw [decide_eq_false he] at hEq
          have HF : Hid (d.a ≠ x) := he
          clear he
          go_upto_region 9 with fail
          refine wp_region_after (by kernel_rfl) (by kernel_rfl) (fun WA hWA => ?_)
          have hbA : Below wp.heap.size wp WA := by rw [hWA.out]; go_grown
          have hBA : Below W0.heap.size W0 WA := hB.trans (hbA.mono hB.size)
          have pc0 : ∀ i : After WA, i.w.cell? ⟨w.heap.size, 0, none⟩ = some (.int .i64 x.dev) := fun i => i.cell (kept hBA C0)
          have pc1 : ∀ i : After WA, i.w.cell? ⟨w.heap.size, 1, none⟩ = some (.int .i64 x.inc) := fun i => i.cell (kept hBA C1)
          have pe0 : ∀ i : After WA, i.w.cell? ⟨A, off + k * 3, none⟩ = some (.int .i64 d.a.dev) := fun i => i.cell (kept hBA E0)
          have pe1 : ∀ i : After WA, i.w.cell? ⟨A, off + k * 3 + 1, none⟩ = some (.int .i64 d.a.inc) := fun i => i.cell (kept hBA E1)
          have pe2 : ∀ i : After WA, i.w.cell? ⟨A, off + k * 3 + 2, none⟩ = some (.int .i64 d.seq) := fun i => i.cell (kept hBA E2)
          clear hWA hBA
          go_big_quiet_step (fail)
          go_big_quiet_step (fail)
          go_big_quiet_step (fail)
          go_big_quiet_step (fail)
          go_big_quiet_step (fail)
          go_big_quiet_step (fail)
          go_big_quiet_step (fail)
          refine wpQuiet_nil ?_
          rintro _ ⟨i, rfl⟩
          have hiA := i.h
          generalize i.w = wq at hiA ⊢
          have hbY : Below wp.heap.size wp wq := below2 hbA hiA
          replace hown := ownsRow_below hown hbY
          replace hB := hB.trans (hbY.mono hB.size)
          clear hbA hiA hbY pc0 pc1 pe0 pe1 pe2
          have hlO : (o).length ≤ 1073741826 := by (try simp only [List.length_append, List.length_cons, List.length_nil]); omega
          have hzX := hB.size
          have c0 := kept hB C0
          have c1 := kept hB C1
          have e0 := kept hB E0
          have e1 := kept hB E1
          have e2 := kept hB E2
          go_wp2_with (at_builtin; refine wpList_append_own _ rfl _ _ 43 rfl W0.heap.size 115 i0 (.agg #[.int .i64 0, .int .i64 0, .int .i64 0]) 3 24 Tryz.underlying43 hi hz0 hz1 hz2 rfl (by decide) _ _ _ rfl (hown.alloc _) ⟨wq.heap.size, 0, none⟩ 1 1 [.int .i64 d.a.dev, .int .i64 d.a.inc, .int .i64 d.seq] rfl rfl (cells_new _ _ _) (by simp [Value.oneCell']) (by unfold maxLen; omega) (by omega) (by simp; omega) ?_; intro vwz wz hownwz hgrow _)
          replace hB := (hB.trans (((Below.refl wq.heap.size wq).alloc (Nat.le_refl _) (.cells #[.int .i64 d.a.dev, .int .i64 d.a.inc, .int .i64 d.seq] 115)).mono hB.size)).grown hgrow (by simp; omega) (fun j hj => (hown.lt j hj).1)
          clear hown hgrow hlO hzX c0 c1 e0 e1 e2
          have hown : wz.ownsRow W0.heap.size 115 3 vwz (o ++ [d]).length (dotVals (o ++ [d])) := by rw [dotVals_snoc, List.length_append]; exact hownwz
          clear hownwz
          have HN : Hid ((l.take (k + 1)).foldl (rsetStep x n) ([], false) = (o ++ [d], true)) := by unfold Hid; rw [HT.out]; simp [rsetStep, HF.out, actorLt_irrefl, HA.out]
          have HZ := Lib.hid (And.intro hown hB)
          have hll : (o ++ [d]).length ≤ 2 * (k + 1) := by have := HO.out; simp <;> omega
          have HL := Lib.hid hll
          clear hown hB hol hll
          go_wp2
          go_roundw
          case rel => exact ⟨k + 1, o ++ [d], true, by go_num, HLT.out, rfl, HN.out, HZ.out.1, HL.out, HZ.out.2⟩
          case measure => have := HLT.out; simp [intOf] <;> omega
      | false =>
        cases ha : actorLt d.a x with
        | true =>
          rw [ha] at HR1
          have HA : Hid (actorLt d.a x = true) := ha
          clear ha
          go_upto_region 6 with fail
          refine wp_region_after (by kernel_rfl) (by kernel_rfl) (fun WA hWA => ?_)
          have hbA : Below wr.heap.size wr WA := by rw [hWA.out]; go_grown
          have hBA : Below W0.heap.size W0 WA := hB.trans (hbA.mono hB.size)
          have pc0 : ∀ i : After WA, i.w.cell? ⟨w.heap.size, 0, none⟩ = some (.int .i64 x.dev) := fun i => i.cell (kept hBA C0)
          have pc1 : ∀ i : After WA, i.w.cell? ⟨w.heap.size, 1, none⟩ = some (.int .i64 x.inc) := fun i => i.cell (kept hBA C1)
          have pe0 : ∀ i : After WA, i.w.cell? ⟨A, off + k * 3, none⟩ = some (.int .i64 d.a.dev) := fun i => i.cell (kept hBA E0)
          have pe1 : ∀ i : After WA, i.w.cell? ⟨A, off + k * 3 + 1, none⟩ = some (.int .i64 d.a.inc) := fun i => i.cell (kept hBA E1)
          have pe2 : ∀ i : After WA, i.w.cell? ⟨A, off + k * 3 + 2, none⟩ = some (.int .i64 d.seq) := fun i => i.cell (kept hBA E2)
          clear hWA hBA
          go_big_quiet_step (fail)
          go_big_quiet_step (fail)
          go_big_quiet_step (fail)
          go_big_quiet_step (fail)
          go_big_quiet_step (fail)
          go_big_quiet_step (fail)
          go_big_quiet_step (fail)
          go_big_quiet_step (fail)
          go_big_quiet_step (fail)
          go_big_quiet_step (exact Calls.after (HR1 _))
          go_big_quiet_step (fail)
          go_big_quiet_step (fail)
          refine wpQuiet_nil ?_
          rintro _ ⟨i, rfl⟩
          have hiA := i.h
          generalize i.w = wp at hiA ⊢
          have hbY : Below wr.heap.size wr wp := below2 hbA hiA
          replace hown := ownsRow_below hown hbY
          replace hB := hB.trans (hbY.mono hB.size)
          clear hbA hiA hbY pc0 pc1 pe0 pe1 pe2
          by_cases he : d.a = x
          · rw [decide_eq_true he] at hEq
            have h9 := HA.out
            rw [he, actorLt_irrefl] at h9
            cases h9
          · rw [decide_eq_false he] at hEq
            have HF : Hid (d.a ≠ x) := he
            clear he
            go_upto_region 9 with fail
            refine wp_region_after (by kernel_rfl) (by kernel_rfl) (fun WA hWA => ?_)
            have hbA : Below wp.heap.size wp WA := by rw [hWA.out]; go_grown
            have hBA : Below W0.heap.size W0 WA := hB.trans (hbA.mono hB.size)
            have pc0 : ∀ i : After WA, i.w.cell? ⟨w.heap.size, 0, none⟩ = some (.int .i64 x.dev) := fun i => i.cell (kept hBA C0)
            have pc1 : ∀ i : After WA, i.w.cell? ⟨w.heap.size, 1, none⟩ = some (.int .i64 x.inc) := fun i => i.cell (kept hBA C1)
            have pe0 : ∀ i : After WA, i.w.cell? ⟨A, off + k * 3, none⟩ = some (.int .i64 d.a.dev) := fun i => i.cell (kept hBA E0)
            have pe1 : ∀ i : After WA, i.w.cell? ⟨A, off + k * 3 + 1, none⟩ = some (.int .i64 d.a.inc) := fun i => i.cell (kept hBA E1)
            have pe2 : ∀ i : After WA, i.w.cell? ⟨A, off + k * 3 + 2, none⟩ = some (.int .i64 d.seq) := fun i => i.cell (kept hBA E2)
            clear hWA hBA
            go_big_quiet_step (fail)
            go_big_quiet_step (fail)
            go_big_quiet_step (fail)
            go_big_quiet_step (fail)
            go_big_quiet_step (fail)
            go_big_quiet_step (fail)
            go_big_quiet_step (fail)
            refine wpQuiet_nil ?_
            rintro _ ⟨i, rfl⟩
            have hiA := i.h
            generalize i.w = wq at hiA ⊢
            have hbY : Below wp.heap.size wp wq := below2 hbA hiA
            replace hown := ownsRow_below hown hbY
            replace hB := hB.trans (hbY.mono hB.size)
            clear hbA hiA hbY pc0 pc1 pe0 pe1 pe2
            have hlO : (o).length ≤ 1073741826 := by (try simp only [List.length_append, List.length_cons, List.length_nil]); omega
            have hzX := hB.size
            have c0 := kept hB C0
            have c1 := kept hB C1
            have e0 := kept hB E0
            have e1 := kept hB E1
            have e2 := kept hB E2
            go_wp2_with (at_builtin; refine wpList_append_own _ rfl _ _ 43 rfl W0.heap.size 115 i0 (.agg #[.int .i64 0, .int .i64 0, .int .i64 0]) 3 24 Tryz.underlying43 hi hz0 hz1 hz2 rfl (by decide) _ _ _ rfl (hown.alloc _) ⟨wq.heap.size, 0, none⟩ 1 1 [.int .i64 d.a.dev, .int .i64 d.a.inc, .int .i64 d.seq] rfl rfl (cells_new _ _ _) (by simp [Value.oneCell']) (by unfold maxLen; omega) (by omega) (by simp; omega) ?_; intro vwz wz hownwz hgrow _)
            replace hB := (hB.trans (((Below.refl wq.heap.size wq).alloc (Nat.le_refl _) (.cells #[.int .i64 d.a.dev, .int .i64 d.a.inc, .int .i64 d.seq] 115)).mono hB.size)).grown hgrow (by simp; omega) (fun j hj => (hown.lt j hj).1)
            clear hown hgrow hlO hzX c0 c1 e0 e1 e2
            have hown : wz.ownsRow W0.heap.size 115 3 vwz (o ++ [d]).length (dotVals (o ++ [d])) := by rw [dotVals_snoc, List.length_append]; exact hownwz
            clear hownwz
            have HN : Hid ((l.take (k + 1)).foldl (rsetStep x n) ([], false) = (o ++ [d], false)) := by unfold Hid; rw [HT.out]; simp [rsetStep, HF.out, actorLt_irrefl, HA.out]
            have HZ := Lib.hid (And.intro hown hB)
            have hll : (o ++ [d]).length ≤ 2 * (k + 1) := by have := HO.out; simp <;> omega
            have HL := Lib.hid hll
            clear hown hB hol hll
            go_wp2
            go_roundw
            case rel => exact ⟨k + 1, o ++ [d], false, by go_num, HLT.out, rfl, HN.out, HZ.out.1, HL.out, HZ.out.2⟩
            case measure => have := HLT.out; simp [intOf] <;> omega
        | false =>
          rw [ha] at HR1
          have HA : Hid (actorLt d.a x = false) := ha
          clear ha
          go_upto_region 6 with fail
          refine wp_region_after (by kernel_rfl) (by kernel_rfl) (fun WA hWA => ?_)
          have hbA : Below wr.heap.size wr WA := by rw [hWA.out]; go_grown
          have hBA : Below W0.heap.size W0 WA := hB.trans (hbA.mono hB.size)
          have pc0 : ∀ i : After WA, i.w.cell? ⟨w.heap.size, 0, none⟩ = some (.int .i64 x.dev) := fun i => i.cell (kept hBA C0)
          have pc1 : ∀ i : After WA, i.w.cell? ⟨w.heap.size, 1, none⟩ = some (.int .i64 x.inc) := fun i => i.cell (kept hBA C1)
          have pe0 : ∀ i : After WA, i.w.cell? ⟨A, off + k * 3, none⟩ = some (.int .i64 d.a.dev) := fun i => i.cell (kept hBA E0)
          have pe1 : ∀ i : After WA, i.w.cell? ⟨A, off + k * 3 + 1, none⟩ = some (.int .i64 d.a.inc) := fun i => i.cell (kept hBA E1)
          have pe2 : ∀ i : After WA, i.w.cell? ⟨A, off + k * 3 + 2, none⟩ = some (.int .i64 d.seq) := fun i => i.cell (kept hBA E2)
          clear hWA hBA
          go_big_quiet_step (fail)
          go_big_quiet_step (fail)
          go_big_quiet_step (fail)
          go_big_quiet_step (fail)
          go_big_quiet_step (fail)
          go_big_quiet_step (fail)
          go_big_quiet_step (fail)
          go_big_quiet_step (fail)
          go_big_quiet_step (fail)
          go_big_quiet_step (exact Calls.after (HR1 _))
          go_big_quiet_step (fail)
          go_big_quiet_step (fail)
          refine wpQuiet_nil ?_
          rintro _ ⟨i, rfl⟩
          have hiA := i.h
          generalize i.w = wp at hiA ⊢
          have hbY : Below wr.heap.size wr wp := below2 hbA hiA
          replace hown := ownsRow_below hown hbY
          replace hB := hB.trans (hbY.mono hB.size)
          clear hbA hiA hbY pc0 pc1 pe0 pe1 pe2
          have hlO : o.length ≤ 1073741826 := by (try simp only [List.length_append, List.length_cons, List.length_nil]); omega
          have hzX := hB.size
          have c0 := kept hB C0
          have c1 := kept hB C1
          have e0 := kept hB E0
          have e1 := kept hB E1
          have e2 := kept hB E2
          go_upto_region 9 with (at_builtin; refine wpList_append_own _ rfl _ _ 43 rfl W0.heap.size 115 i0 (.agg #[.int .i64 0, .int .i64 0, .int .i64 0]) 3 24 Tryz.underlying43 hi hz0 hz1 hz2 rfl (by decide) _ _ _ rfl (hown.alloc _) ⟨wp.heap.size, 0, none⟩ 1 1 [.int .i64 x.dev, .int .i64 x.inc, .int .i64 n] rfl rfl (cells_new _ _ _) (by simp [Value.oneCell']) (by unfold maxLen; omega) (by omega) (by simp; omega) ?_; intro vwv wv hownwv hgrow _)
          replace hB := (hB.trans (((Below.refl wp.heap.size wp).alloc (Nat.le_refl _) (.cells #[.int .i64 x.dev, .int .i64 x.inc, .int .i64 n] 115)).mono hB.size)).grown hgrow (by simp; omega) (fun j hj => (hown.lt j hj).1)
          clear hown hgrow hlO hzX c0 c1 e0 e1 e2
          have hown : wv.ownsRow W0.heap.size 115 3 vwv (o ++ [(⟨x, n⟩ : Dot)]).length (dotVals (o ++ [(⟨x, n⟩ : Dot)])) := by rw [dotVals_snoc, List.length_append]; exact hownwv
          clear hownwv
          by_cases he : d.a = x
          · rw [decide_eq_true he] at hEq
            have HF : Hid (d.a = x) := he
            clear he
            go_upto_region 9 with fail
            refine wp_region_after (by kernel_rfl) (by kernel_rfl) (fun WA hWA => ?_)
            have hbA : Below wv.heap.size wv WA := by rw [hWA.out]; go_grown
            have hBA : Below W0.heap.size W0 WA := hB.trans (hbA.mono hB.size)
            have pc0 : ∀ i : After WA, i.w.cell? ⟨w.heap.size, 0, none⟩ = some (.int .i64 x.dev) := fun i => i.cell (kept hBA C0)
            have pc1 : ∀ i : After WA, i.w.cell? ⟨w.heap.size, 1, none⟩ = some (.int .i64 x.inc) := fun i => i.cell (kept hBA C1)
            have pe0 : ∀ i : After WA, i.w.cell? ⟨A, off + k * 3, none⟩ = some (.int .i64 d.a.dev) := fun i => i.cell (kept hBA E0)
            have pe1 : ∀ i : After WA, i.w.cell? ⟨A, off + k * 3 + 1, none⟩ = some (.int .i64 d.a.inc) := fun i => i.cell (kept hBA E1)
            have pe2 : ∀ i : After WA, i.w.cell? ⟨A, off + k * 3 + 2, none⟩ = some (.int .i64 d.seq) := fun i => i.cell (kept hBA E2)
            clear hWA hBA
            go_big_quiet_step (fail)
            go_big_quiet_step (fail)
            go_big_quiet_step (fail)
            go_big_quiet_step (fail)
            go_big_quiet_step (fail)
            go_big_quiet_step (fail)
            go_big_quiet_step (fail)
            refine wpQuiet_nil ?_
            rintro _ ⟨i, rfl⟩
            have hiA := i.h
            generalize i.w = wq at hiA ⊢
            have hbY : Below wv.heap.size wv wq := below2 hbA hiA
            replace hown := ownsRow_below hown hbY
            replace hB := hB.trans (hbY.mono hB.size)
            clear hbA hiA hbY pc0 pc1 pe0 pe1 pe2
            have HN : Hid ((l.take (k + 1)).foldl (rsetStep x n) ([], false) = ((o ++ [(⟨x, n⟩ : Dot)]), true)) := by unfold Hid; rw [HT.out]; simp [rsetStep, HF.out, actorLt_irrefl, HA.out]
            have HZ := Lib.hid (And.intro hown hB)
            have hll : ((o ++ [(⟨x, n⟩ : Dot)])).length ≤ 2 * (k + 1) := by have := HO.out; simp <;> omega
            have HL := Lib.hid hll
            clear hown hB hol hll
            go_wp2
            go_roundw
            case rel => exact ⟨k + 1, (o ++ [(⟨x, n⟩ : Dot)]), true, by go_num, HLT.out, rfl, HN.out, HZ.out.1, HL.out, HZ.out.2⟩
            case measure => have := HLT.out; simp [intOf] <;> omega
          · rw [decide_eq_false he] at hEq
            have HF : Hid (d.a ≠ x) := he
            clear he
            go_upto_region 9 with fail
            refine wp_region_after (by kernel_rfl) (by kernel_rfl) (fun WA hWA => ?_)
            have hbA : Below wv.heap.size wv WA := by rw [hWA.out]; go_grown
            have hBA : Below W0.heap.size W0 WA := hB.trans (hbA.mono hB.size)
            have pc0 : ∀ i : After WA, i.w.cell? ⟨w.heap.size, 0, none⟩ = some (.int .i64 x.dev) := fun i => i.cell (kept hBA C0)
            have pc1 : ∀ i : After WA, i.w.cell? ⟨w.heap.size, 1, none⟩ = some (.int .i64 x.inc) := fun i => i.cell (kept hBA C1)
            have pe0 : ∀ i : After WA, i.w.cell? ⟨A, off + k * 3, none⟩ = some (.int .i64 d.a.dev) := fun i => i.cell (kept hBA E0)
            have pe1 : ∀ i : After WA, i.w.cell? ⟨A, off + k * 3 + 1, none⟩ = some (.int .i64 d.a.inc) := fun i => i.cell (kept hBA E1)
            have pe2 : ∀ i : After WA, i.w.cell? ⟨A, off + k * 3 + 2, none⟩ = some (.int .i64 d.seq) := fun i => i.cell (kept hBA E2)
            clear hWA hBA
            go_big_quiet_step (fail)
            go_big_quiet_step (fail)
            go_big_quiet_step (fail)
            go_big_quiet_step (fail)
            go_big_quiet_step (fail)
            go_big_quiet_step (fail)
            go_big_quiet_step (fail)
            refine wpQuiet_nil ?_
            rintro _ ⟨i, rfl⟩
            have hiA := i.h
            generalize i.w = wq at hiA ⊢
            have hbY : Below wv.heap.size wv wq := below2 hbA hiA
            replace hown := ownsRow_below hown hbY
            replace hB := hB.trans (hbY.mono hB.size)
            clear hbA hiA hbY pc0 pc1 pe0 pe1 pe2
            have hlO : ((o ++ [(⟨x, n⟩ : Dot)])).length ≤ 1073741826 := by (try simp only [List.length_append, List.length_cons, List.length_nil]); omega
            have hzX := hB.size
            have c0 := kept hB C0
            have c1 := kept hB C1
            have e0 := kept hB E0
            have e1 := kept hB E1
            have e2 := kept hB E2
            go_wp2_with (at_builtin; refine wpList_append_own _ rfl _ _ 43 rfl W0.heap.size 115 i0 (.agg #[.int .i64 0, .int .i64 0, .int .i64 0]) 3 24 Tryz.underlying43 hi hz0 hz1 hz2 rfl (by decide) _ _ _ rfl (hown.alloc _) ⟨wq.heap.size, 0, none⟩ 1 1 [.int .i64 d.a.dev, .int .i64 d.a.inc, .int .i64 d.seq] rfl rfl (cells_new _ _ _) (by simp [Value.oneCell']) (by unfold maxLen; omega) (by omega) (by simp; omega) ?_; intro vwz wz hownwz hgrow _)
            replace hB := (hB.trans (((Below.refl wq.heap.size wq).alloc (Nat.le_refl _) (.cells #[.int .i64 d.a.dev, .int .i64 d.a.inc, .int .i64 d.seq] 115)).mono hB.size)).grown hgrow (by simp; omega) (fun j hj => (hown.lt j hj).1)
            clear hown hgrow hlO hzX c0 c1 e0 e1 e2
            have hown : wz.ownsRow W0.heap.size 115 3 vwz (o ++ [(⟨x, n⟩ : Dot)] ++ [d]).length (dotVals (o ++ [(⟨x, n⟩ : Dot)] ++ [d])) := by rw [dotVals_snoc, List.length_append]; exact hownwz
            clear hownwz
            have HN : Hid ((l.take (k + 1)).foldl (rsetStep x n) ([], false) = ((o ++ [(⟨x, n⟩ : Dot)]) ++ [d], true)) := by unfold Hid; rw [HT.out]; simp [rsetStep, HF.out, actorLt_irrefl, HA.out]
            have HZ := Lib.hid (And.intro hown hB)
            have hll : ((o ++ [(⟨x, n⟩ : Dot)]) ++ [d]).length ≤ 2 * (k + 1) := by have := HO.out; simp <;> omega
            have HL := Lib.hid hll
            clear hown hB hol hll
            go_wp2
            go_roundw
            case rel => exact ⟨k + 1, (o ++ [(⟨x, n⟩ : Dot)]) ++ [d], true, by go_num, HLT.out, rfl, HN.out, HZ.out.1, HL.out, HZ.out.2⟩
            case measure => have := HLT.out; simp [intOf] <;> omega
    · obtain rfl : k = l.length := by omega
      have hP := HP.out
      rw [List.take_length] at hP
      have hkl : l.length ≤ 268435456 := hl
      cases t with
      | true =>
        have HE : Hid (rsetM l x n = o) := by unfold Hid rsetM; rw [hP, if_pos rfl]
        clear hP
        go_wp2
        go_ret
        exact ⟨_, rfl, by rw [HE.out]; exact own_low hown hlow, hb0.trans (hB.mono hb0.size)⟩
      | false =>
        have HE : Hid (rsetM l x n = o ++ [⟨x, n⟩]) := by unfold Hid rsetM; rw [hP, if_neg (by show ¬ (false = true); decide)]
        clear hP
        have c0 := kept hB C0
        have c1 := kept hB C1
        have hzX := hB.size
        go_wp2_with (at_builtin; go_loud (refine wpList_append_own _ rfl _ _ 43 rfl W0.heap.size 115 i0 (.agg #[.int .i64 0, .int .i64 0, .int .i64 0]) 3 24 Tryz.underlying43 hi hz0 hz1 hz2 rfl (by decide) _ _ _ rfl (hown.alloc _) ⟨wr.heap.size, 0, none⟩ 1 1 [.int .i64 x.dev, .int .i64 x.inc, .int .i64 n] rfl rfl (cells_new _ _ _) (by simp [Value.oneCell']) (by unfold maxLen; omega) (by omega) (by simp; omega) ?_); intro v9 w9 hown9 hgrow _)
        go_ret
        have hB9 := (hB.trans (((Below.refl wr.heap.size wr).alloc (Nat.le_refl _) (.cells #[.int .i64 x.dev, .int .i64 x.inc, .int .i64 n] 115)).mono hB.size)).grown hgrow (by simp; omega) (fun j hj => (hown.lt j hj).1)
        refine ⟨_, rfl, ?_, hb0.trans (hB9.mono hb0.size)⟩
        rw [HE.out, dotVals_snoc, List.length_append]
        exact own_low hown9 hlow
end Go.Proofs.YtcijajjngmmbeaaGreat
