/- dot.Sort. Conditions: at most 2^30 dots. -/
import Derived.Test.YtcijajjngmmbeaaGreatSrtK
import Derived.Test.YtcijajjngmmbeaaGreatMem
set_option linter.unusedSimpArgs false
set_option linter.unusedVariables false
set_option linter.unnecessarySimpa false
namespace Go.Proofs.YtcijajjngmmbeaaGreat
open Go.RowKit Go.Shelf

theorem DotsIn.at {w : World} {a : Option Addr} {l : List Dot} (h : DotsIn w a l) {k : Nat} (hk : k < l.length) :
    ∃ A off, a = some ⟨A, off, none⟩ ∧ w.cell? ⟨A, off + k * 3, none⟩ = some (.int .i64 l[k].a.dev) ∧ w.cell? ⟨A, off + k * 3 + 1, none⟩ = some (.int .i64 l[k].a.inc) ∧ w.cell? ⟨A, off + k * 3 + 2, none⟩ = some (.int .i64 l[k].seq) := by
  rcases h with rfl | ⟨A, off, h1, h2⟩
  · simp at hk
  · exact ⟨A, off, h1, h2.dev k hk, h2.inc k hk, h2.seq k hk⟩
/-- a count goes up -/
theorem Tab.count {w : World} {b : Nat} {m : List (Dot × Int)} (h : Tab Tryz.prog 28 dotVal DotW intVal w b m) (hl : m.length + 1 < maxLen) {d : Dot} (hd : DotW d) :
    ∃ (n : Int) (st : Nat) (w1 w2 : World) (m' : List (Dot × Int)), (Instr.lookup 98 (.map (some b)) (dotVal d) false).run Tryz.prog w = .ok (.int .i64 n) w ∧
      (Instr.lookup 98 (.map (some b)) (dotVal d) false).run Tryz.prog w1 = .ok (.int .i64 n) w1 ∧
      (∃ v0, (Instr.mapEntry 98 (.map (some b)) (dotVal d)).run Tryz.prog w = .ok (.tuple #[v0, .int .i64 (st : Int)]) w1) ∧ Fr (isR b) w w1 ∧
      (Instr.entryStore 98 (.map (some b)) (.int .i64 (st : Int)) (.int .i64 (IntKind.i64.wrap (n + 1)))).run Tryz.prog w1 = .ok () w2 ∧ Fr (isR b) w w2 ∧
      Tab Tryz.prog 28 dotVal DotW intVal w2 b m' ∧ (∀ x, x ∈ m'.map (·.1) ↔ x = d ∨ x ∈ m.map (·.1)) ∧ m'.length ≤ m.length + 1 := by
  have hz : ∀ u : World, (zeroValue 3).run Tryz.prog u = .ok (.int .i64 0) u := fun u => by kernel_rfl
  have hkey := kDot.lit hd
  have hown := h
  obtain ⟨D, hD, hTD⟩ := hown
  by_cases hm : ∃ c, (d, c) ∈ m
  · obtain ⟨c, hc⟩ := hm
    obtain ⟨r, hr⟩ := perm_split hc
    have hlr := hr.length_eq
    have hlook := h.look_hit kDot Tryz.underlying98 (hz w) hc false
    obtain ⟨w2, hrun2, htab2, hf2⟩ := (h.perm hr).store_old kDot Tryz.underlying98 (by simp at hlr; omega) (IntKind.i64.wrap (c + 1))
    rcases owns_entry kDot.law hD Tryz.underlying98 hz hkey with ⟨v0, st, he, hs⟩ | ⟨st, w1, he, hu, hno, hs⟩
    · refine ⟨c, st, w, w2, _, hlook, hlook, ⟨v0, he⟩, Fr.refl _ _, hs _ _ hrun2, hf2, htab2, fun x => ?_, by simp at hlr ⊢; omega⟩
      rw [(hr.map (·.1)).mem_iff]
      simp
    · exfalso
      have hst : (Instr.lookup 98 (.map (some b)) (dotVal d) true).run Tryz.prog w = .ok (.tuple #[.int .i64 c, .bool true]) w := h.look_hit kDot Tryz.underlying98 (hz w) hc true
      rw [hno] at hst
      simp at hst
  · have hn : ∀ p ∈ m, p.1 ≠ d := fun p hp e => hm ⟨p.2, by rw [← e]; exact hp⟩
    have hlook := h.look_miss kDot Tryz.underlying98 (hz w) hd hn false
    obtain ⟨w2, hrun2, htab2, hf2⟩ := h.store_new kDot Tryz.underlying98 (by omega) hd hn (IntKind.i64.wrap (0 + 1))
    rcases owns_entry kDot.law hD Tryz.underlying98 hz hkey with ⟨v0, st, he, hs⟩ | ⟨st, w1, he, hu, hno, hs⟩
    · refine ⟨0, st, w, w2, _, hlook, hlook, ⟨v0, he⟩, Fr.refl _ _, hs _ _ hrun2, hf2, htab2, fun x => ?_, by simp⟩
      simp
    · obtain ⟨w3, hrun3, htab3, hf3⟩ := h.store_new kDot Tryz.underlying98 (by omega) hd hn 0
      obtain rfl : w1 = w3 := by
        have := hu.symm.trans hrun3
        cases this; rfl
      exact ⟨0, st, w1, w2, _, hlook, htab3.look_hit kDot Tryz.underlying98 (hz w1) (p := (d, 0)) List.mem_cons_self false, ⟨_, he⟩, hf3, hs _ _ hrun2, hf2, htab2, fun x => by simp, by simp⟩

set_option maxRecDepth 100000 in
set_option maxHeartbeats 2000000 in
theorem dotSort_any (a : Option Addr) (cap : Nat) (l : List Dot) (w : World) (hl : l.length ≤ 1073741824) (hok : ∀ d ∈ l, DotW d) (hin : DotsIn w a l) :
    Calls Tryz.prog 92 #[.slice a l.length cap] w fun e w' => ∃ v, e = .returned v ∧ w'.ownsRow w.heap.size 28 3 v (sortD l).length (dotVals (sortD l)) ∧ (v = .slice none 0 0 ↔ sortD l = []) ∧ Below w.heap.size w w' := by
  have hmm := @run_makeMap Tryz.prog
  have HO := Lib.hid hok
  go_enter Tryz.func92, Tryz.ntmps92
  go_wp2
  go_loopw [9] (fun i wr => ∃ (k : Nat) (m : List (Dot × Int)), i = .int .i64 k ∧ k ≤ l.length ∧ Tab Tryz.prog 28 dotVal DotW intVal wr w.heap.size m ∧ (∀ x, x ∈ m.map (·.1) ↔ x ∈ l.take k) ∧ m.length ≤ k ∧ Below w.heap.size w wr) (fun i _ => l.length - (intOf i).toNat)
  case atStart => exact ⟨0, [], rfl, Nat.zero_le _, Tab.made w, by simp, Nat.le_refl _, by go_grown⟩
  case round =>
    obtain ⟨k, m, rfl, hk, htab, hmem, hml, hbw⟩ := hrel
    have HM := Lib.hid hmem
    clear hmem
    by_cases hlt : k < l.length
    · obtain ⟨A, off, rfl, e0, e1, e2⟩ := (hin.kept hbw).at hlt
      have hdw := hok _ (List.getElem_mem hlt)
      have HT : Hid (∀ x, x ∈ l.take (k + 1) ↔ x = l[k] ∨ x ∈ l.take k) := fun x => by
        rw [List.take_add_one, List.getElem?_eq_getElem hlt]
        show x ∈ l.take k ++ [l[k]] ↔ _
        rw [List.mem_append, List.mem_singleton]
        exact Or.comm
      have hzw := hbw.size
      generalize l[k] = d at e0 e1 e2 hdw HT
      go_upto_region 5 with fail
      refine wp_name (fun W hW => ?_)
      have hb1 : Below wr.heap.size wr W := by rw [hW.out]; go_grown
      have x0 : W.drew.cell? ⟨wr.heap.size, 0, none⟩ = some (.int .i64 d.a.dev) := by rw [hW.out]; go_simp
      have x1 : W.drew.cell? ⟨wr.heap.size, 1, none⟩ = some (.int .i64 d.a.inc) := by rw [hW.out]; go_simp
      have x2 : W.drew.cell? ⟨wr.heap.size, 2, none⟩ = some (.int .i64 d.seq) := by rw [hW.out]; go_simp
      clear hW e0 e1 e2
      have hbd : Below w.heap.size w W.drew := hbw.trans (hb1.drew.mono hzw)
      have htw : Tab Tryz.prog 28 dotVal DotW intVal W.drew w.heap.size m := (htab.kept hb1.drew)
      have hne : wr.heap.size ≠ w.heap.size := by have := htab.lt; omega
      obtain ⟨n, st, w1, w2, m', hl0, hl1, ⟨v0, he⟩, hf1, hs, hf2, htab2, hm2, hml2⟩ := htw.count (by unfold maxLen; omega) hdw
      have HR := Lib.hid (And.intro htab2 (And.intro hm2 hml2))
      have y0 : w1.cell? ⟨wr.heap.size, 0, none⟩ = some (.int .i64 d.a.dev) := hf1.kept x0 hne
      have y1 : w1.cell? ⟨wr.heap.size, 1, none⟩ = some (.int .i64 d.a.inc) := hf1.kept x1 hne
      have y2 : w1.cell? ⟨wr.heap.size, 2, none⟩ = some (.int .i64 d.seq) := hf1.kept x2 hne
      have HF := Lib.hid (And.intro hf1 hf2)
      have hS := And.intro x0 (And.intro x1 (And.intro x2 hl0))
      have hS1 := And.intro y0 (And.intro y1 (And.intro y2 hl1))
      clear htab2 hm2 hml2 htw htab hf1 hf2 x0 x1 x2 y0 y1 y2 hl0 hl1 hb1
      refine wp_region_noPanic ?_
      refine wp_region_late (fun W' => W'.cell? ⟨wr.heap.size, 0, none⟩ = some (.int .i64 d.a.dev) ∧ W'.cell? ⟨wr.heap.size, 1, none⟩ = some (.int .i64 d.a.inc) ∧ W'.cell? ⟨wr.heap.size, 2, none⟩ = some (.int .i64 d.seq) ∧ (Instr.lookup 98 (.map (some w.heap.size)) (dotVal d) false).run Tryz.prog W' = .ok (.int .i64 n) W') [6] (by kernel_rfl) ?_
      refine wpAnyL_take (i := 0) (oi := ⟨some 13, _, _, _, _, _⟩) (v := ?_) rfl (by kernel_rfl) (by kernel_rfl) (by kernel_rfl) (by kernel_rfl) (by kernel_rfl) (fun _ _ _ h => h) (Or.inl ⟨by rfl, ?_⟩) (by assumption) ?_
      case refine_2 => (rintro w ⟨s0, s1, s2, s3⟩; go_simp; try with_reducible rfl)
      try simp only [Act.put, List.setIfInBounds_toArray, List.set_cons_zero, List.set_cons_succ]
      refine wpAnyL_take (i := 1) (oi := ⟨some 14, _, _, _, _, _⟩) (v := ?_) rfl (by kernel_rfl) (by kernel_rfl) (by kernel_rfl) (by kernel_rfl) (by kernel_rfl) (fun _ _ _ h => h) (Or.inl ⟨by rfl, ?_⟩) (by assumption) ?_
      case refine_2 => (rintro w ⟨s0, s1, s2, s3⟩; go_simp; try with_reducible rfl)
      try simp only [Act.put, List.setIfInBounds_toArray, List.set_cons_zero, List.set_cons_succ]
      refine wpAnyL_take (i := 2) (oi := ⟨some 15, _, _, _, _, _⟩) (v := ?_) rfl (by kernel_rfl) (by kernel_rfl) (by kernel_rfl) (by kernel_rfl) (by kernel_rfl) (fun _ _ _ h => h) (Or.inl ⟨by rfl, ?_⟩) (by assumption) ?_
      case refine_2 => (rintro w ⟨s0, s1, s2, s3⟩; go_simp; try with_reducible rfl)
      try simp only [Act.put, List.setIfInBounds_toArray, List.set_cons_zero, List.set_cons_succ]
      refine wpAnyL_take (i := 3) (oi := ⟨some 16, _, _, _, _, _⟩) (v := ?_) rfl (by kernel_rfl) (by kernel_rfl) (by kernel_rfl) (by kernel_rfl) (by kernel_rfl) (fun _ _ _ h => h) (Or.inl ⟨by rfl, ?_⟩) (by assumption) ?_
      case refine_2 => (rintro w ⟨s0, s1, s2, s3⟩; go_simp; try with_reducible rfl)
      try simp only [Act.put, List.setIfInBounds_toArray, List.set_cons_zero, List.set_cons_succ]
      refine wpAnyL_one (i := 4) (o := ⟨some 17, _, _, _, _, _⟩) (by kernel_rfl) rfl ?_
      intro K hK
      go_simp
      refine hK.out _ _ (Or.inr (hS1)) ?_
      clear hK K
      try simp only [Act.put, List.setIfInBounds_toArray, List.set_cons_zero, List.set_cons_succ]
      refine wpAnyL_one (i := 5) (o := ⟨some 18, _, _, _, _, _⟩) (by kernel_rfl) rfl ?_
      intro K hK
      go_simp
      refine hK.out _ _ (Or.inr (hS1)) ?_
      clear hK K
      try simp only [Act.put, List.setIfInBounds_toArray, List.set_cons_zero, List.set_cons_succ]
      refine wpAnyL_one (i := 6) (o := ⟨none, _, _, _, _, _⟩) (by kernel_rfl) rfl ?_
      intro K hK
      go_simp
      refine hK.out _ _ (Or.inl (by kernel_rfl)) ?_
      clear hK K
      try simp only [Act.put, List.setIfInBounds_toArray, List.set_cons_zero, List.set_cons_succ]
      refine wpAnyL_done (by kernel_rfl) ?_ _
      refine NoPanic.normal ?_
      have HK := Lib.hid hlt
      clear hS hS1 he hs
      go_wp2
      go_roundw
      case rel => exact ⟨k + 1, m', by go_num, HK.out, HR.out.1, fun x => by rw [HR.out.2.1, HT.out, HM.out], by have := HR.out.2.2; omega, hbd.trans (HF.out.2.below hbd.size (fun j hj => by subst hj; exact Nat.le_refl _))⟩
      case measure => have := HK.out; simp [intOf] <;> omega
    · obtain rfl : k = l.length := by omega
      have hM := HM.out
      rw [List.take_length] at hM
      have HMM := Lib.hid hM
      have hz := hbw.size
      have HS := Lib.hid (sortedDot_any wr.heap.size w.heap.size m (wr.alloc (.cells #[.map (some w.heap.size)] 98)) (by simp) (Boxed.new wr _ _).cell (htab.kept ((Below.refl _ _).alloc (Nat.le_refl _) _)) (by omega))
      have HKS := Lib.hid (keysDot_any (some w.heap.size) wr)
      clear htab hM
      go_wp2_with (first
        | (go_at_call 117; (with_reducible refine HKS.out.mono ?_); rintro e w1 ⟨rfl, rfl⟩)
        | (go_at_call 116; (with_reducible refine HS.out.mono ?_); rintro e w2 ⟨v, ts, rfl, hp, hsr, hown, hnil, hb2⟩))
      go_ret
      obtain rfl : ts = sortD l := srtD_ext hsr (sortD_srt l) fun x => by rw [hp.mem_iff, HMM.out, sortD_mem]
      exact ⟨v, rfl, own_low hown (by simp; omega), hnil, hbw.trans (((Below.refl _ _).alloc (Nat.le_refl _) _).mono hz |>.trans (hb2.mono (by simp; omega)))⟩
end Go.Proofs.YtcijajjngmmbeaaGreat
