/- The reference's disk: Crash. Conditions: as in the text. -/
import Derived.Test.YtbkelbdeodbhcaaDRefD
set_option linter.unusedSimpArgs false
set_option linter.unusedVariables false
set_option linter.unnecessarySimpa false
namespace Go.Proofs.Ytbkelbdeodbhcaa
open Go.RowKit

abbrev Ks := List (ByteArray × Int)
/-- the last number of a name; 0 -/
def keepOf (ks : Ks) (s : ByteArray) : Int := ks.foldl (fun n p => if p.1 = s then p.2 else n) 0
theorem keepOf_snoc (ks : Ks) (k : Nat) (h : k < ks.length) (s : ByteArray) : keepOf (ks.take (k + 1)) s = if ks[k].1 = s then ks[k].2 else keepOf (ks.take k) s := by
  unfold keepOf
  rw [List.take_succ_eq_append_getElem h, List.foldl_append]
  rfl
def clampK (n : Int) (r : Nat) : Nat := if n < 0 then 0 else min n.toNat r
theorem clampK_le (n : Int) (r : Nat) : clampK n r ≤ r := by unfold clampK; split <;> omega
/-- a file behind a crash -/
def crashF (ks : Ks) (f : DF) : DF := ⟨f.name, f.b.take (f.safe + clampK (keepOf ks f.name) (f.b.length - f.safe)), f.safe + clampK (keepOf ks f.name) (f.b.length - f.safe)⟩
def DS.crash (S : DS) (ks : Ks) : DS := ⟨S.f.map (crashF ks), 0, false⟩
theorem cells_at {w : World} {a : Option Addr} {cs : List Value} (h : CellsIn w a cs) {k : Nat} (hk : k < cs.length) : ∃ A off, a = some ⟨A, off, none⟩ ∧ w.cell? ⟨A, off + k, none⟩ = some cs[k] := by
  rcases h with rfl | ⟨A, off, h1, h2⟩
  · simp at hk
  · exact ⟨A, off, h1, h2 k _ (List.getElem?_eq_getElem hk)⟩
def nameCells (ks : Ks) : List Value := ks.map fun p => .string p.1
def keepCells (ks : Ks) : List Value := ks.map fun p => .int .i64 p.2
theorem crash_snoc (ks : Ks) (l : List RF) (k : Nat) (h : k < l.length) (ls : List RF) (g : RF) (hl : rfsOf ls = ((rfsOf l).take k).map (crashF ks)) (hg : g.f = crashF ks l[k].f) :
    rfsOf (ls ++ [g]) = ((rfsOf l).take (k + 1)).map (crashF ks) := by
  rw [List.take_succ_eq_append_getElem (by simpa using h), List.map_append, ← hl]
  simp [hg]

/-- a function whose one result is a struct that lies in a block of its own hands back that block's cells -/
theorem ret_cell30 {P : Program} {fn : Func} {R : Ending → World → Prop} {a : Act} {w : World} (p : Tmp) (ty t : TypeId) (g : Nat) (c : Array Value) (d : TypeDesc) (hr : fn.results = #[.cell p ty])
    (hp : a.tmps.getD p undef = .pointer (some ⟨g, 0, none⟩)) (hg : w.heap[g]? = some (.cells c t (0, 0))) (hu : P.underlying ty = some d) (hd : d.isRow = true) (hi : (P.info? ty).map (·.size) = some c.size)
    (hde : a.defers = []) (hR : R (.returned (.agg c)) w) : bodyPost P fn R .ret a w := by
  have h1 : w.rangeAt g 0 c.toList := fun j v hv => by
    rw [Nat.zero_add]
    simp only [World.cell?, hg]
    simpa using hv
  have h2 := run_loadVar_mid (P := P) w g 0 ty c.toList d h1 hu hd (by simpa using hi)
  refine bodyPost_ret ?_ hde hR
  have hp' : a.tmps[p]?.getD undef = .pointer (some ⟨g, 0, none⟩) := by simpa using hp
  simp [results, hr, hp', asAddr, h2, Sem.run_bind, Result.andThen]
theorem own_fr30 {S : Nat → Prop} {w w' : World} {base : Nat} {e : TypeId} {size : Nat} {v : Value} {n : Nat} {xs : List Value} (h : w.ownsRow base e size v n xs) (hf : Fr S w w') (hS : ∀ k, v.ownBlock = some k → ¬ S k) : w'.ownsRow base e size v n xs := by
  refine ⟨h.1, ?_⟩
  have hlt := h.lt
  rcases h.2 with hn | ⟨g, cap, cur, hv, hbs, hg, rest⟩
  · exact .inl hn
  · have ho : v.ownBlock = some g := by rw [hv]; rfl
    exact .inr ⟨g, cap, cur, hv, hbs, by rw [hf.block g (hlt g ho).2 (hS g ho)]; exact hg, rest⟩
set_option maxRecDepth 100000 in
set_option maxHeartbeats 2000000 in
theorem rCrash_any (a an ak : Option Addr) (cap cn ck arm : Nat) (down : Bool) (l : List RF) (ks : Ks) (w : World) (hl : l.length ≤ 16777216) (hkl : ks.length ≤ 1073741824) (hb : ∀ g ∈ l, g.f.safe ≤ g.f.b.length ∧ g.f.b.length ≤ 1073741824)
    (h : RFsIn w a l) (hn : CellsIn w an (nameCells ks)) (hk : CellsIn w ak (keepCells ks)) :
    Calls Try.prog 38 #[rdkVal a l.length cap arm down, .slice an ks.length cn, .slice ak ks.length ck] w fun e w' => ∃ (a' : Option Addr) (l' : List RF) (cap' : Nat), e = .returned (rdkVal a' l'.length cap' 0 false) ∧
      RFsIn w' a' l' ∧ l'.length ≤ cap' ∧ rfsOf l' = (rfsOf l).map (crashF ks) ∧ Below w.heap.size w w' := by
  obtain ⟨i0, hi, hz0, hz1, hz2⟩ := info_parts Try.infoRF
  obtain ⟨iu, hiu, hzu0, hzu1, hzu2⟩ := info_parts Try.infoByte
  go_enter Try.func38, Try.ntmps38
  go_upto_region 1 with fail
  refine wp_name (fun W hW => ?_)
  have hb0 : Below w.heap.size w W := by rw [hW.out]; go_grown
  have hD : B3 W w.heap.size 29 (.slice a l.length cap) (.int .i64 arm) (.bool down) := by
    rw [hW.out]; exact (Below.refl (w.heap.size + 1) _).alloc (by simp) _ |>.block _ (by simp) |>.trans (heap_last0 w _)
  have hZ : B3 W (w.heap.size + 1) 29 (.slice none 0 0) (.int .i64 0) (.bool false) := by rw [hW.out]; exact heap_last1 w _ _
  have H0 := Lib.hid h
  replace h := h.kept hb0
  clear hW
  obtain ⟨d0, d1, d2, e0, e1, e2⟩ := hD.cells
  replace hn := hn.kept hb0
  replace hk := hk.kept hb0
  have hown0 : (W.alloc (Obj.cells #[] 46)).ownsRow W.heap.size 46 3 (.slice (some ⟨W.heap.size, 0, none⟩) 0 0) ([] : List RF).length (fcs []) := World.ownsRow_made _ _ _ (Nat.le_refl _) (by decide) rfl
  go_wp2
  go_loopw [8, 9] (fun out i wr => ∃ (k : Nat) (ls : List RF), i = .int .i64 k ∧ k ≤ l.length ∧ ls.length = k ∧ rfsOf ls = ((rfsOf l).take k).map (crashF ks) ∧ wr.ownsRow W.heap.size 46 3 out ls.length (fcs ls) ∧ (∀ g ∈ ls, RFOk W g) ∧ Below W.heap.size W wr) (fun _ i _ => l.length - (intOf i).toNat)
  case atStart => exact ⟨0, [], rfl, Nat.zero_le _, rfl, rfl, hown0, fun g hg => (nomatch hg), (Below.refl _ _).alloc (Nat.le_refl _) _⟩
  case round =>
    obtain ⟨wo, hwo⟩ : ∃ wo, wo = wr := ⟨_, rfl⟩
    subst hwo
    obtain ⟨k, ls, rfl, hk1, hlen, hls, hown, hok, hbw⟩ := hrel
    have HLS := Lib.hid hls
    have HLEN := Lib.hid hlen
    clear hls hlen
    have hzw := hbw.size
    by_cases hlt : k < l.length
    · obtain ⟨A, off, rfl, hra, hgo⟩ := (h.kept hbw).at hlt
      have c0 := hra k hlt 0 _ rfl
      have c1 := hra k hlt 1 _ rfl
      have c2 := hra k hlt 2 _ rfl
      rw [Nat.add_zero] at c0
      have HSN := Lib.hid (fun ls g => crash_snoc ks l k hlt ls g)
      have hgW := h.ok _ (List.getElem_mem hlt)
      obtain ⟨hsf, hbl⟩ := hb _ (List.getElem_mem hlt)
      clear hra
      generalize l[k] = x at c0 c1 c2 HSN hgo hsf hbl hgW
      obtain ⟨f, ag, cg⟩ := x
      simp only at c0 c1 c2 HSN hsf hbl
      go_upto_region 8 with fail
      refine wp_name (fun Wf hWf => ?_)
      have hX : B3 Wf wo.heap.size 46 (.string f.name) (.slice ag f.b.length cg) (.int .i64 f.safe) := by rw [hWf.out]; exact heap_last0 wo _
      have hbf : Below wo.heap.size wo Wf := by rw [hWf.out]; exact (Below.refl _ _).alloc (Nat.le_refl _) _
      have hownf : Wf.ownsRow W.heap.size 46 3 u8 ls.length (fcs ls) := by rw [hWf.out]; exact hown.alloc _
      have hnf := (hn.kept hbw).kept hbf
      have hkf := (hk.kept hbw).kept hbf
      clear hWf c0 c1 c2
      obtain ⟨x0, x1, x2, y0, y1, y2⟩ := hX.cells
      go_wp2
      go_loopw [11, 12] (fun n k wi => ∃ j : Nat, k = .int .i64 j ∧ j ≤ ks.length ∧ n = .int .i64 (keepOf (ks.take j) f.name) ∧ Below Wf.heap.size Wf wi) (fun _ k _ => ks.length - (intOf k).toNat)
      case atStart => exact ⟨0, rfl, Nat.zero_le _, rfl, Below.refl _ _⟩
      case round =>
        obtain ⟨j, rfl, hj, rfl, hbi⟩ := hrel
        have x0i := kept hbi x0
        by_cases hjl : j < ks.length
        · obtain ⟨AN, ofn, rfl, n0⟩ := cells_at (hnf.kept hbi) (k := j) (by simpa [nameCells] using hjl)
          obtain ⟨AK, ofk, rfl, k0⟩ := cells_at (hkf.kept hbi) (k := j) (by simpa [keepCells] using hjl)
          simp only [nameCells, keepCells, List.getElem_map] at n0 k0
          have HK := Lib.hid (keepOf_snoc ks j hjl f.name)
          by_cases he : ks[j].1 = f.name
          · rw [if_pos he] at HK
            have hq : (ks[j].1.toList == f.name.toList) = true := by rw [he]; simp
            clear he
            generalize ks[j] = p at n0 k0 HK hq
            obtain ⟨pn, pk⟩ := p
            simp only at n0 k0 HK hq
            go_wp2
            go_quiet (fail)
            go_wp2
            go_roundw
            case rel => exact ⟨j + 1, by go_num, by omega, by rw [HK.out], below_drewN hbi nq⟩
            case measure => simp [intOf] <;> omega
          · rw [if_neg he] at HK
            have hq : (ks[j].1.toList == f.name.toList) = false := by rw [str_beq]; exact decide_eq_false fun e => he (bl_inj e)
            clear he
            generalize ks[j] = p at n0 k0 hq
            obtain ⟨pn, pk⟩ := p
            simp only at n0 k0 hq
            go_wp2
            go_quiet (fail)
            go_wp2
            go_roundw
            case rel => exact ⟨j + 1, by go_num, by omega, by rw [HK.out], below_drewN hbi nq⟩
            case measure => simp [intOf] <;> omega
        · obtain ⟨wi, hwi⟩ : ∃ wi, wi = wr := ⟨_, rfl⟩
          subst hwi
          have hje : j = ks.length := by omega
          subst hje
          rw [List.take_length]
          have hjl' : ¬ ((ks.length : Int) < (ks.length : Int)) := by omega
          obtain ⟨r, hr⟩ : ∃ r, f.safe + r = f.b.length := ⟨f.b.length - f.safe, by omega⟩
          obtain ⟨m, hm⟩ : ∃ m, m = clampK (keepOf ks f.name) r := ⟨_, rfl⟩
          have hmr : m ≤ r := by rw [hm]; exact clampK_le _ _
          have hrr : f.b.length - f.safe = r := by omega
          have hsub : (f.b.length : Int) - (f.safe : Int) = (r : Int) := by omega
          obtain ⟨tb, htb⟩ : ∃ tb, tb = f.b.take (f.safe + m) := ⟨_, rfl⟩
          have htl : tb.length = f.safe + m := by rw [htb]; simp; omega
          have HCR : Hid (crashF ks f = ⟨f.name, tb, tb.length⟩) := Lib.hid (by unfold crashF; rw [hrr, ← hm, htl, htb])
          have HTB := Lib.hid htb
          have HTL := Lib.hid htl
          have hXi := hX.below hbi
          have hbi2 := hbf.trans (hbi.mono hbf.size)
          have hgoW := hgW
          have hownI := ownsRow_below hownf hbi
          have hlwr := hown.lt
          have hzi := hbi2.size
          clear hX x0 x1 x2 y0 y1 y2 x0i htb htl hrr hown hgo hnf hkf hownf hgW
          obtain ⟨x0, x1, x2, y0, y1, y2⟩ := hXi.cells
          generalize keepOf ks f.name = N at *
          have hM := Lib.hid hm
          clear hm
          by_cases hN : N < 0
          · have hm0 : m = 0 := by rw [hM.out]; unfold clampK; rw [if_pos hN]
            have hcut : ∀ X, (Instr.sliceAt 32 (.slice ag f.b.length cg) none (some (.int .i64 (f.safe : Int))) none).run Try.prog X = .ok (.slice ag tb.length cg) X := fun X => by
              rw [HTL.out, hm0]
              exact run_cut_hi X _ _ iu ag f.b.length cg .i64 (f.safe + 0) Try.underlying32 hiu (by have := hgoW.cap; simp only at this; omega)
            have hN0 : ¬ ((r : Int) < 0) := by omega
            have HR := Lib.hid hr
            clear hm0 hM
            have hcg : f.b.length ≤ cg := hgoW.cap
            go_upto_region 17 with fail
            go_upto_region 18 with fail
            clear hr hsub hsf hcg
            go_upto_region 19 with fail
            refine wp_name (fun W3 hW3 => ?_)
            have hX3 : B3 W3 wo.heap.size 46 (.string f.name) (.slice ag tb.length cg) (.int .i64 tb.length) := by rw [hW3.out]; exact (hXi.set1 _).set2 _
            have hf3 : Fr (isR wo.heap.size) wi W3 := by rw [hW3.out]; exact (fr_set _).again (fr_set _)
            have hown3 := own_fr30 hownI hf3 (fun k hk e => by have := (hlwr k hk).2; simp only [isR] at e; omega)
            have hb3 : Below wo.heap.size wo W3 := by rw [hW3.out]; exact below_set (below_set hbi2 (by simp only; omega) _) (by simp only; omega) _
            have hg3 : RFOk W ⟨⟨f.name, tb, tb.length⟩, ag, cg⟩ := ⟨by rw [HTB.out]; exact hgoW.bytes.take _, by have := hgoW.cap; simp only at this ⊢; rw [HTL.out]; have := HR.out; omega⟩
            have hz3 := hb3.size
            clear hW3 hXi hbi hbi2 hownI hf3 x0 x1 x2 y0 y1 y2 hcut
            obtain ⟨x0, x1, x2, y0, y1, y2⟩ := hX3.cells
            go_wp2_with (at_builtin; go_loud (refine wpList_append_cells rfl _ _ 27 rfl W.heap.size 46 i0 _ 3 48 Try.underlying27 hi hz0 hz1 hz2 rfl (by decide) _ _ _ rfl (hown3.alloc _) _ 1 1 (fcs [⟨⟨f.name, tb, tb.length⟩, ag, cg⟩]) rfl rfl (rf_new W3 ⟨⟨f.name, tb, tb.length⟩, ag, cg⟩ _) (fcs_one _) (by have := HLEN.out; unfold maxLen; omega) (by have := HLEN.out; omega) (by simp; omega) ?_); intro v' w4 hown4 hgrow)
            have hb4 : Below W.heap.size W w4 := ((hbw.trans (hb3.mono hzw)).alloc (by omega) _).grown hgrow (by simp; omega) (fun k hk => (hown3.lt k hk).1)
            go_roundw
            case rel =>
              refine ⟨k + 1, ls ++ [⟨⟨f.name, tb, tb.length⟩, ag, cg⟩], by go_num, by omega, by simp [HLEN.out], HSN.out _ _ HLS.out HCR.out.symm, ?_, ?_, hb4⟩
              · rw [fcs_append, List.length_append]; exact hown4
              · intro g hg
                rcases List.mem_append.1 hg with hg | hg
                · exact hok g hg
                · simp only [List.mem_singleton] at hg; subst hg; exact hg3
            case measure => simp [intOf] <;> omega
          · by_cases hN2 : (r : Int) < N
            · have hm0 : m = r := by rw [hM.out]; unfold clampK; rw [if_neg hN]; omega
              have hcut : ∀ X, (Instr.sliceAt 32 (.slice ag f.b.length cg) none (some (.int .i64 ((f.safe : Int) + (r : Int)))) none).run Try.prog X = .ok (.slice ag tb.length cg) X := fun X => by
                rw [HTL.out, hm0]
                exact run_cut_hi X _ _ iu ag f.b.length cg .i64 (f.safe + r) Try.underlying32 hiu (by have := hgoW.cap; simp only at this; omega)
              have HR := Lib.hid hr
              clear hm0 hM
              have hcg : f.b.length ≤ cg := hgoW.cap
              go_upto_region 17 with fail
              go_upto_region 18 with fail
              clear hr hsub hsf hcg
              go_upto_region 19 with fail
              refine wp_name (fun W3 hW3 => ?_)
              have hX3 : B3 W3 wo.heap.size 46 (.string f.name) (.slice ag tb.length cg) (.int .i64 tb.length) := by rw [hW3.out]; exact (hXi.set1 _).set2 _
              have hf3 : Fr (isR wo.heap.size) wi W3 := by rw [hW3.out]; exact (fr_set _).again (fr_set _)
              have hown3 := own_fr30 hownI hf3 (fun k hk e => by have := (hlwr k hk).2; simp only [isR] at e; omega)
              have hb3 : Below wo.heap.size wo W3 := by rw [hW3.out]; exact below_set (below_set hbi2 (by simp only; omega) _) (by simp only; omega) _
              have hg3 : RFOk W ⟨⟨f.name, tb, tb.length⟩, ag, cg⟩ := ⟨by rw [HTB.out]; exact hgoW.bytes.take _, by have := hgoW.cap; simp only at this ⊢; rw [HTL.out]; have := HR.out; omega⟩
              have hz3 := hb3.size
              clear hW3 hXi hbi hbi2 hownI hf3 x0 x1 x2 y0 y1 y2 hcut
              obtain ⟨x0, x1, x2, y0, y1, y2⟩ := hX3.cells
              go_wp2_with (at_builtin; go_loud (refine wpList_append_cells rfl _ _ 27 rfl W.heap.size 46 i0 _ 3 48 Try.underlying27 hi hz0 hz1 hz2 rfl (by decide) _ _ _ rfl (hown3.alloc _) _ 1 1 (fcs [⟨⟨f.name, tb, tb.length⟩, ag, cg⟩]) rfl rfl (rf_new W3 ⟨⟨f.name, tb, tb.length⟩, ag, cg⟩ _) (fcs_one _) (by have := HLEN.out; unfold maxLen; omega) (by have := HLEN.out; omega) (by simp; omega) ?_); intro v' w4 hown4 hgrow)
              have hb4 : Below W.heap.size W w4 := ((hbw.trans (hb3.mono hzw)).alloc (by omega) _).grown hgrow (by simp; omega) (fun k hk => (hown3.lt k hk).1)
              go_roundw
              case rel =>
                refine ⟨k + 1, ls ++ [⟨⟨f.name, tb, tb.length⟩, ag, cg⟩], by go_num, by omega, by simp [HLEN.out], HSN.out _ _ HLS.out HCR.out.symm, ?_, ?_, hb4⟩
                · rw [fcs_append, List.length_append]; exact hown4
                · intro g hg
                  rcases List.mem_append.1 hg with hg | hg
                  · exact hok g hg
                  · simp only [List.mem_singleton] at hg; subst hg; exact hg3
              case measure => simp [intOf] <;> omega
            · have hm0 : m = N.toNat := by rw [hM.out]; unfold clampK; rw [if_neg hN]; omega
              obtain ⟨q, rfl⟩ : ∃ q : Nat, N = q := ⟨N.toNat, by omega⟩
              have hcut : ∀ X, (Instr.sliceAt 32 (.slice ag f.b.length cg) none (some (.int .i64 ((f.safe : Int) + (q : Int)))) none).run Try.prog X = .ok (.slice ag tb.length cg) X := fun X => by
                rw [HTL.out, hm0]
                exact run_cut_hi X _ _ iu ag f.b.length cg .i64 (f.safe + q) Try.underlying32 hiu (by have := hgoW.cap; simp only at this; omega)
              have HR := Lib.hid hr
              clear hm0 hM
              have hcg : f.b.length ≤ cg := hgoW.cap
              go_upto_region 17 with fail
              go_upto_region 18 with fail
              clear hr hsub hsf hcg
              go_upto_region 19 with fail
              refine wp_name (fun W3 hW3 => ?_)
              have hX3 : B3 W3 wo.heap.size 46 (.string f.name) (.slice ag tb.length cg) (.int .i64 tb.length) := by rw [hW3.out]; exact (hXi.set1 _).set2 _
              have hf3 : Fr (isR wo.heap.size) wi W3 := by rw [hW3.out]; exact (fr_set _).again (fr_set _)
              have hown3 := own_fr30 hownI hf3 (fun k hk e => by have := (hlwr k hk).2; simp only [isR] at e; omega)
              have hb3 : Below wo.heap.size wo W3 := by rw [hW3.out]; exact below_set (below_set hbi2 (by simp only; omega) _) (by simp only; omega) _
              have hg3 : RFOk W ⟨⟨f.name, tb, tb.length⟩, ag, cg⟩ := ⟨by rw [HTB.out]; exact hgoW.bytes.take _, by have := hgoW.cap; simp only at this ⊢; rw [HTL.out]; have := HR.out; omega⟩
              have hz3 := hb3.size
              clear hW3 hXi hbi hbi2 hownI hf3 x0 x1 x2 y0 y1 y2 hcut
              obtain ⟨x0, x1, x2, y0, y1, y2⟩ := hX3.cells
              go_wp2_with (at_builtin; go_loud (refine wpList_append_cells rfl _ _ 27 rfl W.heap.size 46 i0 _ 3 48 Try.underlying27 hi hz0 hz1 hz2 rfl (by decide) _ _ _ rfl (hown3.alloc _) _ 1 1 (fcs [⟨⟨f.name, tb, tb.length⟩, ag, cg⟩]) rfl rfl (rf_new W3 ⟨⟨f.name, tb, tb.length⟩, ag, cg⟩ _) (fcs_one _) (by have := HLEN.out; unfold maxLen; omega) (by have := HLEN.out; omega) (by simp; omega) ?_); intro v' w4 hown4 hgrow)
              have hb4 : Below W.heap.size W w4 := ((hbw.trans (hb3.mono hzw)).alloc (by omega) _).grown hgrow (by simp; omega) (fun k hk => (hown3.lt k hk).1)
              go_roundw
              case rel =>
                refine ⟨k + 1, ls ++ [⟨⟨f.name, tb, tb.length⟩, ag, cg⟩], by go_num, by omega, by simp [HLEN.out], HSN.out _ _ HLS.out HCR.out.symm, ?_, ?_, hb4⟩
                · rw [fcs_append, List.length_append]; exact hown4
                · intro g hg
                  rcases List.mem_append.1 hg with hg | hg
                  · exact hok g hg
                  · simp only [List.mem_singleton] at hg; subst hg; exact hg3
              case measure => simp [intOf] <;> omega
    · have hke : k = l.length := by omega
      subst hke
      rw [List.take_of_length_le (by simp)] at HLS
      obtain ⟨a2, c2, rfl, hin2, hc2⟩ := RFsIn.own hown (fun g hg => (hok g hg).kept hbw)
      replace hZ := hZ.below hbw
      go_wp2_with (refine wpList_store_row rfl 29 _ _ rfl (w.heap.size + 1) #[.slice a2 ls.length c2, .int .i64 0, .bool false] rfl rfl 29 _ hZ (by kernel_rfl) rfl (by kernel_rfl) ?_)
      refine ret_cell30 6 29 29 (w.heap.size + 1) _ _ rfl rfl (hZ.row _ _ _) Try.underlying29 rfl (by kernel_rfl) rfl ?_
      refine ⟨a2, ls, c2, rfl, ?_, hc2, HLS.out, below_row (below2 hb0 hbw) (Nat.le_succ _) _⟩
      exact hin2.fr (T := isR (w.heap.size + 1)) (fr_row _ _ _) (fun k hk => by subst hk; exact ⟨hZ.noByte ⟨trivial, trivial, trivial⟩, hZ.noStr ⟨trivial, trivial, trivial⟩⟩)
end Go.Proofs.Ytbkelbdeodbhcaa
