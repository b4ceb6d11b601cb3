/- The delta laws: made. Conditions: as in the text. -/
import Derived.Test.YtcijajjngmmbeaaGreatRefR
set_option linter.unusedSimpArgs false
set_option linter.unusedVariables false
set_option linter.unnecessarySimpa false
namespace Go.Proofs.YtcijajjngmmbeaaGreat
open Go.RowKit

theorem results_tmp_cell {fn : Func} {p u : Tmp} {ty : TypeId} (h : fn.results = #[.tmp u, .cell p ty]) (tmps : Array Value) (P : Program) (w : World) :
    (results fn tmps).run P w =
      ((asAddr (tmps.getD p undef)).run P w).andThen fun a w₁ => ((loadVar ty a).run P w₁).andThen fun x w₂ => .ok (.tuple #[tmps.getD u undef, x]) w₂ := by
  simp only [results, h]
  simp [Sem.run_bind, Result.andThen]
theorem ret_tmp_cell {P : Program} {fn : Func} {R : Ending → World → Prop} {a : Act} {w : World} (u p : Tmp) (ty t : TypeId) (g : Nat) (c : Array Value) (d : TypeDesc) (v : Value) (hr : fn.results = #[.tmp u, .cell p ty])
    (hp : a.tmps.getD p undef = .pointer (some ⟨g, 0, none⟩)) (hv : a.tmps.getD u undef = v) (hg : w.heap[g]? = some (.cells c t (0, 0))) (hu : P.underlying ty = some d) (hd : d.isRow = true) (hi : (P.info? ty).map (·.size) = some c.size)
    (hde : a.defers = []) (hR : R (.returned (.tuple #[v, .agg c])) w) : bodyPost P fn R .ret a w := by
  have h1 : w.rangeAt g 0 c.toList := fun j v hv => by
    rw [Nat.zero_add]
    simp only [World.cell?, hg]
    simpa using hv
  have h2 := run_loadVar_mid (P := P) w g 0 ty c.toList d h1 hu hd (by simpa using hi)
  refine bodyPost_ret ?_ hde hR
  rw [results_tmp_cell hr, hp, hv]
  simp [asAddr, h2, Result.andThen]
/-- a map made of events, and the reference's -/
structure MadeIn (w : World) (m : Nat) (b : MB) (s : MS) (y : RMIt) (l : List Ev) (base : Nat) : Prop where
  map : MpIn w m b s
  inv : MInv s
  ref : RMIn w y
  rel : Rel s y.rm
  good : RMGood y.rm l.length
  ctx : s.ctx.length ≤ l.length
  dead : s.dead.length ≤ 64 * l.length
  low : ∀ k, foot b s.A k → base ≤ k
  merged : ∃ n f, Merged MS.empty l s n f
def RetMade (l : List Ev) (w : World) (e : Ending) (w' : World) : Prop := ∃ m b s y, e = .returned (.tuple #[.pointer (some ⟨m, 0, none⟩), rmVal y]) ∧ MadeIn w' m b s y l w.heap.size ∧ Below w.heap.size w w'
theorem MpIn.set3 {w : World} {m R : Nat} {b : MB} {s : MS} (h : MpIn w m b s) (hR : Sl3 w R) (hRf : ¬ foot b s.A R) (cs : Array Value) : MpIn (w.setRow R cs) m b s := by
  have hk : ∀ k, k ≠ R → (w.setRow R cs).heap[k]? = w.heap[k]? := fun k hk => heap_setRow_other _ _ _ _ (fun e => hk e.symm)
  have hm : m ≠ R := fun e => by
    obtain ⟨a, n, c, a2, n2, c2, a3, n3, c3, t, f, hh⟩ := hR
    have := h.cell
    rw [e, hh] at this
    simp at this
  have hv : b.v ≠ R := fun e => by
    obtain ⟨a, n, c, a2, n2, c2, a3, n3, c3, t, f, hh⟩ := hR
    have := h.vec.cell
    rw [e, hh] at this
    simp at this
  have hf : ∀ k, foot b s.A k → k ≠ R := fun k hk e => hRf (e ▸ hk)
  exact ⟨(hk m hm).trans h.cell, h.vec.block (hk _ hv) (hk _ (hf _ (foot_vb b _))), h.kept.block (hk _ (hf _ (foot_kb b _))), fun x hx => (h.overs x hx).not3 hR hk, h.dead.block (hk _ (hf _ (foot_db b _))), h.alive.block (hk _ (hf _ (foot_ab b _))), fun p hp => (h.inner p hp).block (hk _ (hf _ (foot_in b hp))), h.some, h.keys, h.nodup⟩

set_option maxRecDepth 100000 in
set_option maxHeartbeats 4000000 in
theorem made_any (a : Option Addr) (cap : Nat) (ls : List EvIt) (w : World) (hl : ls.length ≤ 4095) (hE : EvsIn w a ls) (hsm : EvsSmall ls) :
    Calls Tryz.prog 30 #[.slice a ls.length cap] w (RetMade (evsOf ls) w) := by
  have HN := Lib.hid (fun X => mNew_any X)
  have HFo := Lib.hid (fun (X : World) (hE : EvsIn X a ls) => rFold_any a cap ls X hl hE hsm)
  have HSM := Lib.hid hsm
  go_enter Tryz.func30, Tryz.ntmps30
  go_upto_region 2 with (go_at_call 16; (with_reducible refine (HN.out _).mono ?_); rintro x w1 ⟨m, b, rfl, hm, hb1, hlo, hfo⟩)
  have hb01 : Below w.heap.size w (w.alloc (.cells #[.slice none 0 0, .slice none 0 0, .slice none 0 0] 45)) := (Below.refl _ _).alloc (Nat.le_refl _) _
  have hsz1 : (w.alloc (.cells #[.slice none 0 0, .slice none 0 0, .slice none 0 0] 45)).heap.size = w.heap.size + 1 := by simp
  have hZ : w1.heap[w.heap.size]? = some (.cells #[.slice none 0 0, .slice none 0 0, .slice none 0 0] 45 (0, 0)) := (hb1.block _ (by simp)).trans (heap_last0 _ _)
  have hbw1 : Below w.heap.size w w1 := hb01.trans (hb1.mono (by simp))
  have hfo1 : ∀ k, foot b [] k → w.heap.size + 1 ≤ k := fun k hk => by have := hfo k hk; omega
  clear hb01 hsz1 hb1 hfo hlo HN
  go_wp2
  go_loopw [5] (fun i wr => ∃ (k : Nat) (s : MS) (n : Nat) (f : Int), i = .int .i64 k ∧ k ≤ ls.length ∧ MpIn wr m b s ∧ Merged MS.empty ((evsOf ls).take k) s n f ∧ (∀ q, foot b s.A q → w.heap.size + 1 ≤ q) ∧ wr.heap[w.heap.size]? = some (.cells #[.slice none 0 0, .slice none 0 0, .slice none 0 0] 45 (0, 0)) ∧ Below w.heap.size w wr) (fun i _ => ls.length - (intOf i).toNat)
  case atStart => exact ⟨0, MS.empty, 0, 0, rfl, Nat.zero_le _, hm, Merged.nil, hfo1, hZ, hbw1⟩
  case round =>
    obtain ⟨k, s, n, f, rfl, hk, hmr, hM, hfr, hZr, hbw⟩ := hrel
    obtain ⟨hi, g1, g2, g3⟩ := hM.facts MInv.empty
    rw [List.length_take, evsOf_length] at g1 g2 g3
    have hMe : MS.empty.ctx.length = 0 ∧ MS.empty.dead.length = 0 := ⟨rfl, rfl⟩
    have HM := Lib.hid hM
    by_cases hlt : k < ls.length
    · obtain ⟨A, off, rfl, hra, hda⟩ := (hE.kept hbw).at hlt
      have r1 := hra k hlt
      have hse := HSM.out _ (List.getElem_mem hlt)
      have HT : Hid ((evsOf ls).take (k + 1) = (evsOf ls).take k ++ [ls[k].1]) := by
        unfold Hid
        rw [List.take_add_one, List.getElem?_eq_getElem (by rw [evsOf_length]; exact hlt), evsOf_at hlt]
        rfl
      have HLT := Lib.hid hlt
      have hkl : k ≤ 4095 := by omega
      generalize ls[k] = x at *
      obtain ⟨e, ax, cx⟩ := x
      simp only [itEv] at r1
      simp only at hda hse HT
      have hn0 : ax = none → e.over = [] := fun hn => by rcases hda with h | ⟨A, off, h3, _⟩; exact h; rw [hn] at h3; cases h3
      have HAp := Lib.hid (mApply_any e ax cx wr hmr hi hse hda hn0 (by omega) (by omega))
      have HB := Lib.hid (And.intro hbw (And.intro hfr (And.intro hZr hmr)))
      clear hra hse hda hM hmr hfr hZr hi g1 g2 g3 hbw hn0
      go_wp2_with (first
        | ((with_reducible refine wpList_load_evo _ A (off + k * 19) e ax cx r1 ?_ rfl ?_); exact rfl)
        | (go_at_call 17; (with_reducible refine HAp.out.mono ?_); rintro v w2 ⟨s2, rfl, hm2, hf2, hft2, hap2⟩))
      have HZ : Hid (MpIn w2 m b s2 ∧ Merged MS.empty ((evsOf ls).take (k + 1)) s2 (if apOk s e = true then n + 1 else n) (if f = 0 then apErr s e else f) ∧ (∀ q, foot b s2.A q → w.heap.size + 1 ≤ q) ∧ w2.heap[w.heap.size]? = some (.cells #[.slice none 0 0, .slice none 0 0, .slice none 0 0] 45 (0, 0)) ∧ Below w.heap.size w w2) := by
        obtain ⟨hbw, hfr, hZr, hmr⟩ := HB.out
        refine ⟨hm2, by rw [HT.out]; exact Merged.snoc HM.out hap2, fun q hq => ?_, (hf2.block _ (lt_of_block hZr) (fun hq => by have := hfr _ hq; omega)).trans hZr, hbw.trans (hf2.below hbw.size (fun q hq => by have := hfr q hq; omega))⟩
        rcases hft2 q hq with h3 | h3
        · exact hfr q h3
        · have := lt_of_block hZr; omega
      clear hm2 hf2 hft2 hap2 HAp r1
      go_roundw
      case rel => exact ⟨k + 1, s2, _, _, by go_num, HLT.out, HZ.out.1, HZ.out.2.1, HZ.out.2.2.1, HZ.out.2.2.2.1, HZ.out.2.2.2.2⟩
      case measure => have := HLT.out; simp [intOf] <;> omega
    · obtain rfl : k = ls.length := by omega
      have hM2 : Merged MS.empty (evsOf ls) s n f := by
        have := HM.out
        rwa [List.take_of_length_le (by rw [evsOf_length]; exact Nat.le_refl _)] at this
      have HFo1 := Lib.hid (HFo.out wr (hE.kept hbw))
      have HB := Lib.hid (And.intro hbw (And.intro hfr (And.intro hmr (And.intro hi hM2))))
      have hZlt := lt_of_block hZr
      clear hM hmr hfr hi hM2 HM g1 g2 g3
      go_upto_region 6 with fail
      refine wp_name (fun W hW => ?_)
      have hWe : W = wr := hW.out
      subst hWe
      clear hW
      go_wp2_with (first
        | (go_at_call 18; (with_reducible refine HFo1.out.mono ?_); rintro v w3 ⟨y, rfl, hIn, hy, hb3⟩; have hZ3 := (hb3.block _ hZlt).trans hZr)
        | (refine wpList_store_row rfl 45 _ _ rfl w.heap.size #[.slice y.ac y.ctx.length y.cc, .slice y.aK y.K.length y.cK, .slice y.ad y.dead.length y.cd] rfl rfl 45 _ hZ3 (by kernel_rfl) rfl (by kernel_rfl) ?_))
      refine ret_tmp_cell 2 3 45 45 w.heap.size #[.slice y.ac y.ctx.length y.cc, .slice y.aK y.K.length y.cK, .slice y.ad y.dead.length y.cd] _ _ rfl rfl rfl (setRow_heap _ _ _ _ _ _ hZ3) Tryz.underlying45 rfl (by kernel_rfl) rfl ?_
      obtain ⟨hbw, hfr, hmr, hi, hM2⟩ := HB.out
      have hS3 : Sl3 w3 w.heap.size := ⟨_, _, _, _, _, _, _, _, _, _, _, hZ3⟩
      obtain ⟨_, g1, g2, _⟩ := hM2.facts MInv.empty
      rw [hMe.1] at g1
      rw [hMe.2] at g2
      have hgood := RMGood.empty.fold (evsOf ls)
      rw [← hy, Nat.zero_add] at hgood
      have hrel := hM2.rel Rel.empty MInv.empty
      rw [← hy] at hrel
      have hbS := below_setRow (hbw.trans (hb3.mono hbw.size)) (Nat.le_refl _) (rmRow y)
      exact ⟨m, b, s, y, rfl, ⟨(hmr.kept_w hb3).set3 hS3 (fun hq => by have := hfr _ hq; omega) _, hi, RMIn.not3 (R := w.heap.size) hIn hS3 (fun k9 hk9 => heap_setRow_other _ _ _ _ (fun e9 => hk9 e9.symm)), hrel, hgood, by omega, by omega, fun q hq => by have := hfr q hq; omega, ⟨n, f, hM2⟩⟩, hbS⟩
end Go.Proofs.YtcijajjngmmbeaaGreat
