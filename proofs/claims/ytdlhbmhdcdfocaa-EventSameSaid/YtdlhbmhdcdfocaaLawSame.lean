/- The law EventSame, walked. Conditions: none. -/
import Derived.Test.YtdlhbmhdcdfocaaSameEvB
import Derived.Test.YtdlhbmhdcdfocaaEvClone
import Derived.Test.YtdlhbmhdcdfocaaInj
import Derived.Test.YtdlhbmhdcdfocaaOpen
import Derived.Laws.AppendOwnNone
set_option linter.unusedSimpArgs false
set_option linter.unusedVariables false
set_option linter.unnecessarySimpa false
namespace Go.Proofs.Ytdlhbmhdcdfocaa
open Go.RowKit

theorem light_tiny {e : Ev} (h : light e = true) : EvTiny e := by
  unfold light at h
  simp only [Bool.and_eq_true, decide_eq_true_eq] at h
  obtain ⟨h1, h2, h3, h4, h5⟩ := h
  exact ⟨by omega, by omega, by omega, by omega⟩
theorem evBytes_same {e f : Ev} (h1 : evErr e = 0) (h2 : evErr f = 0) : decide (evBytes e = evBytes f) = decide (e = f) := by
  unfold evErr at h1 h2
  unfold evBytes
  split at h1
  · rename_i g1
    split at h2
    · rename_i g2
      rw [if_pos g1, if_pos g2, Bool.eq_iff_iff, decide_eq_true_eq, decide_eq_true_eq]
      exact ⟨evB_inj g1 g2, fun h => by rw [h]⟩
    · cases h2
  · cases h1

/-- dots in memory of the call's own, in a block from B on and below T: each may be written -/
def CanSet (w : World) (B T : Nat) (a : Option Addr) (n : Nat) : Prop := n = 0 ∨ ∃ A off, a = some ⟨A, off, none⟩ ∧ B ≤ A ∧ A < T ∧ T ≤ w.heap.size ∧ ∀ i, i < n → (∃ v, w.cell? ⟨A, off + i * 3 + 2, none⟩ = some v) ∧ w.frozen? ⟨A, off + i * 3 + 2, none⟩ = false
theorem CanSet.kept {w w' : World} {B T : Nat} {a : Option Addr} {n : Nat} (h : CanSet w B T a n) (hb : Below w.heap.size w w') : CanSet w' B T a n := by
  rcases h with h | ⟨A, off, ha, hB, hA, hT, hc⟩
  · exact Or.inl h
  · exact Or.inr ⟨A, off, ha, hB, hA, Nat.le_trans hT hb.size, fun i hi => ⟨⟨_, Ytdlhbmhdcdfocaa.kept hb (hc i hi).1.choose_spec⟩, (hb.frozen (p := ⟨A, off + i * 3 + 2, none⟩) (Nat.lt_of_lt_of_le hA hT)).trans (hc i hi).2⟩⟩
theorem own_can {w : World} {base : Nat} {a : Option Addr} {cap : Nat} {l : List Dot} (h : w.ownsRow base 25 3 (.slice a l.length cap) l.length (dotVals l)) : DotsIn w a l ∧ CanSet w base w.heap.size a l.length := by
  obtain ⟨a', cap', he, hd⟩ := own_dots h
  cases he
  refine ⟨hd, ?_⟩
  rcases h.2 with ⟨_, h0⟩ | ⟨g, cap2, cur, he, hB, hg, hn, _, hsz, htk⟩
  · exact Or.inl h0
  · cases he
    refine Or.inr ⟨g, 0, rfl, hB, (Array.getElem?_eq_some_iff.1 hg).1, Nat.le_refl _, fun i hi => ⟨?_, ?_⟩⟩
    · rcases hd with h0 | ⟨A, off, he, hd⟩
      · rw [h0] at hi; simp at hi
      · cases he
        exact ⟨_, hd.seq i hi⟩
    · simp [World.frozen?, hg]
theorem own_from {w : World} {base : Nat} {a : Option Addr} {cap n : Nat} {l : List Dot} (h : w.ownsRow base 25 3 (.slice a n cap) n (dotVals l)) : ∀ A off, a = some ⟨A, off, none⟩ → base ≤ A := by
  intro A off ha
  rcases h.2 with ⟨h0, _⟩ | ⟨g, cap2, cur, he, hB, _⟩
  · rw [ha] at h0; cases h0
  · rw [ha] at he; cases he; exact hB
theorem DotsIn.setOther {w : World} {a : Option Addr} {l : List Dot} (h : DotsIn w a l) {p : Addr} (v : Value) (hp : ∀ A off, a = some ⟨A, off, none⟩ → l ≠ [] → A ≠ p.block) : DotsIn (w.setCell p v) a l := by
  rcases h with h | ⟨A, off, ha, hd⟩
  · exact Or.inl h
  · by_cases h0 : l = []
    · exact Or.inl h0
    · have hA := hp A off ha h0
      have hq : ∀ o, p ≠ ⟨A, o, none⟩ := fun o e => hA (by rw [e])
      exact Or.inr ⟨A, off, ha, ⟨fun i hi => by rw [World.cell?_setCell_other _ _ _ _ (hq _)]; exact hd.dev i hi, fun i hi => by rw [World.cell?_setCell_other _ _ _ _ (hq _)]; exact hd.inc i hi, fun i hi => by rw [World.cell?_setCell_other _ _ _ _ (hq _)]; exact hd.seq i hi⟩⟩
theorem CanSet.set {w : World} {B T : Nat} {a : Option Addr} {n : Nat} (h : CanSet w B T a n) (p : Addr) (v : Value) : CanSet (w.setCell p v) B T a n := by
  rcases h with h | ⟨A, off, ha, hB, hA, hT, hc⟩
  · exact Or.inl h
  · exact Or.inr ⟨A, off, ha, hB, hA, by simpa using hT, fun i hi => ⟨by
      obtain ⟨u, hu⟩ := (hc i hi).1
      by_cases e : p = ⟨A, off + i * 3 + 2, none⟩
      · subst e; exact ⟨_, World.cell?_setCell_same _ _ _ hu⟩
      · exact ⟨u, by rw [World.cell?_setCell_other _ _ _ _ e]; exact hu⟩, by rw [World.frozen?_setCell]; exact (hc i hi).2⟩⟩
/-- what stays through the law's two loops: w the world that came in, box cells in blocks w.heap.size and T, l's dots in a, in c's memory and in the copy's -/
structure SameInv (w wr : World) (B T : Nat) (a ac aw : Option Addr) (ca cc : Nat) (l : List Dot) : Prop where
  below : Below w.heap.size w wr
  boxA : wr.cell? ⟨w.heap.size, 18, none⟩ = some (.slice a l.length ca)
  boxC : wr.cell? ⟨T, 18, none⟩ = some (.slice ac l.length cc)
  dotsA : DotsIn wr a l
  dotsW : DotsIn wr aw l
  can : CanSet wr B T ac l.length
theorem SameInv.kept {w wr w2 : World} {B T : Nat} {a ac aw : Option Addr} {ca cc : Nat} {l : List Dot} (h : SameInv w wr B T a ac aw ca cc l) (hb : Below wr.heap.size wr w2) : SameInv w w2 B T a ac aw ca cc l :=
  ⟨below2 h.below hb, Ytdlhbmhdcdfocaa.kept hb h.boxA, Ytdlhbmhdcdfocaa.kept hb h.boxC, h.dotsA.kept hb, h.dotsW.kept hb, h.can.kept hb⟩
theorem SameInv.set {w wr : World} {B T : Nat} {a ac aw : Option Addr} {ca cc : Nat} {l : List Dot} (h : SameInv w wr B T a ac aw ca cc l) {A o : Nat} (v : Value) (hB : B ≤ A) (hT : A < T) (hw : w.heap.size < B)
    (ha : ∀ A off, a = some ⟨A, off, none⟩ → l ≠ [] → A < w.heap.size) (haw : ∀ A off, aw = some ⟨A, off, none⟩ → T ≤ A) : SameInv w (wr.setCell ⟨A, o, none⟩ v) B T a ac aw ca cc l where
  below := h.below.setCell (by simp only; omega) _
  boxA := by rw [World.cell?_setCell_other _ _ _ _ (fun e => by simp only [Addr.mk.injEq] at e; omega)]; exact h.boxA
  boxC := by rw [World.cell?_setCell_other _ _ _ _ (fun e => by simp only [Addr.mk.injEq] at e; omega)]; exact h.boxC
  dotsA := h.dotsA.setOther v (fun A' off h1 h2 => by have := ha A' off h1 h2; simp only; omega)
  dotsW := h.dotsW.setOther v (fun A' off h1 _ => by have := haw A' off h1; simp only; omega)
  can := h.can.set _ _

set_option maxRecDepth 100000 in
set_option maxHeartbeats 4000000 in
theorem lawSame_any (e f : Ev) (a b : Option Addr) (ca cb : Nat) (w : World) (he : EvIn w a ca e) (hf : EvIn w b cb f) :
    Calls Try.prog 4 #[evVal e a ca, evVal f b cb] w fun x w' => x = .returned (.bool true) ∧ Below w.heap.size w w' := by
  have HL0 := fun (W : World) => Light_any e a ca W he.over he.name he.domain he.path he.value
  have HM0 := fun (W : World) => Light_any f b cb W hf.over hf.name hf.domain hf.path hf.value
  have HA := Lib.hid awake_any
  go_enter Try.func4, Try.ntmps4
  go_upto_region 1 with fail
  refine wp_name (fun W hW => ?_)
  have hbt : Below w.heap.size w W := by rw [hW.out]; go_grown
  have hz : w.heap.size + 2 ≤ W.heap.size := by rw [hW.out]; simp
  have hR : W.rangeAt w.heap.size 0 (evCells e a ca) := by rw [hW.out]; exact World.rangeAt_alloc (evCells_box e a ca w _) _
  have hS : W.rangeAt (w.heap.size + 1) 0 (evCells f b cb) := by
    have h := evCells_box f b cb (w.alloc (Obj.cells #[.int .i64 e.dot.a.dev, .int .i64 e.dot.a.inc, .int .i64 e.dot.seq, .int .i64 e.stamp.wall, .int .i64 e.stamp.count, .int .i64 e.stamp.dev, .int .i64 e.kind, .string e.key.name, .string e.key.domain, .string e.key.path, .string e.ck.value, .bool e.ck.hostOnly, .bool e.ck.secure, .bool e.ck.httpOnly, .bool e.ck.persistent, .int .i64 e.ck.expiry, .int .i64 e.ck.creation, .int .i64 e.ck.access, .slice a e.over.length ca] 34)) 34
    rw [hW.out]; simpa using h
  have hda := he.dots.kept hbt
  have hdb := hf.dots.kept hbt
  have hna := he.nil
  have hold : ∀ A off, a = some ⟨A, off, none⟩ → e.over ≠ [] → A < w.heap.size := he.old
  have holf : ∀ A off, b = some ⟨A, off, none⟩ → f.over ≠ [] → A < w.heap.size := hf.old
  clear hW he hf
  cases hle : light e with
  | false =>
    rw [hle] at HL0
    have HL := Lib.hid HL0
    clear HL0 HM0 hle
    go_wp2_with (first
      | ((with_reducible refine wpList_load_ev _ w.heap.size e a ca hR ?_ rfl ?_); exact rfl)
      | (go_at_call 5; (with_reducible refine (HL.out _).mono ?_); rintro x w1 ⟨rfl, hb⟩; replace hbt := below2 hbt hb)
      | (go_at_call 6; (with_reducible refine (HA.out _).mono ?_); rintro x w2 ⟨rfl, hb2⟩; replace hbt := below2 hbt hb2))
    go_ret
    exact ⟨rfl, hbt⟩
  | true =>
  cases hlf : light f with
  | false =>
    rw [hle] at HL0
    rw [hlf] at HM0
    have HL := Lib.hid HL0
    have HM := Lib.hid HM0
    clear HL0 HM0 hle hlf
    go_wp2_with (first
      | ((with_reducible refine wpList_load_ev _ w.heap.size e a ca hR ?_ rfl ?_); exact rfl)
      | ((with_reducible refine wpList_load_ev _ (w.heap.size + 1) f b cb hS ?_ rfl ?_); exact rfl)
      | (go_at_call 5; (with_reducible refine (HL.out _).mono ?_); rintro x w1 ⟨rfl, hb⟩; replace hbt := below2 hbt hb; replace hR := rangeAt_kept hR hb; replace hS := rangeAt_kept hS hb)
      | (go_at_call 5; (with_reducible refine (HM.out _).mono ?_); rintro x w1 ⟨rfl, hb⟩; replace hbt := below2 hbt hb)
      | (go_at_call 6; (with_reducible refine (HA.out _).mono ?_); rintro x w2 ⟨rfl, hb2⟩; replace hbt := below2 hbt hb2))
    go_ret
    exact ⟨rfl, hbt⟩
  | true =>
    have hse := light_small hle
    have hsf := light_small hlf
    have hte := light_tiny hle
    have htf := light_tiny hlf
    rw [hle] at HL0
    rw [hlf] at HM0
    have HL := Lib.hid HL0
    have HM := Lib.hid HM0
    have HS := Lib.hid (fun (W : World) (h1 : DotsIn W a e.over) (h2 : DotsIn W b f.over) => rSameEv_any e f a b ca cb W hse.over hsf.over h1 h2)
    have HT := Lib.hid (fun (W : World) (h1 : DotsIn W a e.over) (h2 : DotsIn W b f.over) => sameEv_any e f a b ca cb W hse.over hsf.over h1 h2)
    have HC := Lib.hid (fun (W : World) (h1 : DotsIn W a e.over) => evClone_any e a ca W hse.over (fun h => (hna h).1) h1)
    have HU0 := fun (c : Option Addr) (cc : Nat) (W : World) (h1 : DotsIn W c e.over) (h2 : DotsIn W a e.over) => sameEv_any e e c a cc ca W hse.over hse.over h1 h2
    simp only [decide_true] at HU0
    have HU := Lib.hid HU0
    have HX := Lib.hid (fun (W : World) (h1 : DotsIn W a e.over) (h2 : ∀ A off, a = some ⟨A, off, none⟩ → e.over ≠ [] → A < W.heap.size) => Bytes_any e a ca W hse hte h1 h2)
    have HY := Lib.hid (fun (W : World) (h1 : DotsIn W b f.over) (h2 : ∀ A off, b = some ⟨A, off, none⟩ → f.over ≠ [] → A < W.heap.size) => Bytes_any f b cb W hsf htf h1 h2)
    have HZ := Lib.hid (fun (W : World) (x y : Option Addr) (cx cy : Nat) (h1 : BytesIn W x (evBytes e)) (h2 : BytesIn W y (evBytes f)) (k1 : (evBytes e).length ≤ 100000000) (k2 : (evBytes f).length ≤ 100000000) => rSameBytes_any x y cx cy (evBytes e) (evBytes f) W (by omega) (by omega) h1 h2)
    have hsm := evBytes_same (e := e) (f := f)
    have HQ := Lib.hid hsm
    have hlen := hse.over
    have HN0 := Lib.hid hna
    have HOLD := Lib.hid hold
    clear HL0 HM0 HU0 hle hlf hse hsf hte htf hna hsm
    generalize decide (e = f) = s at HS HT HQ
    have hss : (s != s) = false := by simp
    go_upto_region 4 with (first
      | ((with_reducible refine wpList_load_ev _ w.heap.size e a ca hR ?_ rfl ?_); exact rfl)
      | ((with_reducible refine wpList_load_ev _ (w.heap.size + 1) f b cb hS ?_ rfl ?_); exact rfl)
      | (go_at_call 5; (with_reducible refine (HL.out _).mono ?_); rintro x w1 ⟨rfl, hb⟩; replace hz := Nat.le_trans hz hb.size; replace hbt := below2 hbt hb; replace hR := rangeAt_kept hR hb; replace hS := rangeAt_kept hS hb; replace hda := hda.kept hb; replace hdb := hdb.kept hb; clear hb)
      | (go_at_call 5; (with_reducible refine (HM.out _).mono ?_); rintro x w1 ⟨rfl, hb⟩; replace hz := Nat.le_trans hz hb.size; replace hbt := below2 hbt hb; replace hR := rangeAt_kept hR hb; replace hS := rangeAt_kept hS hb; replace hda := hda.kept hb; replace hdb := hdb.kept hb; clear hb)
      | (go_at_call 10; (with_reducible refine (HS.out _ hda hdb).mono ?_); rintro x w1 ⟨rfl, hb⟩; replace hz := Nat.le_trans hz hb.size; replace hbt := below2 hbt hb; replace hR := rangeAt_kept hR hb; replace hS := rangeAt_kept hS hb; replace hda := hda.kept hb; replace hdb := hdb.kept hb; clear hb))
    refine wp_name (fun W3 hW3 => ?_)
    rw [← hW3.out] at hz hbt hR hS hda hdb
    clear hW3
    have hzB := hz
    go_upto_region 5 with (first
      | ((with_reducible refine wpList_load_ev _ w.heap.size e a ca hR ?_ rfl ?_); exact rfl)
      | (go_at_call 11; (with_reducible refine (HC.out _ hda).mono ?_); rintro x wc ⟨ac, cc, rfl, hown, hb⟩; have hdc := (own_can hown).1; have hcan := (own_can hown).2; have hz3 := hb.size; replace hz := Nat.le_trans hz hb.size; replace hbt := below2 hbt hb; replace hR := rangeAt_kept hR hb; replace hS := rangeAt_kept hS hb; replace hda := hda.kept hb; replace hdb := hdb.kept hb; clear hb hown)
      | (refine wpList_store_new 34 _ _ _ (evCells e ac cc).toArray rfl rfl (by kernel_rfl) rfl (by kernel_rfl) ?_))
    refine wp_name (fun W4 hW4 => ?_)
    have hRc : W4.rangeAt wc.heap.size 0 (evCells e ac cc) := by rw [hW4.out]; exact evCells_box e ac cc wc _
    have hb4 : Below wc.heap.size wc W4 := by rw [hW4.out]; exact (Below.refl _ _).alloc (Nat.le_refl _) _
    have hz4 : wc.heap.size < W4.heap.size := by rw [hW4.out]; simp
    replace hbt := below2 hbt hb4
    replace hR := rangeAt_kept hR hb4
    replace hS := rangeAt_kept hS hb4
    replace hda := hda.kept hb4
    replace hdb := hdb.kept hb4
    replace hdc := hdc.kept hb4
    replace hcan := hcan.kept hb4
    replace hz := Nat.le_trans hz hb4.size
    clear hW4 hb4
    go_upto_region 9 with (first
      | ((with_reducible refine wpList_load_ev _ w.heap.size e a ca hR ?_ rfl ?_); exact rfl)
      | ((with_reducible refine wpList_load_ev _ (w.heap.size + 1) f b cb hS ?_ rfl ?_); exact rfl)
      | ((with_reducible refine wpList_load_ev _ wc.heap.size e ac cc hRc ?_ rfl ?_); exact rfl)
      | (go_at_call 12; (with_reducible refine (HT.out _ hda hdb).mono ?_); rintro x w1 ⟨rfl, hb⟩; replace hz4 := Nat.lt_of_lt_of_le hz4 hb.size; replace hz := Nat.le_trans hz hb.size; replace hbt := below2 hbt hb; replace hR := rangeAt_kept hR hb; replace hS := rangeAt_kept hS hb; replace hda := hda.kept hb; replace hdb := hdb.kept hb; replace hRc := rangeAt_kept hRc hb; replace hdc := hdc.kept hb; replace hcan := hcan.kept hb; clear hb)
      | (go_at_call 12; (with_reducible refine (HU.out _ _ _ hdc hda).mono ?_); rintro x w1 ⟨rfl, hb⟩; replace hz4 := Nat.lt_of_lt_of_le hz4 hb.size; replace hz := Nat.le_trans hz hb.size; replace hbt := below2 hbt hb; replace hR := rangeAt_kept hR hb; replace hS := rangeAt_kept hS hb; replace hda := hda.kept hb; replace hdb := hdb.kept hb; replace hRc := rangeAt_kept hRc hb; replace hdc := hdc.kept hb; replace hcan := hcan.kept hb; clear hb)
      | (go_at_call 13; (with_reducible refine (HX.out _ hda (fun A off h1 h2 => Nat.lt_of_lt_of_le (hold A off h1 h2) (by omega))).mono ?_); rintro x w1 ⟨ax, cx, rfl, hx, hxl, hb⟩; replace hz4 := Nat.lt_of_lt_of_le hz4 hb.size; replace hz := Nat.le_trans hz hb.size; replace hbt := below2 hbt hb; replace hR := rangeAt_kept hR hb; replace hS := rangeAt_kept hS hb; replace hda := hda.kept hb; replace hdb := hdb.kept hb; replace hRc := rangeAt_kept hRc hb; replace hdc := hdc.kept hb; replace hcan := hcan.kept hb; clear hb)
      | (go_at_call 13; (with_reducible refine (HY.out _ hdb (fun A off h1 h2 => Nat.lt_of_lt_of_le (holf A off h1 h2) (by omega))).mono ?_); rintro x w1 ⟨ay, cy, rfl, hy, hyl, hb⟩; replace hz4 := Nat.lt_of_lt_of_le hz4 hb.size; replace hx := hx.kept hb; replace hz := Nat.le_trans hz hb.size; replace hbt := below2 hbt hb; replace hR := rangeAt_kept hR hb; replace hS := rangeAt_kept hS hb; replace hda := hda.kept hb; replace hdb := hdb.kept hb; replace hRc := rangeAt_kept hRc hb; replace hdc := hdc.kept hb; replace hcan := hcan.kept hb; clear hb))
    refine wp_name (fun W5 hW5 => ?_)
    rw [← hW5.out] at hz hz4 hbt hR hS hRc hda hdb hdc hcan hx hy
    clear hW5
    by_cases he0 : evErr e = 0
    · have hx0 : (evErr e == 0) = true := beq_iff_eq.2 he0
      by_cases hf0 : evErr f = 0
      · have hy0 : (evErr f == 0) = true := beq_iff_eq.2 hf0
        have hz0 := HZ.out W5 ax ay cx cy hx hy hxl hyl
        rw [HQ.out he0 hf0] at hz0
        have HZ0 := Lib.hid hz0
        clear hz0 he0 hf0
        go_upto_region 11 with (go_at_call 14; (with_reducible refine HZ0.out.mono ?_); rintro x w1 ⟨rfl, hb⟩; replace hz4 := Nat.lt_of_lt_of_le hz4 hb.size; replace hz := Nat.le_trans hz hb.size; replace hbt := below2 hbt hb; replace hR := rangeAt_kept hR hb; replace hS := rangeAt_kept hS hb; replace hda := hda.kept hb; replace hdb := hdb.kept hb; replace hRc := rangeAt_kept hRc hb; replace hdc := hdc.kept hb; replace hcan := hcan.kept hb; clear hb)
        refine wp_name (fun W6 hW6 => ?_)
        rw [← hW6.out] at hz hz4 hbt hR hRc hda hcan
        have qa := hR 18 _ rfl
        have qc := hRc 18 _ rfl
        rw [Nat.zero_add] at qa qc
        clear hW6 hR hS hRc hdb hdc HL HM HS HT HC HU HX HY HZ HQ hx hy hxl hyl hold holf hss
        obtain ⟨i0, hi, hz0, hz1, hz2⟩ := info_parts Try.infoDot
        cases a with
        | none =>
          obtain ⟨h0, hc0⟩ := HN0.out rfl
          have h00 : e.over.length = 0 := by rw [h0]; rfl
          rw [h00] at qa qc
          rw [hc0] at qa
          have qa' : ∀ o, (W6.alloc o).cell? ⟨w.heap.size, 18, none⟩ = some (.slice none 0 0) := fun o => kept ((Below.refl W6.heap.size W6).alloc (Nat.le_refl _) o) qa
          have qc' : ∀ o, (W6.alloc o).cell? ⟨wc.heap.size, 18, none⟩ = some (.slice ac 0 cc) := fun o => kept ((Below.refl W6.heap.size W6).alloc (Nat.le_refl _) o) qc
          have hown : (W6.alloc (Obj.cells #[] 25)).ownsRow W6.heap.size 25 3 (.slice (some ⟨W6.heap.size, 0, none⟩) 0 0) 0 [] := World.ownsRow_made _ _ _ (Nat.le_refl _) (by decide) rfl
          clear h0 h00 hda hcan
          go_wp2_with (at_builtin; refine wpList_append_own_none rfl _ _ 32 rfl W6.heap.size 25 i0 3 Try.underlying32 hi _ _ _ rfl hown rfl ?_)
          go_rounds 1
          have hb8 : Below w.heap.size w (W6.alloc (Obj.cells #[] 25)) := hbt.alloc hbt.size _
          go_loopw [13] (fun i wr => i = .int .i64 0 ∧ Below w.heap.size w wr) (fun _ _ => 0)
          case atStart => exact ⟨rfl, hb8⟩
          case round =>
            obtain ⟨rfl, hb9⟩ := hrel
            go_wp2_with (go_at_call 6; (with_reducible refine (HA.out _).mono ?_); rintro x w2 ⟨rfl, hb2⟩)
            go_ret
            exact ⟨rfl, below2 hb9 hb2⟩
        | some ad =>
          have hnews : ∀ j u, (dotVals e.over)[j]? = some u → W6.cell? (ad.add j) = some u := by
            rcases hda with h0 | ⟨A, off, h1, h2⟩
            · intro j u hj; rw [h0] at hj; simp [dotVals] at hj
            · obtain rfl : ad = ⟨A, off, none⟩ := by simpa using h1
              exact h2.news
          have HN : Hid (∀ j u, (dotVals e.over)[j]? = some u → (W6.alloc (Obj.cells #[] 25)).cell? (ad.add j) = some u) := fun j u hj => kept ((Below.refl _ _).alloc (Nat.le_refl _) _) (hnews j u hj)
          have qa' : ∀ o, (W6.alloc o).cell? ⟨w.heap.size, 18, none⟩ = some (.slice (some ad) e.over.length ca) := fun o => kept ((Below.refl W6.heap.size W6).alloc (Nat.le_refl _) o) qa
          have hown : (W6.alloc (Obj.cells #[] 25)).ownsRow W6.heap.size 25 3 (.slice (some ⟨W6.heap.size, 0, none⟩) 0 0) 0 [] := World.ownsRow_made _ _ _ (Nat.le_refl _) (by decide) rfl
          have hbv := dotVals_length e.over
          clear hnews
          go_upto_region 12 with (at_builtin; refine wpList_append_own _ rfl _ _ 32 rfl W6.heap.size 25 i0 (.agg #[.int .i64 0, .int .i64 0, .int .i64 0]) 3 24 Try.underlying32 hi hz0 hz1 hz2 rfl (by decide) _ _ _ rfl hown ad e.over.length ca (dotVals e.over) rfl hbv HN.out (dotVals_one e.over) (by unfold maxLen; omega) (by omega) (by simp) ?_; intro v' w7 hown7 hgrow _; rw [Nat.zero_add, List.nil_append] at hown7; obtain ⟨aw, cw, rfl, hdw⟩ := own_dots hown7)
          refine wp_name (fun W7 hW7 => ?_)
          have hb7 := ((Below.refl W6.heap.size W6).alloc (Nat.le_refl _) (Obj.cells #[] 25)).grown hgrow (by simp) (fun k hk => (hown.lt k hk).1)
          have haw := own_from hown7
          rw [← hW7.out] at hb7 hdw
          have HI0 : SameInv w W7 W3.heap.size wc.heap.size (some ad) ac aw ca cc e.over := ⟨below2 hbt hb7, kept hb7 qa, kept hb7 qc, hda.kept hb7, hdw, hcan.kept hb7⟩
          have haw2 : ∀ A off, aw = some ⟨A, off, none⟩ → wc.heap.size ≤ A := fun A off h => Nat.le_trans (Nat.le_of_lt hz4) (haw A off h)
          clear hW7 hgrow hown7 hown HN qa qa' qc hda hcan hbt hb7 hdw haw hz4 hz1 hz0 hi hz2 hbv
          go_wp2
          go_loopw [12] (fun i wr => ∃ k : Nat, k ≤ e.over.length ∧ i = .int .i64 k ∧ SameInv w wr W3.heap.size wc.heap.size (some ad) ac aw ca cc e.over) (fun i _ => e.over.length - (intOf i).toNat)
          case atStart => exact ⟨0, Nat.zero_le _, rfl, HI0⟩
          case round =>
            obtain ⟨k, hk, rfl, HI⟩ := hrel
            have pa := HI.boxA
            have pc := HI.boxC
            by_cases hlt : k < e.over.length
            · rcases HI.can with h0 | ⟨A, off, rfl, hBA, hAT, hTw, hcc⟩
              · omega
              obtain ⟨⟨v, hv⟩, hfv⟩ := hcc k hlt
              have HI2 := HI.set (o := off + k * 3 + 2) (.int .i64 0) hBA hAT (by omega) HOLD.out haw2
              clear HI hcc
              go_wp2
              go_roundw
              case rel => exact ⟨k + 1, by omega, by go_num, HI2⟩
              case measure => simp [intOf] <;> omega
            · go_wp2
              clear pa pc
              go_loopw [13] (fun i ws => ∃ k : Nat, k ≤ e.over.length ∧ i = .int .i64 k ∧ SameInv w ws W3.heap.size wc.heap.size (some ad) ac aw ca cc e.over) (fun i _ => e.over.length - (intOf i).toNat)
              case atStart => exact ⟨0, Nat.zero_le _, rfl, HI⟩
              case round =>
                obtain ⟨j, hj, rfl, HJ⟩ := hrel
                have pa := HJ.boxA
                by_cases hlj : j < e.over.length
                · rcases HJ.dotsA with h0 | ⟨A, off, h1, hdA⟩
                  · rw [h0] at hlj; simp at hlj
                  obtain rfl : ad = ⟨A, off, none⟩ := by simpa using h1
                  rcases HJ.dotsW with h0 | ⟨B, ofb, rfl, hdB⟩
                  · rw [h0] at hlj; simp at hlj
                  have x0 := hdA.dev j hlj
                  have x1 := hdA.inc j hlj
                  have x2 := hdA.seq j hlj
                  have y0 := hdB.dev j hlj
                  have y1 := hdB.inc j hlj
                  have y2 := hdB.seq j hlj
                  have hEq := fun (W : World) => eqDot W 9997 e.over[j] e.over[j]
                  simp only [decide_true] at hEq
                  have hm := noGuardDot
                  generalize e.over[j] = y at *
                  go_wp2
                  go_quiet (fail)
                  have HJ2 := HJ.kept (below_drewN (Below.refl _ _) nq)
                  go_wp2
                  go_roundw
                  case rel => exact ⟨j + 1, by omega, by go_num, HJ2⟩
                  case measure => simp [intOf] <;> omega
                · go_wp2_with (go_at_call 6; (with_reducible refine (HA.out _).mono ?_); rintro x w2 ⟨rfl, hb2⟩)
                  go_ret
                  exact ⟨rfl, below2 HJ.below hb2⟩
      · have hy0 : (evErr f == 0) = false := beq_eq_false_iff_ne.2 hf0
        clear he0 hf0
        go_upto_region 11 with fail
        refine wp_name (fun W6 hW6 => ?_)
        rw [← hW6.out] at hz hz4 hbt hR hRc hda hcan
        have qa := hR 18 _ rfl
        have qc := hRc 18 _ rfl
        rw [Nat.zero_add] at qa qc
        clear hW6 hR hS hRc hdb hdc HL HM HS HT HC HU HX HY HZ HQ hx hy hxl hyl hold holf hss
        obtain ⟨i0, hi, hz0, hz1, hz2⟩ := info_parts Try.infoDot
        cases a with
        | none =>
          obtain ⟨h0, hc0⟩ := HN0.out rfl
          have h00 : e.over.length = 0 := by rw [h0]; rfl
          rw [h00] at qa qc
          rw [hc0] at qa
          have qa' : ∀ o, (W6.alloc o).cell? ⟨w.heap.size, 18, none⟩ = some (.slice none 0 0) := fun o => kept ((Below.refl W6.heap.size W6).alloc (Nat.le_refl _) o) qa
          have qc' : ∀ o, (W6.alloc o).cell? ⟨wc.heap.size, 18, none⟩ = some (.slice ac 0 cc) := fun o => kept ((Below.refl W6.heap.size W6).alloc (Nat.le_refl _) o) qc
          have hown : (W6.alloc (Obj.cells #[] 25)).ownsRow W6.heap.size 25 3 (.slice (some ⟨W6.heap.size, 0, none⟩) 0 0) 0 [] := World.ownsRow_made _ _ _ (Nat.le_refl _) (by decide) rfl
          clear h0 h00 hda hcan
          go_wp2_with (at_builtin; refine wpList_append_own_none rfl _ _ 32 rfl W6.heap.size 25 i0 3 Try.underlying32 hi _ _ _ rfl hown rfl ?_)
          go_rounds 1
          have hb8 : Below w.heap.size w (W6.alloc (Obj.cells #[] 25)) := hbt.alloc hbt.size _
          go_loopw [13] (fun i wr => i = .int .i64 0 ∧ Below w.heap.size w wr) (fun _ _ => 0)
          case atStart => exact ⟨rfl, hb8⟩
          case round =>
            obtain ⟨rfl, hb9⟩ := hrel
            go_wp2_with (go_at_call 6; (with_reducible refine (HA.out _).mono ?_); rintro x w2 ⟨rfl, hb2⟩)
            go_ret
            exact ⟨rfl, below2 hb9 hb2⟩
        | some ad =>
          have hnews : ∀ j u, (dotVals e.over)[j]? = some u → W6.cell? (ad.add j) = some u := by
            rcases hda with h0 | ⟨A, off, h1, h2⟩
            · intro j u hj; rw [h0] at hj; simp [dotVals] at hj
            · obtain rfl : ad = ⟨A, off, none⟩ := by simpa using h1
              exact h2.news
          have HN : Hid (∀ j u, (dotVals e.over)[j]? = some u → (W6.alloc (Obj.cells #[] 25)).cell? (ad.add j) = some u) := fun j u hj => kept ((Below.refl _ _).alloc (Nat.le_refl _) _) (hnews j u hj)
          have qa' : ∀ o, (W6.alloc o).cell? ⟨w.heap.size, 18, none⟩ = some (.slice (some ad) e.over.length ca) := fun o => kept ((Below.refl W6.heap.size W6).alloc (Nat.le_refl _) o) qa
          have hown : (W6.alloc (Obj.cells #[] 25)).ownsRow W6.heap.size 25 3 (.slice (some ⟨W6.heap.size, 0, none⟩) 0 0) 0 [] := World.ownsRow_made _ _ _ (Nat.le_refl _) (by decide) rfl
          have hbv := dotVals_length e.over
          clear hnews
          go_upto_region 12 with (at_builtin; refine wpList_append_own _ rfl _ _ 32 rfl W6.heap.size 25 i0 (.agg #[.int .i64 0, .int .i64 0, .int .i64 0]) 3 24 Try.underlying32 hi hz0 hz1 hz2 rfl (by decide) _ _ _ rfl hown ad e.over.length ca (dotVals e.over) rfl hbv HN.out (dotVals_one e.over) (by unfold maxLen; omega) (by omega) (by simp) ?_; intro v' w7 hown7 hgrow _; rw [Nat.zero_add, List.nil_append] at hown7; obtain ⟨aw, cw, rfl, hdw⟩ := own_dots hown7)
          refine wp_name (fun W7 hW7 => ?_)
          have hb7 := ((Below.refl W6.heap.size W6).alloc (Nat.le_refl _) (Obj.cells #[] 25)).grown hgrow (by simp) (fun k hk => (hown.lt k hk).1)
          have haw := own_from hown7
          rw [← hW7.out] at hb7 hdw
          have HI0 : SameInv w W7 W3.heap.size wc.heap.size (some ad) ac aw ca cc e.over := ⟨below2 hbt hb7, kept hb7 qa, kept hb7 qc, hda.kept hb7, hdw, hcan.kept hb7⟩
          have haw2 : ∀ A off, aw = some ⟨A, off, none⟩ → wc.heap.size ≤ A := fun A off h => Nat.le_trans (Nat.le_of_lt hz4) (haw A off h)
          clear hW7 hgrow hown7 hown HN qa qa' qc hda hcan hbt hb7 hdw haw hz4 hz1 hz0 hi hz2 hbv
          go_wp2
          go_loopw [12] (fun i wr => ∃ k : Nat, k ≤ e.over.length ∧ i = .int .i64 k ∧ SameInv w wr W3.heap.size wc.heap.size (some ad) ac aw ca cc e.over) (fun i _ => e.over.length - (intOf i).toNat)
          case atStart => exact ⟨0, Nat.zero_le _, rfl, HI0⟩
          case round =>
            obtain ⟨k, hk, rfl, HI⟩ := hrel
            have pa := HI.boxA
            have pc := HI.boxC
            by_cases hlt : k < e.over.length
            · rcases HI.can with h0 | ⟨A, off, rfl, hBA, hAT, hTw, hcc⟩
              · omega
              obtain ⟨⟨v, hv⟩, hfv⟩ := hcc k hlt
              have HI2 := HI.set (o := off + k * 3 + 2) (.int .i64 0) hBA hAT (by omega) HOLD.out haw2
              clear HI hcc
              go_wp2
              go_roundw
              case rel => exact ⟨k + 1, by omega, by go_num, HI2⟩
              case measure => simp [intOf] <;> omega
            · go_wp2
              clear pa pc
              go_loopw [13] (fun i ws => ∃ k : Nat, k ≤ e.over.length ∧ i = .int .i64 k ∧ SameInv w ws W3.heap.size wc.heap.size (some ad) ac aw ca cc e.over) (fun i _ => e.over.length - (intOf i).toNat)
              case atStart => exact ⟨0, Nat.zero_le _, rfl, HI⟩
              case round =>
                obtain ⟨j, hj, rfl, HJ⟩ := hrel
                have pa := HJ.boxA
                by_cases hlj : j < e.over.length
                · rcases HJ.dotsA with h0 | ⟨A, off, h1, hdA⟩
                  · rw [h0] at hlj; simp at hlj
                  obtain rfl : ad = ⟨A, off, none⟩ := by simpa using h1
                  rcases HJ.dotsW with h0 | ⟨B, ofb, rfl, hdB⟩
                  · rw [h0] at hlj; simp at hlj
                  have x0 := hdA.dev j hlj
                  have x1 := hdA.inc j hlj
                  have x2 := hdA.seq j hlj
                  have y0 := hdB.dev j hlj
                  have y1 := hdB.inc j hlj
                  have y2 := hdB.seq j hlj
                  have hEq := fun (W : World) => eqDot W 9997 e.over[j] e.over[j]
                  simp only [decide_true] at hEq
                  have hm := noGuardDot
                  generalize e.over[j] = y at *
                  go_wp2
                  go_quiet (fail)
                  have HJ2 := HJ.kept (below_drewN (Below.refl _ _) nq)
                  go_wp2
                  go_roundw
                  case rel => exact ⟨j + 1, by omega, by go_num, HJ2⟩
                  case measure => simp [intOf] <;> omega
                · go_wp2_with (go_at_call 6; (with_reducible refine (HA.out _).mono ?_); rintro x w2 ⟨rfl, hb2⟩)
                  go_ret
                  exact ⟨rfl, below2 HJ.below hb2⟩
    · have hx0 : (evErr e == 0) = false := beq_eq_false_iff_ne.2 he0
      clear he0
      go_upto_region 11 with fail
      refine wp_name (fun W6 hW6 => ?_)
      rw [← hW6.out] at hz hz4 hbt hR hRc hda hcan
      have qa := hR 18 _ rfl
      have qc := hRc 18 _ rfl
      rw [Nat.zero_add] at qa qc
      clear hW6 hR hS hRc hdb hdc HL HM HS HT HC HU HX HY HZ HQ hx hy hxl hyl hold holf hss
      obtain ⟨i0, hi, hz0, hz1, hz2⟩ := info_parts Try.infoDot
      cases a with
      | none =>
        obtain ⟨h0, hc0⟩ := HN0.out rfl
        have h00 : e.over.length = 0 := by rw [h0]; rfl
        rw [h00] at qa qc
        rw [hc0] at qa
        have qa' : ∀ o, (W6.alloc o).cell? ⟨w.heap.size, 18, none⟩ = some (.slice none 0 0) := fun o => kept ((Below.refl W6.heap.size W6).alloc (Nat.le_refl _) o) qa
        have qc' : ∀ o, (W6.alloc o).cell? ⟨wc.heap.size, 18, none⟩ = some (.slice ac 0 cc) := fun o => kept ((Below.refl W6.heap.size W6).alloc (Nat.le_refl _) o) qc
        have hown : (W6.alloc (Obj.cells #[] 25)).ownsRow W6.heap.size 25 3 (.slice (some ⟨W6.heap.size, 0, none⟩) 0 0) 0 [] := World.ownsRow_made _ _ _ (Nat.le_refl _) (by decide) rfl
        clear h0 h00 hda hcan
        go_wp2_with (at_builtin; refine wpList_append_own_none rfl _ _ 32 rfl W6.heap.size 25 i0 3 Try.underlying32 hi _ _ _ rfl hown rfl ?_)
        go_rounds 1
        have hb8 : Below w.heap.size w (W6.alloc (Obj.cells #[] 25)) := hbt.alloc hbt.size _
        go_loopw [13] (fun i wr => i = .int .i64 0 ∧ Below w.heap.size w wr) (fun _ _ => 0)
        case atStart => exact ⟨rfl, hb8⟩
        case round =>
          obtain ⟨rfl, hb9⟩ := hrel
          go_wp2_with (go_at_call 6; (with_reducible refine (HA.out _).mono ?_); rintro x w2 ⟨rfl, hb2⟩)
          go_ret
          exact ⟨rfl, below2 hb9 hb2⟩
      | some ad =>
        have hnews : ∀ j u, (dotVals e.over)[j]? = some u → W6.cell? (ad.add j) = some u := by
          rcases hda with h0 | ⟨A, off, h1, h2⟩
          · intro j u hj; rw [h0] at hj; simp [dotVals] at hj
          · obtain rfl : ad = ⟨A, off, none⟩ := by simpa using h1
            exact h2.news
        have HN : Hid (∀ j u, (dotVals e.over)[j]? = some u → (W6.alloc (Obj.cells #[] 25)).cell? (ad.add j) = some u) := fun j u hj => kept ((Below.refl _ _).alloc (Nat.le_refl _) _) (hnews j u hj)
        have qa' : ∀ o, (W6.alloc o).cell? ⟨w.heap.size, 18, none⟩ = some (.slice (some ad) e.over.length ca) := fun o => kept ((Below.refl W6.heap.size W6).alloc (Nat.le_refl _) o) qa
        have hown : (W6.alloc (Obj.cells #[] 25)).ownsRow W6.heap.size 25 3 (.slice (some ⟨W6.heap.size, 0, none⟩) 0 0) 0 [] := World.ownsRow_made _ _ _ (Nat.le_refl _) (by decide) rfl
        have hbv := dotVals_length e.over
        clear hnews
        go_upto_region 12 with (at_builtin; refine wpList_append_own _ rfl _ _ 32 rfl W6.heap.size 25 i0 (.agg #[.int .i64 0, .int .i64 0, .int .i64 0]) 3 24 Try.underlying32 hi hz0 hz1 hz2 rfl (by decide) _ _ _ rfl hown ad e.over.length ca (dotVals e.over) rfl hbv HN.out (dotVals_one e.over) (by unfold maxLen; omega) (by omega) (by simp) ?_; intro v' w7 hown7 hgrow _; rw [Nat.zero_add, List.nil_append] at hown7; obtain ⟨aw, cw, rfl, hdw⟩ := own_dots hown7)
        refine wp_name (fun W7 hW7 => ?_)
        have hb7 := ((Below.refl W6.heap.size W6).alloc (Nat.le_refl _) (Obj.cells #[] 25)).grown hgrow (by simp) (fun k hk => (hown.lt k hk).1)
        have haw := own_from hown7
        rw [← hW7.out] at hb7 hdw
        have HI0 : SameInv w W7 W3.heap.size wc.heap.size (some ad) ac aw ca cc e.over := ⟨below2 hbt hb7, kept hb7 qa, kept hb7 qc, hda.kept hb7, hdw, hcan.kept hb7⟩
        have haw2 : ∀ A off, aw = some ⟨A, off, none⟩ → wc.heap.size ≤ A := fun A off h => Nat.le_trans (Nat.le_of_lt hz4) (haw A off h)
        clear hW7 hgrow hown7 hown HN qa qa' qc hda hcan hbt hb7 hdw haw hz4 hz1 hz0 hi hz2 hbv
        go_wp2
        go_loopw [12] (fun i wr => ∃ k : Nat, k ≤ e.over.length ∧ i = .int .i64 k ∧ SameInv w wr W3.heap.size wc.heap.size (some ad) ac aw ca cc e.over) (fun i _ => e.over.length - (intOf i).toNat)
        case atStart => exact ⟨0, Nat.zero_le _, rfl, HI0⟩
        case round =>
          obtain ⟨k, hk, rfl, HI⟩ := hrel
          have pa := HI.boxA
          have pc := HI.boxC
          by_cases hlt : k < e.over.length
          · rcases HI.can with h0 | ⟨A, off, rfl, hBA, hAT, hTw, hcc⟩
            · omega
            obtain ⟨⟨v, hv⟩, hfv⟩ := hcc k hlt
            have HI2 := HI.set (o := off + k * 3 + 2) (.int .i64 0) hBA hAT (by omega) HOLD.out haw2
            clear HI hcc
            go_wp2
            go_roundw
            case rel => exact ⟨k + 1, by omega, by go_num, HI2⟩
            case measure => simp [intOf] <;> omega
          · go_wp2
            clear pa pc
            go_loopw [13] (fun i ws => ∃ k : Nat, k ≤ e.over.length ∧ i = .int .i64 k ∧ SameInv w ws W3.heap.size wc.heap.size (some ad) ac aw ca cc e.over) (fun i _ => e.over.length - (intOf i).toNat)
            case atStart => exact ⟨0, Nat.zero_le _, rfl, HI⟩
            case round =>
              obtain ⟨j, hj, rfl, HJ⟩ := hrel
              have pa := HJ.boxA
              by_cases hlj : j < e.over.length
              · rcases HJ.dotsA with h0 | ⟨A, off, h1, hdA⟩
                · rw [h0] at hlj; simp at hlj
                obtain rfl : ad = ⟨A, off, none⟩ := by simpa using h1
                rcases HJ.dotsW with h0 | ⟨B, ofb, rfl, hdB⟩
                · rw [h0] at hlj; simp at hlj
                have x0 := hdA.dev j hlj
                have x1 := hdA.inc j hlj
                have x2 := hdA.seq j hlj
                have y0 := hdB.dev j hlj
                have y1 := hdB.inc j hlj
                have y2 := hdB.seq j hlj
                have hEq := fun (W : World) => eqDot W 9997 e.over[j] e.over[j]
                simp only [decide_true] at hEq
                have hm := noGuardDot
                generalize e.over[j] = y at *
                go_wp2
                go_quiet (fail)
                have HJ2 := HJ.kept (below_drewN (Below.refl _ _) nq)
                go_wp2
                go_roundw
                case rel => exact ⟨j + 1, by omega, by go_num, HJ2⟩
                case measure => simp [intOf] <;> omega
              · go_wp2_with (go_at_call 6; (with_reducible refine (HA.out _).mono ?_); rintro x w2 ⟨rfl, hb2⟩)
                go_ret
                exact ⟨rfl, below2 HJ.below hb2⟩
end Go.Proofs.Ytdlhbmhdcdfocaa
