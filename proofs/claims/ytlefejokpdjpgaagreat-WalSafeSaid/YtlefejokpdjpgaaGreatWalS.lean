/- The log's law WalSafe. Conditions: none. -/
import Derived.Test.YtlefejokpdjpgaaGreatWalN
import Derived.Test.YtlefejokpdjpgaaGreatOwnNB
set_option linter.unusedSimpArgs false
set_option linter.unusedVariables false
set_option linter.unnecessarySimpa false
set_option maxHeartbeats 16000000
set_option maxRecDepth 100000
namespace Go.Proofs.YtlefejokpdjpgaaGreat
open Go.RowKit
variable {F : Nat → Prop} {d : Nat} {S : DS} {b : Nat} {D : DataW Unit} {w w' : World}
/-- no two numbers lie side by side -/
def NoInts (w : World) (k : Nat) : Prop := ∀ o x y, w.cell? ⟨k, o, none⟩ = some (.int .i64 x) → w.cell? ⟨k, o + 1, none⟩ ≠ some (.int .i64 y)
theorem DkIn.noInts (h : DkIn w F d S b D) : ∀ k, Ex w F d b D k → NoInts w k := by
 rintro k ⟨_, _, hk | hk | ⟨s, hk⟩⟩ o x y h1 h2
 ·subst hk
  simp only [World.cell?, show w.heap[k]? = _ from h.cells] at h1 h2
  match o, h1, h2 with
  | 0, h1, _ => simp at h1
  | 1, _, h2 => simp at h2
  | o + 2, _, h2 => simp at h2
 ·subst hk
  obtain ⟨es, cl, hb, _⟩ := h.own
  simp [World.cell?, hb] at h1
 ·cases hg : getF S.f s with
  | none => have := h.files.none s hg; rw [this] at hk; cases hk
  | some f =>
    obtain ⟨fb, _, h3, a, c, h4, _⟩ := h.files.some s f hg
    obtain rfl : fb = k := by have := h3.symm.trans hk; simp at this; omega
    simp only [World.cell?, h4] at h1 h2
    match o, h1, h2 with
    | 0, h1, _ => simp at h1
    | o + 1, _, h2 => simp at h2
/-- a block of another type is none of the disk's -/
theorem DkIn.typed (h : DkIn w F d S b D) {k : Nat} {cur : Array Value} {e : TypeId} (hk : w.heap[k]? = some (.cells cur e (0, 0))) (he : e ≠ 73 ∧ e ≠ 88) : ¬ Ex w F d b D k := by
 rintro ⟨_, _, h1 | h1 | ⟨s, h1⟩⟩
 ·subst h1
  have := hk.symm.trans h.cells
  simp only [Option.some.injEq, Obj.cells.injEq] at this
  exact he.1 this.2.1
 ·subst h1
  obtain ⟨es, cl, hb, _⟩ := h.own
  have := hk.symm.trans hb
  simp at this
 ·cases hg : getF S.f s with
  | none => have := h.files.none s hg; rw [this] at h1; cases h1
  | some f =>
    obtain ⟨fb, _, h3, a, c, h4, _⟩ := h.files.some s f hg
    obtain rfl : fb = k := by have := h3.symm.trans h1; simp at this; omega
    have := hk.symm.trans h4
    simp only [Option.some.injEq, Obj.cells.injEq] at this
    exact he.2 this.2.1
theorem own_notEx {base : Nat} {e : TypeId} {size n : Nat} {v : Value} {xs : List Value} (hown : w.ownsRow base e size v n xs) (he : e ≠ 73 ∧ e ≠ 88) (h : DkIn w F d S b D) : ∀ k, v.ownBlock = some k → ¬ Ex w F d b D k := by
 intro k hk
 rcases hown.2 with ⟨rfl, _⟩ | ⟨g, cap, cur, rfl, _, hg, _⟩
 ·cases hk
 ·simp only [Value.ownBlock, Option.some.injEq] at hk
  subst hk
  exact h.typed hg he
theorem RecsIn.fr {T : Nat → Prop} {a : Option Addr} {ls : List RecIt} (h : RecsIn w a ls) (hf : Fr T w w') (hT : ∀ k, T k → NoStr w k ∧ NoInts w k) : RecsIn w' a ls := by
 constructor
 ·rcases h.rows with h0 | ⟨A, off, h1, h2⟩
  ·exact Or.inl h0
  ·refine Or.inr ⟨A, off, h1, fun i hi j v hv => ?_⟩
   have hs := h2 i hi 9 (.string ls[i].1.e.key.name) rfl
   have hb : w'.heap[A]? = w.heap[A]? := hf.block A (World.block_lt_of_cell? w _ hs) (fun e => (hT A e).1 _ _ hs)
   exact (World.cell?_of_block (w := w) (a := ⟨A, off + i * 21 + j, none⟩) hb).trans (h2 i hi j v hv)
 ·intro x hx
  refine (h.dots x hx).keep fun A off hA hne => ?_
  have hd := h.dots x hx
  rw [hA] at hd
  refine hf.block A (hd.lt hne) fun e => ?_
  rcases hd with h0 | ⟨A', off', he, hd⟩
  ·exact hne h0
  ·cases he
   have hl := List.length_pos_iff.2 hne
   exact (hT A e).2 _ _ _ (hd.dev 0 hl) (hd.inc 0 hl)
theorem recCells_nb (x : Rec) (a : Option Addr) (cap : Nat) : ∀ u ∈ recCells x a cap, NoByteV u := by
 intro u hu
 simp only [recCells, evCells, List.mem_cons, List.not_mem_nil, or_false] at hu
 rcases hu with h | h | h | h | h | h | h | h | h | h | h | h | h | h | h | h | h | h | h | h | h <;> (subst h; trivial)
theorem itCells_nb (l : List RecIt) : ∀ u ∈ itCells l, NoByteV u := by
 intro u hu
 obtain ⟨x, _, hx⟩ := List.mem_flatMap.1 hu
 exact recCells_nb _ _ _ u hx
theorem RetDk.ex {B : Nat} {S' : DS} {X : World} {c : Int} {e : Ending} (h : RetDk (Ex X (fun q => B ≤ q) d b D) d b S' c X e w') (hB : B ≤ X.heap.size) :
 e = .returned (.int .i64 c) ∧ (∃ D', DkIn w' (fun q => B ≤ q) d S' b D') ∧ Fr (Ex X (fun q => B ≤ q) d b D) X w' ∧ Below B X w' := by
 obtain ⟨h1, ⟨D', h2⟩, h3⟩ := h
 exact ⟨h1, ⟨D', h2.mono fun k hk => by rcases hk with hk | hk; exact hk.1; exact Nat.le_trans hB hk⟩, h3, h3.below hB fun k hk => hk.1⟩
/-- what the law's loop keeps -/
structure WSafe (B d b : Nat) (R : List RecIt) (r : Value) (s : Nat) (wr : World) : Prop where
 disk : ∃ D, DkIn wr (fun q => B ≤ q) d (walD (recsOf R) (linesB ((recsOf R).take s)).length) b D
 own : wr.ownsRow B 41 21 r R.length (itCells R)
 nb : RowNB wr r
 safe : s ≤ R.length
 below : B ≤ wr.heap.size
theorem rowE : (41 : TypeId) ≠ 73 ∧ (41 : TypeId) ≠ 88 := by decide
theorem WSafe.kept {B d b : Nat} {R : List RecIt} {r : Value} {s : Nat} {wr wx : World} (h : WSafe B d b R r s wr) (hb : Below wr.heap.size wr wx) : WSafe B d b R r s wx := by
 obtain ⟨D, hD⟩ := h.disk
 exact ⟨⟨D, hD.below hb⟩, ownsRow_below h.own hb, h.nb.fr h.own (Fr.of_below (S := fun _ => False) hb) (fun _ _ h => h), h.safe, Nat.le_trans h.below hb.size⟩
/-- a step of the disk beside the row -/
theorem rowStep {B : Nat} {R : List RecIt} {r : Value} {wr wx : World} {F : Nat → Prop} (hown : wr.ownsRow B 41 21 r R.length (itCells R)) (hnb : RowNB wr r) (hB : B ≤ wr.heap.size)
 (hf : Fr F wr wx) (hn : ∀ k, r.ownBlock = some k → ¬ F k) : wx.ownsRow B 41 21 r R.length (itCells R) ∧ RowNB wx r ∧ B ≤ wx.heap.size :=
 ⟨own_fr30 hown hf hn, hnb.fr hown hf hn, Nat.le_trans hB hf.size⟩
theorem grown_nb {B d b : Nat} {S : DS} {D : DataW Unit} {w w2 : World} {r : Value} {n : Nat} {xs : List Value} (h : DkIn w (fun q => B ≤ q) d S b D) (hown : w.ownsRow B 41 21 r n xs) (hnb : RowNB w r) (hg : w.grownBy w2 r.ownBlock) : DkIn w2 (fun q => B ≤ q) d S b D := by
 have hf : Fr (fun k => r.ownBlock = some k) w w2 := ⟨hg.os, hg.tape, hg.output, hg.size, fun k hk hn => hg.block k hk (fun e => hn e.symm)⟩
 exact (DkIn.fr h.exact hf (fun k hk => hnb k hk) (fun k hk e => own_notEx hown rowE h k e hk)).mono fun k hk => hk.1
theorem filt_yes {l : List RecIt} {k : Nat} (h : k < l.length) (ho : recOk l[k].1 = true) : (l.take (k + 1)).filter okIt = (l.take k).filter okIt ++ [l[k]] := filter_take_ok h ho
theorem filt_no {l : List RecIt} {k : Nat} (h : k < l.length) (ho : recOk l[k].1 = false) : (l.take (k + 1)).filter okIt = (l.take k).filter okIt := filter_take_no h ho
theorem walSync_law {B : Nat} {Rr : List Rec} {sb : Nat} {X : World} (h : DkIn X (fun q => B ≤ q) d (walD Rr sb) b D) (hB : B ≤ X.heap.size) (h1 : sb ≤ (linesB Rr).length) (h2 : (linesB Rr).length ≤ 16777216) :
 Calls Tryz.prog 11 #[.pointer (some ⟨d, 0, none⟩)] X fun e w' => e = .returned (.int .i64 0) ∧ (∃ D', DkIn w' (fun q => B ≤ q) d (walD Rr (linesB Rr).length) b D') ∧ Fr (Ex X (fun q => B ≤ q) d b D) X w' ∧ Below B X w' := by
 obtain ⟨c, hc, hb⟩ := walD_sync Rr sb
 have h3 := walSync_any h.exact (walD_inv Rr sb h1 h2)
 rw [hc] at h3
 simp only [hb] at h3
 refine h3.mono ?_
 intro e w' hr
 have h4 := hr.ex hB
 have he : walD Rr (if Rr = [] then sb else (linesB Rr).length) = walD Rr (linesB Rr).length := by
  by_cases hR : Rr = []
  ·subst hR; rfl
  ·rw [if_neg hR]
 rw [he] at h4
 exact h4
theorem walAppend_law {B : Nat} {Rr : List Rec} {s : Nat} {X : World} (x : Rec) (a : Option Addr) (cap : Nat) (h : DkIn X (fun q => B ≤ q) d (walD Rr (linesB (Rr.take s)).length) b D) (hB : B ≤ X.heap.size) (hs : s ≤ Rr.length) (hl : Rr.length ≤ 12) (hR : ∀ y ∈ Rr, recOk y = true)
 (hover : DotsIn X a x.e.over) (hold : ∀ A off, a = some ⟨A, off, none⟩ → x.e.over ≠ [] → A < X.heap.size) (hok : recOk x = true) :
 Calls Tryz.prog 9 #[.pointer (some ⟨d, 0, none⟩), recVal x a cap] X fun e w' => e = .returned (.int .i64 0) ∧ (∃ D', DkIn w' (fun q => B ≤ q) d (walD (Rr ++ [x]) (linesB ((Rr ++ [x]).take s)).length) b D') ∧ Fr (Ex X (fun q => B ≤ q) d b D) X w' ∧ Below B X w' := by
 have hll := linesB_len Rr hR
 have hxl := recLine_len hok
 have hm := linesB_take_mono Rr hs
 rw [List.take_length] at hm
 have h3 := walAppend_any x a cap h.exact (walD_inv Rr _ hm (by omega)) hover hold hok
 rw [walD_app Rr _ x (fun e => by subst e; simp [linesB]) (by omega)] at h3
 refine h3.mono ?_
 intro e w' hr
 have h4 := hr.ex hB
 rw [show (Rr ++ [x]).take s = Rr.take s from List.take_append_of_le_length hs]
 exact h4
theorem own_shape {base : Nat} {e : TypeId} {size n : Nat} {v : Value} {xs : List Value} (h : w.ownsRow base e size v n xs) : ∃ a cap, v = .slice a n cap ∧ n ≤ cap := by
 rcases h.2 with ⟨rfl, rfl⟩ | ⟨g, cap, cur, rfl, _, _, hn, _⟩
 ·exact ⟨none, 0, rfl, Nat.le_refl _⟩
 ·exact ⟨_, cap, rfl, hn⟩
theorem WSafe.of {B d b : Nat} {R : List RecIt} {r : Value} {s : Nat} {wr : World} {Rr : List Rec} {sb : Nat} {D : DataW Unit} (hD : DkIn wr (fun q => B ≤ q) d (walD Rr sb) b D) (hR : recsOf R = Rr) (hsb : sb = (linesB (Rr.take s)).length)
 (hown : wr.ownsRow B 41 21 r R.length (itCells R)) (hnb : RowNB wr r) (hs : s ≤ R.length) (hB : B ≤ wr.heap.size) : WSafe B d b R r s wr := ⟨⟨D, by rw [hR, ← hsb]; exact hD⟩, hown, hnb, hs, hB⟩
theorem walRecover_law {B : Nat} {S1 T : DS} {L : List Rec} {n : Nat} {X : World} (h : DkIn X (fun q => B ≤ q) d S1 b D) (hi : DInv S1) (hr : S1.recov = (T, L, n, 0)) (hB : B ≤ X.heap.size) :
 Calls Tryz.prog 13 #[.pointer (some ⟨d, 0, none⟩)] X fun e w' => ∃ a ls cap, e = .returned (.tuple #[.slice a L.length cap, .int .i64 (n : Nat), .int .i64 0]) ∧ RecsIn w' a ls ∧ L.length ≤ cap ∧ recsOf ls = L ∧
  (∃ D', DkIn w' (fun q => B ≤ q) d T b D') ∧ (∀ a' ls', RecsIn X a' ls' → RecsIn w' a' ls') ∧ Below B X w' := by
 have h1 := walRecover_any h.exact hi (fun k hk => hk.2.1)
 rw [hr] at h1
 refine h1.mono ?_
 intro e w' hq
 obtain ⟨a, ls, cap, rfl, h2, h3, h4, h5, h6, h7⟩ := hq.own hB
 have hl : ls.length = L.length := by have := congrArg List.length h4; rwa [recsOf_length] at this
 rw [hl] at h3 ⊢
 exact ⟨a, ls, cap, rfl, h2, h3, h4, h5, fun a' ls' h8 => h8.fr h6 (fun k hk => ⟨(h.plain k hk).2, h.noInts k hk⟩), h7⟩
theorem wf_isI64 {n : Int} (h : isI64 n) : (Lit.int .i64 n).wf = true := by
 unfold Lit.wf
 rw [Bool.and_eq_true]
 exact ⟨decide_eq_true h.1, decide_eq_true h.2⟩
theorem walCrash_law {B : Nat} {S1 : DS} {X : World} {a : Option Addr} {c : Nat} {keep : Int} (h : DkIn X (fun q => B ≤ q) d S1 b D) (hi : DInv S1) (hB : B ≤ X.heap.size) (hk : isI64 keep) (hc : CellsIn X a (kcs [(logS, keep)])) :
 Calls Tryz.prog 12 #[.pointer (some ⟨d, 0, none⟩), .slice a 1 c] X fun e w' => e = .returned (.tuple #[]) ∧ DkIn w' (fun q => B ≤ q) d (S1.crash [(logS, keep)]) b D ∧ (∀ a' ls', RecsIn X a' ls' → RecsIn w' a' ls') ∧ Below B X w' := by
 refine (Crash_any (ck := c) [(logS, keep)] h.exact hi (by simp) (by intro p hp; simp only [List.mem_singleton] at hp; subst hp; exact ⟨logS_size, wf_isI64 hk⟩) hc).mono ?_
 rintro e w' ⟨rfl, h2, h3⟩
 exact ⟨rfl, h2.mono fun k hk => hk.1, fun a' ls' h8 => h8.fr h3 (fun k hk => ⟨(h.plain k hk).2, h.noInts k hk⟩), h3.below hB fun k hk => hk.1⟩
theorem kcs_litN (w : World) (n : Int) (t : TypeId) : CellsIn (w.alloc (.cells #[.string ⟨#[108, 111, 103]⟩, .int .i64 n] t)) (some ⟨w.heap.size, 0, none⟩) (kcs [(logS, n)]) := by
 refine Or.inr ⟨_, _, rfl, fun j v hv => ?_⟩
 rw [Nat.zero_add, World.cell?_alloc_new]
 simpa [kcs, logS] using hv
theorem lawWSafe_any (a : Option Addr) (cap : Nat) (l : List RecIt) (sy : UInt8) (keep : Int) (w : World) (h : RecsArg w a l) (hk : isI64 keep) :
 Calls Tryz.prog 3 #[.slice a l.length cap, .int .u8 sy.toNat, .int .i64 keep] w fun e w' => e = .returned (.bool true) ∧ Below w.heap.size w w' := by
 have HA := Lib.hid awake32_any
 have hl := h.len
 unfold maxLen at hl
 by_cases hle : l.length ≤ 12
 case neg =>
  have hdn : decide (12 < l.length) = true := decide_eq_true (by omega)
  have hdi : decide ((12 : Int) < (l.length : Int)) = true := decide_eq_true (by omega)
  go_enter Tryz.func3, Tryz.ntmps3
  go_wp2_with (go_at_call 6; (with_reducible refine (HA.out _).mono ?_); rintro v w2 ⟨rfl, hb2⟩)
  go_ret
  exact ⟨rfl, hb2⟩
 case pos =>
 have hdn : decide (12 < l.length) = false := decide_eq_false (by omega)
 have hdi : decide ((12 : Int) < (l.length : Int)) = false := decide_eq_false (by omega)
 have HNW := Lib.hid (New_any w)
 obtain ⟨i0, hi0, hz0, hz1, hz2⟩ := info_parts Tryz.infoRec2
 go_enter Tryz.func3, Tryz.ntmps3
 go_upto_region 4 with (go_at_call 7; (with_reducible refine HNW.out.mono ?_); rintro e wN ⟨rfl, hN, hbN⟩)
 have hNz := hbN.size
 go_wp2
 go_loopw [8, 9, 10] (fun r s i wr => ∃ (k s0 : Nat), i = .int .i64 k ∧ k ≤ l.length ∧ s = .int .i64 s0 ∧ WSafe w.heap.size (w.heap.size + 1) w.heap.size ((l.take k).filter okIt) r s0 wr ∧ (∀ x ∈ (l.take k).filter okIt, EvSmall x.1.e) ∧ Below w.heap.size w wr) (fun _ _ i _ => l.length - (intOf i).toNat)
 case atStart =>
  refine ⟨0, 0, rfl, Nat.zero_le _, rfl, ⟨⟨(.map [] : DataW Unit), ?_⟩, World.ownsRow_made _ _ _ hNz (by decide) rfl, ?_, Nat.zero_le _, ?_⟩, fun x hx => by simp at hx, hbN.alloc hbN.size _⟩
  ·exact hN.below ((Below.refl _ _).alloc (Nat.le_refl _) _)
  ·intro g hg
   simp only [Value.ownBlock, Option.some.injEq] at hg
   subst hg
   exact nb_of_block (heap_alloc_new wN _) (fun u hu => by simp at hu)
  ·simp; omega
 case round =>
  obtain ⟨k, s0, rfl, hk', rfl, hI, hsm, hbw⟩ := hrel
  by_cases hlt : k < l.length
  ·obtain ⟨A, off, rfl, hra, hd0⟩ := h.recs.at hlt
   have r00 := hra k hlt
   have hE := h.each _ (List.getElem_mem hlt)
   have hold := hE.old
   have HY := Lib.hid (@filt_yes l k hlt)
   have HNo := Lib.hid (@filt_no l k hlt)
   have hRl : ((l.take k).filter okIt).length ≤ k := Nat.le_trans (List.length_filter_le _ _) (by rw [List.length_take]; omega)
   have hROk := filter_ok (l.take k)
   clear hra
   generalize l[k] = x at r00 hE hold HY HNo hd0
   obtain ⟨x, ax, cx⟩ := x
   simp only at r00 hE hold HY HNo hd0
   have r1 := range_ev2 (rangeAt_kept r00 hbw)
   replace r00 := Lib.hid r00
   replace hd0 := Lib.hid hd0
   replace hold := Lib.hid hold
   obtain ⟨R, hR⟩ : ∃ R, R = (l.take k).filter okIt := ⟨_, rfl⟩
   rw [← hR] at hI hsm HY HNo hRl hROk
   clear hR
   have HLT := Lib.hid hlt
   have hk12 : k < 12 := by omega
   have hL0 := fun (W : World) => Light_any x.e ax cx W hE.over hE.name hE.domain hE.path hE.value
   cases hli : light x.e with
   | false =>
     rw [hli] at hL0
     have HL := Lib.hid hL0
     clear hL0 hli hE hI hsm HY HNo hold hRl hROk
     go_wp2_with (first
      | ((with_reducible refine wpList_load_evo _ A (off + k * 21 + 2) x.e ax cx r1 ?_ rfl ?_); exact rfl)
      | (go_at_call 8; (with_reducible refine (HL.out _).mono ?_); rintro v w1 ⟨rfl, hb⟩)
      | (go_at_call 6; (with_reducible refine (HA.out _).mono ?_); rintro v w2 ⟨rfl, hb2⟩))
     go_ret
     exact ⟨rfl, hbw.trans ((below2 hb hb2).mono hbw.size)⟩
   | true =>
     have hs := light_small hli
     rw [hli] at hL0
     have HL := Lib.hid hL0
     have HRR0 := fun (W : World) (h : DotsIn W ax x.e.over) => rRecRight_any x ax cx W hs h
     have hrl : (recsOf R).length = R.length := recsOf_length R
     cases hok : recOk x with
     | true =>
       rw [hok] at HRR0
       have HRR := Lib.hid HRR0
       have HAp := Lib.hid (fun (X : World) (D : DataW Unit) (h : DkIn X (fun q => w.heap.size ≤ q) (w.heap.size + 1) (walD (recsOf R) (linesB (List.take s0 (recsOf R))).length) w.heap.size D) (hB : w.heap.size ≤ X.heap.size) (hs : s0 ≤ R.length) (hover : DotsIn X ax x.e.over) (hold : ∀ A off, ax = some ⟨A, off, none⟩ → x.e.over ≠ [] → A < X.heap.size) => walAppend_law x ax cx h hB (by rw [hrl]; exact hs) (by rw [hrl]; omega) hROk hover hold hok)
       have HHY := Lib.hid (HY.out hok)
       have hROk2 : ∀ y ∈ recsOf R ++ [x], recOk y = true := fun y hy => by
        rcases List.mem_append.1 hy with hy | hy
        ·exact hROk y hy
        ·obtain rfl : y = x := by simpa using hy
         exact hok
       have hll2 := linesB_len _ hROk2
       rw [List.length_append, List.length_singleton, hrl] at hll2
       have hm2 := @linesB_take_mono (recsOf R ++ [x]) s0 (recsOf R ++ [x]).length
       rw [List.take_length] at hm2
       have HSY := Lib.hid (fun (X : World) (D : DataW Unit) (h : DkIn X (fun q => w.heap.size ≤ q) (w.heap.size + 1) (walD (recsOf R ++ [x]) (linesB (List.take s0 (recsOf R ++ [x]))).length) w.heap.size D) (hB : w.heap.size ≤ X.heap.size) (hs : s0 ≤ R.length) => walSync_law h hB (hm2 (by rw [List.length_append, hrl]; simp; omega)) (by omega))
       have hsm2 : ∀ y ∈ R ++ [(x, ax, cx)], EvSmall y.1.e := fun y hy => by
        rcases List.mem_append.1 hy with hy | hy
        ·exact hsm y hy
        ·obtain rfl : y = (x, ax, cx) := by simpa using hy
         exact hs
       have HSM := Lib.hid hsm2
       clear hm2 hll2 hROk2 hsm2
       have HRL := Lib.hid hrl
       clear hL0 hli hE HRR0 HY HNo hROk hs hsm hok hrl
       go_upto_region 11 with (first
        | ((with_reducible refine wpList_load_evo _ A (off + k * 21 + 2) x.e ax cx r1 ?_ rfl ?_); exact rfl)
        | (go_at_call 8; (with_reducible refine (HL.out _).mono ?_); rintro v w1 ⟨rfl, hb⟩))
       have hI1 := hI.kept hb
       have hbw1 : Below w.heap.size w w1 := hbw.trans (hb.mono hbw.size)
       clear hI hbw hb r1
       obtain ⟨⟨D, hD⟩, hown, hnb, hs0, hB⟩ := hI1
       have r0 := rangeAt_kept r00.out hbw1
       have hd1 := hd0.out.kept hbw1
       have hold1 := fun A' off' h1 h2 => Nat.lt_of_lt_of_le (hold.out A' off' h1 h2) hbw1.size
       go_upto_region 12 with (first
        | ((with_reducible refine wpList_load_to 41 _ A (off + k * 21) (recCells x ax cx) (recVal x ax cx) rfl _ Tryz.underlying41 rfl (by kernel_rfl) r0 ?_ rfl ?_); exact rfl)
        | (go_at_call 9; (with_reducible refine (HAp.out _ _ hD hB hs0 hd1 hold1).mono ?_); rintro v w2 ⟨rfl, ⟨D2, hD2⟩, hf2, hb2⟩))
       obtain ⟨hown2, hnb2, hB2⟩ := rowStep hown hnb hB hf2 (own_notEx hown rowE hD)
       have hbw2 : Below w.heap.size w w2 := hbw1.trans hb2
       clear hf2 hb2 hown hnb hB hD hbw1 r0 hd1 hold1 HAp
       have r0 := rangeAt_kept r00.out hbw2
       have hd2 := hd0.out.kept hbw2
       go_upto_region 15 with (first
        | ((with_reducible refine wpList_load_to 41 _ A (off + k * 21) (recCells x ax cx) (recVal x ax cx) rfl _ Tryz.underlying41 rfl (by kernel_rfl) r0 ?_ rfl ?_); exact rfl)
        | (go_at_call 10; (with_reducible refine (HRR.out _ hd2).mono ?_); rintro v w3 ⟨rfl, hb3⟩))
       have hbw3 : Below w.heap.size w w3 := hbw2.trans (hb3.mono hbw2.size)
       have hown3 := ownsRow_below hown2 hb3
       have hnb3 := hnb2.fr hown2 (Fr.of_below (S := fun _ => False) hb3) (fun _ _ h => h)
       have hD3 := hD2.below hb3
       have hB3 := Nat.le_trans hB2 hb3.size
       clear hb3 hown2 hnb2 hB2 hD2 hbw2 r0 hd2
       have r0 := rangeAt_kept r00.out hbw3
       have hal : Below w3.heap.size w3 (w3.alloc (.cells (recCells x ax cx).toArray 41)) := (Below.refl _ _).alloc (Nat.le_refl _) _
       have hownA := ownsRow_below hown3 hal
       have hnbA := hnb3.fr hown3 (Fr.of_below (S := fun _ => False) hal) (fun _ _ h => h)
       have hDA := hD3.below hal
       have hBA := Nat.le_trans hB3 hal.size
       have hnews := recs_new w3 x ax cx 41
       go_upto_region 16 with (first
        | ((with_reducible refine wpList_load_to 41 _ A (off + k * 21) (recCells x ax cx) (recVal x ax cx) rfl _ Tryz.underlying41 rfl (by kernel_rfl) r0 ?_ rfl ?_); exact rfl)
        | (refine wpList_buildOne rfl 22 41 _ rfl (recCells x ax cx).toArray 21 rfl rfl (by decide) (by decide) Tryz.underlying22 (by kernel_rfl) (by kernel_rfl) ?_)
        | (at_builtin; go_loud (refine wpList_append_nb rfl _ _ 22 rfl w.heap.size 41 i0 _ 21 192 Tryz.underlying22 hi0 hz0 hz1 hz2 rfl (by decide) _ R.length (itCells R) rfl hownA ⟨w3.heap.size, 0, none⟩ 1 1 (recCells x ax cx) rfl rfl hnews (recCells_one _ _ _) (by unfold maxLen; omega) (by omega) hBA hnbA (recCells_nb rec0 none 0) (recCells_nb _ _ _) (itCells_nb _) (by decide) ?_); intro v4 w4 hown4 hg4 hnb4 hat4))
       have hD4 := grown_nb hDA hownA hnbA hg4
       have hbw4 : Below w.heap.size w w4 := (hbw3.alloc hbw3.size _).grown hg4 (Nat.le_trans hbw3.size hal.size) (fun k hk => (hownA.lt k hk).1)
       have hB4 := Nat.le_trans hBA hg4.size
       have hown5 : w4.ownsRow w.heap.size 41 21 v4 (R ++ [(x, ax, cx)]).length (itCells (R ++ [(x, ax, cx)])) := by rw [itCells_snoc, List.length_append]; exact hown4
       have hrs := recsOf_snoc R (x, ax, cx)
       clear hal hownA hnbA hDA hBA hnews hown3 hnb3 hD3 hB3 hbw3 hg4 hat4 hown4 r0
       obtain ⟨R2, hR2⟩ : ∃ R2, R2 = R ++ [(x, ax, cx)] := ⟨_, rfl⟩
       have HR2 : Hid (R2.length = R.length + 1) := by rw [hR2]; simp [Hid]
       rw [← hR2] at hown5 hrs HHY HSM
       clear hR2
       obtain ⟨ar, cr, rfl, hcr⟩ := own_shape hown5
       by_cases hq : k = sy.toNat % 12
       ·have q1 : ((k : Int) == ((sy.toNat % 12 : Nat) : Int)) = true := beq_iff_eq.2 (by omega)
        have q2 : (k == sy.toNat % 12) = true := beq_iff_eq.2 hq
        go_upto_region 19 with (go_at_call 11; (with_reducible refine (HSY.out _ _ hD4 hB4 hs0).mono ?_); rintro v w8 ⟨rfl, ⟨D8, hD8⟩, hf8, hb8⟩)
        obtain ⟨hown8, hnb8, hB8⟩ := rowStep hown5 hnb4 hB4 hf8 (own_notEx hown5 rowE hD4)
        have hbw8 : Below w.heap.size w w8 := hbw4.trans hb8
        clear hown5 hnb4 hB4 hf8 hD4 hbw4 hb8
        go_wp2
        go_roundw
        case rel => exact ⟨k + 1, R2.length, by go_num, by omega, rfl, by rw [HHY.out]; exact WSafe.of hD8 hrs (by rw [List.take_of_length_le (by rw [List.length_append, HRL.out, HR2.out]; simp)]) hown8 hnb8 (Nat.le_refl _) hB8, by rw [HHY.out]; exact HSM.out, hbw8⟩
        case measure => simp [intOf] <;> omega
       ·have q1 : ((k : Int) == ((sy.toNat % 12 : Nat) : Int)) = false := beq_eq_false_iff_ne.2 (by omega)
        have q2 : (k == sy.toNat % 12) = false := beq_eq_false_iff_ne.2 hq
        go_wp2
        go_roundw
        case rel => exact ⟨k + 1, s0, by go_num, by omega, rfl, by rw [HHY.out]; exact WSafe.of hD4 hrs rfl hown5 hnb4 (by rw [HR2.out]; omega) hB4, by rw [HHY.out]; exact HSM.out, hbw4⟩
        case measure => simp [intOf] <;> omega
     | false =>
       rw [hok] at HRR0
       have HRR := Lib.hid HRR0
       have HAp := Lib.hid (fun (X : World) (hover : DotsIn X ax x.e.over) => walAppend_no x (some ⟨w.heap.size + 1, 0, none⟩) ax cx X hs hover hok)
       have HHY := Lib.hid (HNo.out hok)
       have hll2 := linesB_len _ hROk
       rw [hrl] at hll2
       have hm2 := @linesB_take_mono (recsOf R) s0 (recsOf R).length
       rw [List.take_length] at hm2
       have HSY := Lib.hid (fun (X : World) (D : DataW Unit) (h : DkIn X (fun q => w.heap.size ≤ q) (w.heap.size + 1) (walD (recsOf R) (linesB (List.take s0 (recsOf R))).length) w.heap.size D) (hB : w.heap.size ≤ X.heap.size) (hs : s0 ≤ R.length) => walSync_law h hB (hm2 (by rw [hrl]; exact hs)) (by omega))
       have HSM := Lib.hid hsm
       clear hm2 hll2
       have HRL := Lib.hid hrl
       clear hL0 hli hE HRR0 HY HNo hROk hs hsm hok hrl
       go_upto_region 11 with (first
        | ((with_reducible refine wpList_load_evo _ A (off + k * 21 + 2) x.e ax cx r1 ?_ rfl ?_); exact rfl)
        | (go_at_call 8; (with_reducible refine (HL.out _).mono ?_); rintro v w1 ⟨rfl, hb⟩))
       have hI1 := hI.kept hb
       have hbw1 : Below w.heap.size w w1 := hbw.trans (hb.mono hbw.size)
       clear hI hbw hb r1
       obtain ⟨⟨D, hD⟩, hown, hnb, hs0, hB⟩ := hI1
       have r0 := rangeAt_kept r00.out hbw1
       have hd1 := hd0.out.kept hbw1
       have hold1 := fun A' off' h1 h2 => Nat.lt_of_lt_of_le (hold.out A' off' h1 h2) hbw1.size
       go_upto_region 12 with (first
        | ((with_reducible refine wpList_load_to 41 _ A (off + k * 21) (recCells x ax cx) (recVal x ax cx) rfl _ Tryz.underlying41 rfl (by kernel_rfl) r0 ?_ rfl ?_); exact rfl)
        | (go_at_call 9; (with_reducible refine (HAp.out _ hd1).mono ?_); rintro v w2 ⟨rfl, hb2⟩))
       have hbw2 : Below w.heap.size w w2 := hbw1.trans (hb2.mono hbw1.size)
       have hown2 := ownsRow_below hown hb2
       have hnb2 := hnb.fr hown (Fr.of_below (S := fun _ => False) hb2) (fun _ _ h => h)
       have hD2 := hD.below hb2
       have hB2 := Nat.le_trans hB hb2.size
       clear hb2 hown hnb hB hD hbw1 r0 hd1 hold1 HAp
       have r0 := rangeAt_kept r00.out hbw2
       have hd2 := hd0.out.kept hbw2
       go_upto_region 16 with (first
        | ((with_reducible refine wpList_load_to 41 _ A (off + k * 21) (recCells x ax cx) (recVal x ax cx) rfl _ Tryz.underlying41 rfl (by kernel_rfl) r0 ?_ rfl ?_); exact rfl)
        | (go_at_call 10; (with_reducible refine (HRR.out _ hd2).mono ?_); rintro v w3 ⟨rfl, hb3⟩))
       have hbw3 : Below w.heap.size w w3 := hbw2.trans (hb3.mono hbw2.size)
       have hown3 := ownsRow_below hown2 hb3
       have hnb3 := hnb2.fr hown2 (Fr.of_below (S := fun _ => False) hb3) (fun _ _ h => h)
       have hD3 := hD2.below hb3
       have hB3 := Nat.le_trans hB2 hb3.size
       clear hb3 hown2 hnb2 hB2 hD2 hbw2 r0 hd2
       have r0 := rangeAt_kept r00.out hbw3
       obtain ⟨ar, cr, rfl, hcr⟩ := own_shape hown3
       by_cases hq : k = sy.toNat % 12
       ·have q1 : ((k : Int) == ((sy.toNat % 12 : Nat) : Int)) = true := beq_iff_eq.2 (by omega)
        have q2 : (k == sy.toNat % 12) = true := beq_iff_eq.2 hq
        go_upto_region 19 with (go_at_call 11; (with_reducible refine (HSY.out _ _ hD3 hB3 hs0).mono ?_); rintro v w8 ⟨rfl, ⟨D8, hD8⟩, hf8, hb8⟩)
        obtain ⟨hown8, hnb8, hB8⟩ := rowStep hown3 hnb3 hB3 hf8 (own_notEx hown3 rowE hD3)
        have hbw8 : Below w.heap.size w w8 := hbw3.trans hb8
        clear hown3 hnb3 hB3 hf8 hD3 hbw3 hb8
        go_wp2
        go_roundw
        case rel => exact ⟨k + 1, R.length, by go_num, by omega, rfl, by rw [HHY.out]; exact WSafe.of hD8 rfl (by rw [List.take_of_length_le (by rw [HRL.out]; exact Nat.le_refl _)]) hown8 hnb8 (Nat.le_refl _) hB8, by rw [HHY.out]; exact HSM.out, hbw8⟩
        case measure => simp [intOf] <;> omega
       ·have q1 : ((k : Int) == ((sy.toNat % 12 : Nat) : Int)) = false := beq_eq_false_iff_ne.2 (by omega)
        have q2 : (k == sy.toNat % 12) = false := beq_eq_false_iff_ne.2 hq
        go_wp2
        go_roundw
        case rel => exact ⟨k + 1, s0, by go_num, by omega, rfl, by rw [HHY.out]; exact WSafe.of hD3 rfl rfl hown3 hnb3 hs0 hB3, by rw [HHY.out]; exact HSM.out, hbw3⟩
        case measure => simp [intOf] <;> omega
  ·have hke : k = l.length := by omega
   subst hke
   rw [List.take_length] at hI hsm
   obtain ⟨⟨D, hD⟩, hown, hnb, hs0, hB⟩ := hI
   have hROk := filter_ok l
   have hdots : ∀ x ∈ l.filter okIt, DotsIn w x.2.1 x.1.e.over := fun x hx => h.recs.dots x (List.mem_filter.1 hx).1
   have hRl : (l.filter okIt).length ≤ 12 := Nat.le_trans (List.length_filter_le _ _) hle
   generalize l.filter okIt = R at *
   obtain ⟨ar, cr, rfl, hinR, hcr⟩ := recsIn_own hown (fun x hx => (hdots x hx).kept hbw)
   have hrl := recsOf_length R
   have hll := linesB_len _ hROk
   rw [hrl] at hll
   have hmm := linesB_take_mono (recsOf R) (i := s0) (j := (recsOf R).length) (by rw [hrl]; exact hs0)
   rw [List.take_length] at hmm
   have hi := walD_inv (recsOf R) _ hmm (by omega)
   obtain ⟨m, T, n, hm1, hm2, hr1, hr2, -⟩ := walD_crash (recsOf R) (recsOk_of hROk) s0 _ (by rw [hrl]; exact hs0) rfl keep
   have hiC := hi.crash [(logS, keep)]
   have hiT : DInv T := by have := hiC.recov; rwa [hr1] at this
   have hLm : ((recsOf R).take m).length = m := List.length_take_of_le hm1
   have hRt : recsOf (R.take m) = (recsOf R).take m := by simp [recsOf, List.map_take]
   rw [hrl] at hm1
   have HC := Lib.hid (fun X a c (hX : Below wr.heap.size wr X) (hc : CellsIn X a (kcs [(logS, keep)])) => walCrash_law (c := c) (hD.below hX) hi (Nat.le_trans hB hX.size) hk hc)
   generalize (walD (recsOf R) (linesB ((recsOf R).take s0)).length).crash [(logS, keep)] = S1 at hr1 hiC HC
   obtain ⟨L, hL⟩ : ∃ L, L = (recsOf R).take m := ⟨_, rfl⟩
   rw [← hL] at hr1 hr2 hLm hRt
   have HR1 := Lib.hid (fun X (D : DataW Unit) (h : DkIn X (fun q => w.heap.size ≤ q) (w.heap.size + 1) S1 w.heap.size D) (hB : w.heap.size ≤ X.heap.size) => walRecover_law h hiC hr1 hB)
   have HR2 := Lib.hid (fun X (D : DataW Unit) (h : DkIn X (fun q => w.heap.size ≤ q) (w.heap.size + 1) T w.heap.size D) (hB : w.heap.size ≤ X.heap.size) => walRecover_law h hiT hr2 hB)
   rw [hLm] at HR1 HR2
   have hsR : ∀ x ∈ R.take m, x.1.e.over.length ≤ 1073741824 := fun x hx => (hsm x (List.mem_of_mem_take hx)).over
   have hsL : ∀ ls : List RecIt, recsOf ls = L → ∀ x ∈ ls, x.1.e.over.length ≤ 1073741824 := fun ls hls x hx => by
        have h1 : x.1 ∈ recsOf (R.take m) := by rw [hRt, ← hls]; exact List.mem_map_of_mem hx
        obtain ⟨y, hy, hyx⟩ := List.mem_map.1 h1
        rw [← hyx]; exact hsR y hy
   have hlen : ∀ ls : List RecIt, recsOf ls = L → ls.length = m := fun ls hls => by have := congrArg List.length hls; rw [recsOf_length, hLm] at this; exact this
   have hm12 : m ≤ 12 := by omega
   have HSA : Hid (∀ X p q c c' (ls ls' : List RecIt), recsOf ls = L → recsOf ls' = L → RecsIn X p ls → RecsIn X q ls' → Calls Tryz.prog 15 #[.slice p m c, .slice q m c'] X fun e w' => e = .returned (.bool true) ∧ Below X.heap.size X w') := Lib.hid fun X p q c c' ls ls' h1 h2 h3 h4 => by
        have h5 := rSameRecs_any p q c c' ls ls' X (by rw [hlen ls h1]; omega) (by rw [hlen ls' h2]; omega) (hsL ls h1) (hsL ls' h2) h3 h4
        rw [hlen ls h1, hlen ls' h2, h1, h2] at h5
        simpa using h5
   have HBk : Hid (∀ X p c (ls : List RecIt), recsOf ls = L → RecsIn X p ls → Calls Tryz.prog 14 #[.slice p m c] X fun e w' => ∃ q c', e = .returned (.slice q m c') ∧ m ≤ c' ∧ RecsIn w' q ls ∧ Below X.heap.size X w') := Lib.hid fun X p c ls h1 h2 => by
        have h3 := Back_any p c ls X (by rw [hlen ls h1]; omega) h2
        rw [hlen ls h1] at h3
        refine h3.mono ?_
        rintro e w' ⟨v, rfl, hown, hb⟩
        obtain ⟨q, c', rfl, hin, hc⟩ := recsIn_own hown (fun x hx => (h2.dots x hx).kept hb)
        rw [hlen ls h1] at hc ⊢
        exact ⟨q, c', rfl, hc, hin, hb⟩
   have hRm := Lib.hid hRt
   have f1 : decide ((s0 : Int) ≤ (m : Int)) = true := decide_eq_true (by omega)
   have f2 : decide (s0 ≤ m) = true := decide_eq_true (by omega)
   have f3 : decide ((m : Int) ≤ (R.length : Int)) = true := decide_eq_true (by omega)
   have f4 : decide (m ≤ R.length) = true := decide_eq_true hm1
   have f5 : min (m : Int) (R.length : Int) = (m : Int) := by omega
   have f6 : min m R.length = m := by omega
   have f7 : m ≤ cr := by omega
   clear hr1 hr2 hL hLm hRt hsR hsL hlen hi hiC hiT hmm hll hROk hdots hsm hown hnb hD
   go_upto_region 21 with (go_at_call 12; (with_reducible refine (HC.out _ _ _ ((Below.refl _ _).alloc (Nat.le_refl _) _) (kcs_litN _ _ _)).mono ?_); rintro e w1 ⟨rfl, hD1, hk1, hb1⟩)
   have hin1 := hk1 _ _ (hinR.kept ((Below.refl _ _).alloc (Nat.le_refl _) _))
   have hbw1 : Below w.heap.size w w1 := (hbw.alloc hbw.size _).trans hb1
   clear hk1 hb1 hinR hbw
   go_upto_region 22 with (go_at_call 13; (with_reducible refine (HR1.out _ _ hD1 hbw1.size).mono ?_); rintro e w2 ⟨a2, l2, c2, rfl, hin2, hc2, hl2, ⟨D2, hD2⟩, hk2, hb2⟩)
   have hinR2 := hk2 _ _ hin1
   have hbw2 : Below w.heap.size w w2 := hbw1.trans hb2
   clear hk2 hb2 hin1 hbw1 hD1
   go_upto_region 23 with (go_at_call 13; (with_reducible refine (HR2.out _ _ hD2 hbw2.size).mono ?_); rintro e w3 ⟨a3, l3, c3, rfl, hin3, hc3, hl3, -, hk3, hb3⟩)
   have hinR3 := hk3 _ _ hinR2
   have hin23 := hk3 _ _ hin2
   have hbw3 : Below w.heap.size w w3 := hbw2.trans hb3
   clear hk3 hb3 hinR2 hin2 hbw2 hD2
   have H2 := Lib.hid hl2
   have H3 := Lib.hid hl3
   clear hl2 hl3
   go_upto_region 24 with (go_at_call 14; (with_reducible refine (HBk.out _ _ _ _ H2.out hin23).mono ?_); rintro e w4 ⟨a4, c4, rfl, hc4, hin4, hb4⟩)
   have hinR4 := (hinR3.kept hb4).take m
   have hin34 := hin3.kept hb4
   have hbw4 : Below w.heap.size w w4 := hbw3.trans (hb4.mono hbw3.size)
   clear hb4 hinR3 hin3 hin23 hbw3
   go_wp2_with (first
        | (go_at_call 15; (with_reducible refine (HSA.out _ _ _ _ _ _ _ H2.out hRm.out hin4 hinR4).mono ?_); rintro e w5 ⟨rfl, hb5⟩; replace hin34 := hin34.kept hb5; have hin5 := hin4.kept hb5; have hbw5 : Below w.heap.size w w5 := hbw4.trans (hb5.mono hbw4.size))
        | (go_at_call 14; (with_reducible refine (HBk.out _ _ _ _ H3.out hin34).mono ?_); rintro e w6 ⟨a6, c6, rfl, hc6, hin6, hb6⟩; have hin56 := hin5.kept hb6; have hbw6 : Below w.heap.size w w6 := hbw5.trans (hb6.mono hbw5.size))
        | (go_at_call 15; (with_reducible refine (HSA.out _ _ _ _ _ _ _ H2.out H3.out hin56 hin6).mono ?_); rintro e w7 ⟨rfl, hb7⟩; have hbw7 : Below w.heap.size w w7 := hbw6.trans (hb7.mono hbw6.size))
        | (go_at_call 6; (with_reducible refine (HA.out _).mono ?_); rintro v w8 ⟨rfl, hb8⟩; have hbw8 : Below w.heap.size w w8 := hbw7.trans (hb8.mono hbw7.size)))
   go_ret
   exact ⟨rfl, hbw8⟩
end Go.Proofs.YtlefejokpdjpgaaGreat
