/- The log's law WalPlays. Conditions: none. -/
import Derived.Test.YtlefejokpdjpgaaGreatRest
import Derived.Test.YtlefejokpdjpgaaGreatWalA
set_option linter.unusedSimpArgs false
set_option linter.unusedVariables false
set_option linter.unnecessarySimpa false
set_option maxHeartbeats 16000000
set_option maxRecDepth 100000
namespace Go.Proofs.YtlefejokpdjpgaaGreat
open Go.RowKit
def gq (ls : List WSt) : DS := ls.foldl DS.wstep ⟨[], 0, false⟩
theorem oC {ls : List WSt} {k : Nat} (h : k < ls.length) : gq (ls.take (k + 1)) = (gq (ls.take k)).wstep ls[k] := by
 unfold gq
 rw [List.take_succ_eq_append_getElem h, List.foldl_append]
 rfl
theorem lC : ∀ (ls : List WSt) (S : DS), DInv S → DInv (ls.foldl DS.wstep S)
 | [], _, h => h
 | s :: r, S, h => lC r _ (h.wstep s)
theorem qU (ls : List WSt) : DInv (gq ls) := lC ls _ DInv.new
theorem jw {w : World} {R : Nat} {x : Option Addr} {n c : Nat} {y : Value} {q : Bool} (hB : B3 w R 62 (.slice x n c) y (.bool q)) {F : Nat → Prop} {d b : Nat} {S : DS} {D : DataW Unit} (h : DkIn w F d S b D) : ¬ Ex w F d b D R := h.typed hB (by decide)
/-- what a step leaves, for a disk all of whose blocks are new -/
theorem RetStepT.law {B d b : Nat} {S' : DS} {D : DataW Unit} {X Y w' : World} {e : Ending} (h : RetStepT (Ex X (fun q => B ≤ q) d b D) d b S' Y e w') (hB : B ≤ Y.heap.size) (hX : X.heap.size ≤ Y.heap.size) :
 ∃ (a : Option Addr) (l : List RF) (cap : Nat), e = .returned (.tuple #[aO a l.length cap S'.arm S'.down, .bool true]) ∧ RFsIn w' a l ∧ l.length ≤ cap ∧ az l = S'.f ∧ (∃ D', DkIn w' (fun q => B ≤ q) d S' b D') ∧ Fr (Ex X (fun q => B ≤ q) d b D) Y w' ∧ Below B Y w' := by
 obtain ⟨⟨a, l, cap, ok, he, h1, h2, h3, ⟨D', h4⟩, h5⟩, v, hv⟩ := h
 rw [hv] at he
 simp only [Ending.returned.injEq, Value.tuple.injEq, Array.mk.injEq, List.cons.injEq, Value.bool.injEq, and_true] at he
 obtain ⟨hv2, rfl⟩ := he
 refine ⟨a, l, cap, by rw [hv, hv2], h1, h2, h3, ⟨D', h4.mono fun k hk => by rcases hk with hk | hk; exact hk.1; exact Nat.le_trans hB hk⟩, h5, h5.below hB fun k hk => hk.1⟩
theorem kH {w : World} {R : Nat} {t : TypeId} {x : Option Addr} {n c : Nat} {y : Int} {q : Bool} (hB : B3 w R t (.slice x n c) (.int .i64 y) (.bool q)) : NoByte w R ∧ NoStr w R := ⟨hB.noByte ⟨trivial, trivial, trivial⟩, hB.noStr ⟨trivial, trivial, trivial⟩⟩
theorem z30 {p : Prop} (h : p := by (intro w hSw; have s2 := hSw 2 _ rfl; go_simp; try with_reducible rfl)) : p := h
theorem z12 {p : Prop} (h : p := by exact ⟨k + 1, D1, a1, l1, c1, by go_num, by omega, by rw [HSn.out]; exact HD6.out.below hBr, by rw [HSn.out]; exact hB6.below hBr, HI6.out.kept hBr, hc1, by rw [HSn.out]; exact HL1.out, xB.trans (hBr.mono xB.size)⟩) : p := h
theorem lZ (al : Option Addr) (cl : Nat) (ls : List WSt) (w : World) (hll : ls.length ≤ maxLen) (hcs : CellsIn w al (wcs ls)) (hsi : ∀ s ∈ ls, WStIn w s ∧ iP s.n) :
 Calls Tryz.prog 5 #[.slice al ls.length cl] w fun e w' => e = .returned (.bool true) ∧ Below w.heap.size w w' := by
 have HA := Lib.hid pM
 have HL0 : Calls Tryz.prog 18 #[.slice al ls.length cl, .int .i64 25] w fun e w' => e = .returned (.bool (gu ls 25)) ∧ Below w.heap.size w w' := ql al cl 25 ls w hll (by decide) hcs hsi
 have HNW := Lib.hid (fun X => New_any X)
 cases hgo : gu ls 25 with
 | false =>
   rw [hgo] at HL0
   have HL := Lib.hid HL0
   clear HL0 hgo
   go_enter Tryz.func5, Tryz.ntmps5
   go_wp2_with (first
    | (go_at_call 18; (with_reducible refine HL.out.mono ?_); rintro e w1 ⟨rfl, hb1⟩)
    | (go_at_call 6; (with_reducible refine (HA.out _).mono ?_); rintro e w2 ⟨rfl, hb2⟩))
   go_ret
   exact ⟨rfl, below2 hb1 hb2⟩
 | true =>
 rw [hgo] at HL0
 have HL := Lib.hid HL0
 have h25 : ls.length ≤ 25 := by unfold gu at hgo; simp only [Bool.and_eq_true, decide_eq_true_eq] at hgo; exact hgo.1
 have wF : ∀ s ∈ ls, WStIn w s ∧ iP s.n ∧ bf s = true := fun s hs => ⟨(hsi s hs).1, (hsi s hs).2, by unfold gu at hgo; simp only [Bool.and_eq_true, List.all_eq_true] at hgo; exact hgo.2 s hs⟩
 clear HL0 hgo hsi
 go_enter Tryz.func5, Tryz.ntmps5
 go_upto_region 3 with (go_at_call 18; (with_reducible refine HL.out.mono ?_); rintro e w0 ⟨rfl, hb0⟩)
 have hst : ∀ s ∈ ls, WStIn w0 s ∧ iP s.n ∧ bf s = true := fun s hs => by
  obtain ⟨⟨h1, h2, h3⟩, h4, h5⟩ := wF s hs
  exact ⟨⟨⟨h1.dots.kept hb0, h1.over, h1.name, h1.domain, h1.path, h1.value, h1.nil, fun A off e1 e2 => Nat.lt_of_lt_of_le (h1.old A off e1 e2) hb0.size⟩, h2.kept hb0, h3⟩, h4, h5⟩
 replace hcs := hcs.kept hb0
 have HB0 := Lib.hid hb0
 clear wF hb0 HL
 go_wp2_with (go_at_call 7; (with_reducible refine (HNW.out _).mono ?_); rintro e wN ⟨rfl, hN, hbN⟩)
 have hNz := hbN.size
 go_loopw [5] (fun i wr => ∃ (k : Nat) (D : DataW Unit) (a : Option Addr) (l : List RF) (cap : Nat), i = .int .i64 k ∧ k ≤ ls.length ∧ DkIn wr (fun q => w0.heap.size ≤ q) (w0.heap.size + 1) (gq (ls.take k)) w0.heap.size D ∧ B3 wr wN.heap.size 62 (.slice a l.length cap) (.int .i64 (gq (ls.take k)).arm) (.bool (gq (ls.take k)).down) ∧ RFsIn wr a l ∧ l.length ≤ cap ∧ az l = (gq (ls.take k)).f ∧ Below w0.heap.size w0 wr) (fun i _ => ls.length - (intOf i).toNat)
 case atStart => exact ⟨0, _, none, [], 0, rfl, Nat.zero_le _, hN.below ((Below.refl _ _).alloc (Nat.le_refl _) _), aF _ _, ⟨Or.inl rfl, fun g hg => (nomatch hg)⟩, Nat.le_refl _, rfl, hbN.alloc hbN.size _⟩
 case round =>
  obtain ⟨k, D, a, l, cap, rfl, hk, hDk, hB, hin, hlc, hl, hbw⟩ := hrel
  have hi := qU (ls.take k)
  by_cases hlt : k < ls.length
  ·obtain ⟨A, off, rfl, hr⟩ := uI hcs hlt
   have hAl : A < w0.heap.size := World.block_lt_of_cell? w0 _ (hr 0 _ rfl)
   have hrw := range_kept hr hbw
   have hsl := hst _ (List.getElem_mem hlt)
   have HSn := Lib.hid (oC hlt)
   have HLT := Lib.hid hlt
   generalize ls[k] = s at hsl HSn hrw
   clear hr
   generalize gq (ls.take k) = S at *
   obtain ⟨S1, hS1⟩ : ∃ S1, S.wstep s = S1 := ⟨_, rfl⟩
   have hi1 : DInv S1 := by rw [← hS1]; exact hi.wstep s
   have HST : Hid (∀ X, Below wr.heap.size wr X → Calls Tryz.prog 19 #[.pointer (some ⟨w0.heap.size + 1, 0, none⟩), .agg #[.slice a l.length cap, .int .i64 S.arm, .bool S.down], .agg (aQ s).toArray] X (RetStepT (Ex wr (fun q => w0.heap.size ≤ q) (w0.heap.size + 1) w0.heap.size D) (w0.heap.size + 1) w0.heap.size S1 X)) := Lib.hid fun X hX => by
        rw [← hS1]
        exact sH s (hDk.exact.below hX) hi (fun q hq => ⟨Nat.lt_of_lt_of_le hq.2.1 hX.size, dG (hDk.plain q hq) (hX.block q hq.2.1)⟩) (fun q hq => mM (hDk.noInts q hq) (hX.block q hq.2.1)) (hin.kept hX) hlc hl ⟨⟨hsl.1.ev.dots.kept (hbw.trans (hX.mono hbw.size)), hsl.1.ev.over, hsl.1.ev.name, hsl.1.ev.domain, hsl.1.ev.path, hsl.1.ev.value, hsl.1.ev.nil, fun A off h1 h2 => Nat.lt_of_lt_of_le (hsl.1.ev.old A off h1 h2) (Nat.le_trans hbw.size hX.size)⟩, hsl.1.bytes.kept (hbw.trans (hX.mono hbw.size)), hsl.1.blen⟩ hsl.2.1 hsl.2.2
   rw [hS1] at HSn
   have hnN : ¬ Ex wr (fun q => w0.heap.size ≤ q) (w0.heap.size + 1) w0.heap.size D wN.heap.size := jw hB hDk
   have hnA : ¬ Ex wr (fun q => w0.heap.size ≤ q) (w0.heap.size + 1) w0.heap.size D A := fun e => by have := e.1; omega
   have hnw : ¬ Ex wr (fun q => w0.heap.size ≤ q) (w0.heap.size + 1) w0.heap.size D wr.heap.size := fun e => by have := e.2.1; omega
   have yX := hB.lt
   have hAr : A < wr.heap.size := Nat.lt_of_lt_of_le hAl hbw.size
   have hDr : wr.drew.rangeAt wN.heap.size 0 [.slice a l.length cap, .int .i64 S.arm, .bool S.down] := hB.range
   have hQr : wr.drew.rangeAt A (off + k * 24) (aQ s) := hrw
   have hbd : Below wr.heap.size wr wr.drew := (Below.refl _ _).drew
   have hbz := hbw.size
   have HB := Lib.hid hB
   clear hS1 hi hsl hDk hin hlc hl hB hrw
   have hlen : k < ls.length := HLT.out
   go_upto_region 8 with fail
   refine wp_region_noPanic ?_
   refine wp_region_held_drew (S := fun W' => W'.rangeAt wN.heap.size 0 [.slice a l.length cap, .int .i64 S.arm, .bool S.down] ∧ W'.rangeAt A (off + k * 24) (aQ s)) (by kernel_rfl) ⟨hDr, hQr⟩ (fun hHeld => ?_)
   refine tH (v := ?_) 0 21 rfl (Or.inl ⟨by rfl, ?_⟩) ?_
   case refine_2 => exact z2
   try simp only [pS]
   refine tH 1 22 rfl (yieldsIf_load_mid (by rfl) 62 _ rfl wN.heap.size 0 rfl [.slice a l.length cap, .int .i64 S.arm, .bool S.down] _ (fun X h => h.1) Tryz.underlying62 rfl (by kernel_rfl)) ?_
   try simp only [pS]
   refine tH (v := ?_) 2 23 rfl (Or.inl ⟨by rfl, ?_⟩) ?_
   case refine_2 => exact z2
   try simp only [pS]
   refine tH (v := ?_) 3 24 rfl (Or.inl ⟨by rfl, ?_⟩) ?_
   case refine_2 => exact z2
   try simp only [pS]
   refine tH (v := ?_) 4 25 rfl (Or.inl ⟨by rfl, ?_⟩) ?_
   case refine_2 => exact z2
   try simp only [pS]
   refine tH 5 26 rfl (yieldsIf_load_mid (by rfl) 67 _ rfl A (off + k * 24) rfl (aQ s) _ (fun X h => h.2) Tryz.underlying67 rfl (by kernel_rfl)) ?_
   try simp only [pS]
   refine wpAnyH_ready (rs := [6, 10]) (by kernel_rfl) (by simp) ?_
   refine AllReadyH.cons (o := ⟨some 27, _, _, _, _, _⟩) rfl (fun K hK => ?_) (AllReadyH.cons (o := ⟨some 6, _, _, _, _, _⟩) rfl (fun K hK => ?_) AllReadyH.nil)
   focus
        (go_simp; go_at_call 19; (with_reducible refine (HST.out wr.drew hbd).mono ?_); intro e w2 hret; obtain ⟨a1, l1, c1, rfl, hin1, hc1, hl1, ⟨D1, hD1⟩, hf1, hbl⟩ := hret.law (Nat.le_trans hbz (hbd).size) (hbd).size; go_wp2_with fail)
        refine hK.out _ _ ⟨bT hDr hf1 hnN, bT hQr hf1 hnA⟩ (fun ai => ?_)
        clear hK K hHeld
        have hHeld := ai
        clear ai
        try simp only [pS]
        have mf := bT hDr hf1 hnN
        have l9 := bT hQr hf1 hnA
        have HL1 := Lib.hid hl1
        clear hl1
        refine tH (v := ?_) 7 20 rfl (Or.inl ⟨by rfl, ?_⟩) ?_
        case refine_2 => exact z2
        try simp only [pS]
        refine tH (v := ?_) 8 28 rfl (Or.inl ⟨by rfl, ?_⟩) ?_
        case refine_2 => exact z2
        try simp only [pS]
        refine tH (v := ?_) 9 29 rfl (Or.inl ⟨by rfl, ?_⟩) ?_
        case refine_2 => exact z2
        try simp only [pS]
        refine rH 10 6 rfl fun K hK => ?_
        go_simp
        refine hK.out _ _ ⟨rangeAt_kept mf ((Below.refl _ _).alloc (Nat.le_refl _) _), rangeAt_kept l9 ((Below.refl _ _).alloc (Nat.le_refl _) _)⟩ (fun ai => ?_)
        clear hK K hHeld
        have hHeld := ai
        clear ai
        try simp only [pS]
        have hal : Below w2.heap.size w2 (w2.alloc (Obj.cells #[.slice none 0 0, .int .i64 0, .bool false] 62)) := (Below.refl _ _).alloc (Nat.le_refl _) _
        have hX3 : B3 (w2.alloc (Obj.cells #[.slice none 0 0, .int .i64 0, .bool false] 62)) w2.heap.size 62 (.slice none 0 0) (.int .i64 0) (.bool false) := aF _ _
        have hwz : wr.heap.size ≤ w2.heap.size := hf1.size
        have m1 : wN.heap.size ≠ w2.heap.size := by omega
        have m2 : A ≠ w2.heap.size := by omega
        refine wpAnyH_ready (rs := [11]) (by kernel_rfl) (by simp) ?_
        refine AllReadyH.cons (o := ⟨none, _, _, _, _, _⟩) rfl (fun K hK => ?_) AllReadyH.nil
        refine aP (by rfl) 62 _ _ rfl (w2.heap.size) #[.slice a1 l1.length c1, .int .i64 S1.arm, .bool S1.down] rfl rfl 62 _ hX3 (by kernel_rfl) rfl (by kernel_rfl) ?_
        refine hK.out _ _ ⟨bP (rangeAt_kept mf hal) m1, bP (rangeAt_kept l9 hal) m2⟩ (fun ai => ?_)
        clear hK K hHeld
        have hHeld := ai
        clear ai
        try simp only [pS]
        refine tH (v := ?_) 12 7 rfl (Or.inl ⟨by rfl, ?_⟩) ?_
        case refine_2 => exact z2
        try simp only [pS]
        refine wpAnyH_done (by kernel_rfl) ?_ _
        refine NoPanic.normal ?_
        have hset := dw (w2.alloc (Obj.cells #[.slice none 0 0, .int .i64 0, .bool false] 62)) w2.heap.size #[.slice a1 l1.length c1, .int .i64 S1.arm, .bool S1.down]
        have hX4 := hX3.row (.slice a1 l1.length c1) (.int .i64 S1.arm) (.bool S1.down)
        have hB4 : B3 ((w2.alloc (Obj.cells #[.slice none 0 0, .int .i64 0, .bool false] 62)).setRow w2.heap.size #[.slice a1 l1.length c1, .int .i64 S1.arm, .bool S1.down]) wN.heap.size 62 (.slice a l.length cap) (.int .i64 S.arm) (.bool S.down) := (((HB.out.below hbd).fr hf1 hnN).below hal).fr hset (fun e => m1 e)
        have dR := (hin1.kept hal).fr hset (fun q hq => by subst hq; exact ⟨hX3.noByte ⟨trivial, trivial, trivial⟩, hX3.noStr ⟨trivial, trivial, trivial⟩⟩)
        have hD4 : DkIn ((w2.alloc (Obj.cells #[.slice none 0 0, .int .i64 0, .bool false] 62)).setRow w2.heap.size #[.slice a1 l1.length c1, .int .i64 S1.arm, .bool S1.down]) (fun q => w0.heap.size ≤ q) (w0.heap.size + 1) S1 w0.heap.size D1 := (DkIn.fr (hD1.below hal).exact hset (fun q hq => by subst hq; exact hX3.noByte ⟨trivial, trivial, trivial⟩) (fun q hq e => by subst e; exact jw hX3 (hD1.below hal) hq)).mono fun q hq => hq.1
        have lD : Below w0.heap.size w0 ((w2.alloc (Obj.cells #[.slice none 0 0, .int .i64 0, .bool false] 62)).setRow w2.heap.size #[.slice a1 l1.length c1, .int .i64 S1.arm, .bool S1.down]) := aJ ((hbw.trans ((hbd.mono hbz).trans hbl)).alloc (Nat.le_trans hbz hwz) _) (Nat.le_trans hbz hwz) _
        have m3 : wN.heap.size ≠ w2.heap.size := m1
        clear hal hX3 hset hin1 hD1 hf1 hbl mf l9 hDr hQr m1 m2 hwz hHeld
        generalize (w2.alloc (Obj.cells #[.slice none 0 0, .int .i64 0, .bool false] 62)).setRow w2.heap.size #[.slice a1 l1.length c1, .int .i64 S1.arm, .bool S1.down] = w5 at *
        generalize w2.heap.size = Xb at *
        have HD4 := Lib.hid hD4
        have HI4 := Lib.hid dR
        clear hD4 dR HST hnN hnA hnw hbd hbw HB
        obtain ⟨z0, z1, z2, t0, t1, t2⟩ := hX4.cells
        obtain ⟨d0, d1, d2, e0, e1, e2⟩ := hB4.cells
        go_upto_region 10 with (refine wpList_store_row rfl 62 _ _ rfl wN.heap.size #[.slice a1 l1.length c1, .int .i64 S1.arm, .bool S1.down] rfl rfl 62 _ hB4 (by kernel_rfl) rfl (by kernel_rfl) ?_)
        have hset := dw w5 wN.heap.size #[.slice a1 l1.length c1, .int .i64 S1.arm, .bool S1.down]
        have hB6 := hB4.row (.slice a1 l1.length c1) (.int .i64 S1.arm) (.bool S1.down)
        have nY : RFsIn (w5.setRow wN.heap.size #[.slice a1 l1.length c1, .int .i64 S1.arm, .bool S1.down]) a1 l1 := HI4.out.fr hset (fun q hq => by subst hq; exact kH hB4)
        have hD6 : DkIn (w5.setRow wN.heap.size #[.slice a1 l1.length c1, .int .i64 S1.arm, .bool S1.down]) (fun q => w0.heap.size ≤ q) (w0.heap.size + 1) S1 w0.heap.size D1 := (DkIn.fr HD4.out.exact hset (fun q hq => by subst hq; exact (kH hB4).1) (fun q hq e => by subst e; exact jw hB4 HD4.out hq)).mono fun q hq => hq.1
        have xB : Below w0.heap.size w0 (w5.setRow wN.heap.size #[.slice a1 l1.length c1, .int .i64 S1.arm, .bool S1.down]) := aJ lD hNz _
        clear hset hB4 hX4 z0 z1 z2 t0 t1 t2 d0 d1 d2 e0 e1 e2 HD4 HI4 lD m3
        generalize w5.setRow wN.heap.size #[.slice a1 l1.length c1, .int .i64 S1.arm, .bool S1.down] = w6 at *
        clear w5
        have xy : l1.length ≤ 16777216 := by have := congrArg List.length HL1.out; rw [List.length_map] at this; have := hi1.len; omega
        have hBr : Below w6.heap.size w6 w6.drew := (Below.refl _ _).drew
        have hBd : B3 w6.drew wN.heap.size 62 (.slice a1 l1.length c1) (.int .i64 S1.arm) (.bool S1.down) := hB6
        obtain ⟨x0, x1, x2, y0, y1, y2⟩ := hBd.cells
        have k0 : w6.cell? ⟨wN.heap.size, 0, none⟩ = some (.slice a1 l1.length c1) := x0
        have k1 : w6.cell? ⟨wN.heap.size, 1, none⟩ = some (.int .i64 S1.arm) := x1
        have k2 : w6.cell? ⟨wN.heap.size, 2, none⟩ = some (.bool S1.down) := x2
        have HD6 := Lib.hid hD6
        have HI6 := Lib.hid nY
        have HI1 := Lib.hid hi1
        have hlen2 : k < ls.length := HLT.out
        clear hD6 nY hi1
        cases hdn : S1.down with
        | true =>
          have jf := fun X (hX : Below w6.heap.size w6 X) => sF (a := a1) (cap := c1) (l := l1) (HD6.out.below hX) HI1.out (HI6.out.kept hX) HL1.out hdn
          rw [hdn] at jf hBd k2 x2
          have HIs : Hid (∀ X, Below w6.heap.size w6 X → Calls Tryz.prog 20 #[.pointer (some ⟨w0.heap.size + 1, 0, none⟩), .agg #[.slice a1 l1.length c1, .int .i64 S1.arm, .bool true]] X _) := Lib.hid jf
          have HDN := Lib.hid hdn
          clear jf hdn
          have hRd : w6.drew.rangeAt wN.heap.size 0 [.slice a1 l1.length c1, .int .i64 S1.arm, .bool true] := hBd.range
          have hR6 : w6.rangeAt wN.heap.size 0 [.slice a1 l1.length c1, .int .i64 S1.arm, .bool true] := hRd
          refine wp_region_noPanic ?_
          refine wp_region_held_drew (S := fun W' => W'.rangeAt wN.heap.size 0 [.slice a1 l1.length c1, .int .i64 S1.arm, .bool true]) (by kernel_rfl) hRd (fun hHeld => ?_)
          refine tH (v := ?_) 0 31 rfl (Or.inl ⟨by rfl, ?_⟩) ?_
          case refine_2 => exact z2
          try simp only [pS]
          refine tH (v := ?_) 1 32 rfl (Or.inl ⟨by rfl, ?_⟩) ?_
          case refine_2 => exact z2
          try simp only [pS]
          refine tH (v := ?_) 2 33 rfl (Or.inl ⟨by rfl, ?_⟩) ?_
          case refine_2 => exact z2
          try simp only [pS]
          refine tH (v := ?_) 3 34 rfl (Or.inl ⟨by rfl, ?_⟩) ?_
          case refine_2 => exact z2
          try simp only [pS]
          refine tH 4 35 rfl (yieldsIf_load_mid (by rfl) 62 _ rfl wN.heap.size 0 rfl [.slice a1 l1.length c1, .int .i64 S1.arm, .bool true] _ (fun X h => h) Tryz.underlying62 rfl (by kernel_rfl)) ?_
          try simp only [pS]
          refine rH 5 36 rfl fun K hK => ?_
          (go_simp; go_at_call 20; (with_reducible refine (HIs.out _ hBr).mono ?_); rintro v w7 ⟨rfl, hb7⟩; replace hBr := below2 hBr hb7; go_wp2_with fail)
          refine hK.out _ _ (rangeAt_kept hR6 hBr) (fun ai => ?_)
          clear hK K hHeld
          have hHeld := ai
          clear ai
          try simp only [pS]
          refine tH (v := ?_) 6 37 rfl (Or.inl ⟨by rfl, ?_⟩) ?_
          case refine_2 => exact z2
          try simp only [pS]
          refine tH (v := ?_) 7 38 rfl (Or.inl ⟨by rfl, ?_⟩) ?_
          case refine_2 => exact z2
          try simp only [pS]
          refine tH (v := ?_) 8 39 rfl (Or.inl ⟨by rfl, ?_⟩) ?_
          case refine_2 => exact z2
          try simp only [pS]
          refine tH (v := ?_) 9 40 rfl (Or.inl ⟨by rfl, ?_⟩) ?_
          case refine_2 => exact z2
          try simp only [pS]
          refine tH (v := ?_) 10 41 rfl (Or.inl ⟨by rfl, ?_⟩) ?_
          case refine_2 => exact z30
          try simp only [pS]
          refine tH (v := ?_) 11 42 rfl (Or.inl ⟨by rfl, ?_⟩) ?_
          case refine_2 => exact z2
          try simp only [pS]
          refine tH (v := ?_) 12 43 rfl (Or.inl ⟨by rfl, ?_⟩) ?_
          case refine_2 => exact z2
          try simp only [pS]
          refine wpAnyH_take (i := 13) (oi := ⟨some 44, _, _, _, _, _⟩) (v := undef) rfl (by kernel_rfl) (by kernel_rfl) (by kernel_rfl) (fun _ _ _ h => h) (Or.inr ⟨by rfl, rfl⟩) (by assumption) ?_
          try simp only [pS]
          refine wpAnyH_take (i := 14) (oi := ⟨some 45, _, _, _, _, _⟩) (v := undef) rfl (by kernel_rfl) (by kernel_rfl) (by kernel_rfl) (fun _ _ _ h => h) (Or.inr ⟨by rfl, rfl⟩) (by assumption) ?_
          try simp only [pS]
          refine wpAnyH_take (i := 15) (oi := ⟨some 46, _, _, _, _, _⟩) (v := undef) rfl (by kernel_rfl) (by kernel_rfl) (by kernel_rfl) (fun _ _ _ h => h) (Or.inr ⟨by rfl, rfl⟩) (by assumption) ?_
          try simp only [pS]
          refine wpAnyH_take (i := 16) (oi := ⟨some 47, _, _, _, _, _⟩) (v := undef) rfl (by kernel_rfl) (by kernel_rfl) (by kernel_rfl) (fun _ _ _ h => h) (Or.inr ⟨by rfl, rfl⟩) (by assumption) ?_
          try simp only [pS]
          refine wpAnyH_take (i := 17) (oi := ⟨some 48, _, _, _, _, _⟩) (v := undef) rfl (by kernel_rfl) (by kernel_rfl) (by kernel_rfl) (fun _ _ _ h => h) (Or.inr ⟨by rfl, rfl⟩) (by assumption) ?_
          try simp only [pS]
          refine wpAnyH_take (i := 18) (oi := ⟨some 49, _, _, _, _, _⟩) (v := undef) rfl (by kernel_rfl) (by kernel_rfl) (by kernel_rfl) (fun _ _ _ h => h) (Or.inr ⟨by rfl, rfl⟩) (by assumption) ?_
          try simp only [pS]
          refine tH (v := ?_) 19 50 rfl (Or.inl ⟨by rfl, ?_⟩) ?_
          case refine_2 => exact z2
          try simp only [pS]
          refine tH (v := ?_) 20 51 rfl (Or.inl ⟨by rfl, ?_⟩) ?_
          case refine_2 => exact z2
          try simp only [pS]
          refine wpAnyH_done (by kernel_rfl) ?_ _
          refine NoPanic.normal ?_
          all_goals
           go_wp2
           go_roundw
           case rel => exact z12
           case measure => exact z39
        | false =>
          have jf := fun X (hX : Below w6.heap.size w6 X) => vS (a := a1) (cap := c1) (l := l1) (HD6.out.below hX) HI1.out (HI6.out.kept hX) HL1.out hdn
          have oq := fun X (hX : Below w6.heap.size w6 X) => iD (HD6.out.below hX) HI1.out
          have fF := fun X (hX : Below w6.heap.size w6 X) => fM a1 c1 S1.arm S1.down l1 X HL1.out xy (HI6.out.kept hX)
          have hsz : eQ S1 = (aV S1).length := by unfold eQ; rw [if_neg (by rw [hdn]; decide)]
          rw [hsz] at oq
          rw [hdn] at jf fF hBd k2 x2
          have hwl := iF HI1.out
          generalize (aV S1).length = m at oq fF hwl
          have HIs : Hid (∀ X, Below w6.heap.size w6 X → Calls Tryz.prog 20 #[.pointer (some ⟨w0.heap.size + 1, 0, none⟩), .agg #[.slice a1 l1.length c1, .int .i64 S1.arm, .bool false]] X _) := Lib.hid jf
          have HSz := Lib.hid oq
          have HBy : Hid (∀ X, Below w6.heap.size w6 X → Calls Tryz.prog 21 #[.agg #[.slice a1 l1.length c1, .int .i64 S1.arm, .bool false]] X _) := Lib.hid fF
          have HDN := Lib.hid hdn
          have hm1 : ((m : Int) != (m : Int)) = false := by simp
          have hm2 : (m != m) = false := by simp
          clear jf oq fF hdn hsz
          have hRd : w6.drew.rangeAt wN.heap.size 0 [.slice a1 l1.length c1, .int .i64 S1.arm, .bool false] := hBd.range
          have hR6 : w6.rangeAt wN.heap.size 0 [.slice a1 l1.length c1, .int .i64 S1.arm, .bool false] := hRd
          refine wp_region_noPanic ?_
          refine wp_region_held_drew (S := fun W' => W'.rangeAt wN.heap.size 0 [.slice a1 l1.length c1, .int .i64 S1.arm, .bool false]) (by kernel_rfl) hRd (fun hHeld => ?_)
          refine tH (v := ?_) 0 31 rfl (Or.inl ⟨by rfl, ?_⟩) ?_
          case refine_2 => exact z2
          try simp only [pS]
          refine tH (v := ?_) 1 32 rfl (Or.inl ⟨by rfl, ?_⟩) ?_
          case refine_2 => exact z2
          try simp only [pS]
          refine tH (v := ?_) 2 33 rfl (Or.inl ⟨by rfl, ?_⟩) ?_
          case refine_2 => exact z2
          try simp only [pS]
          refine tH (v := ?_) 3 34 rfl (Or.inl ⟨by rfl, ?_⟩) ?_
          case refine_2 => exact z2
          try simp only [pS]
          refine tH 4 35 rfl (yieldsIf_load_mid (by rfl) 62 _ rfl wN.heap.size 0 rfl [.slice a1 l1.length c1, .int .i64 S1.arm, .bool false] _ (fun X h => h) Tryz.underlying62 rfl (by kernel_rfl)) ?_
          try simp only [pS]
          refine rH 5 36 rfl fun K hK => ?_
          (go_simp; go_at_call 20; (with_reducible refine (HIs.out _ hBr).mono ?_); rintro v w7 ⟨rfl, hb7⟩; replace hBr := below2 hBr hb7; go_wp2_with fail)
          refine hK.out _ _ (rangeAt_kept hR6 hBr) (fun ai => ?_)
          clear hK K hHeld
          have hHeld := ai
          clear ai
          try simp only [pS]
          refine tH (v := ?_) 6 37 rfl (Or.inl ⟨by rfl, ?_⟩) ?_
          case refine_2 => exact z2
          try simp only [pS]
          refine tH (v := ?_) 7 38 rfl (Or.inl ⟨by rfl, ?_⟩) ?_
          case refine_2 => exact z2
          try simp only [pS]
          refine tH (v := ?_) 8 39 rfl (Or.inl ⟨by rfl, ?_⟩) ?_
          case refine_2 => exact z2
          try simp only [pS]
          refine tH (v := ?_) 9 40 rfl (Or.inl ⟨by rfl, ?_⟩) ?_
          case refine_2 => exact z2
          try simp only [pS]
          refine tH (v := ?_) 10 41 rfl (Or.inl ⟨by rfl, ?_⟩) ?_
          case refine_2 => exact z30
          try simp only [pS]
          refine tH (v := ?_) 11 42 rfl (Or.inl ⟨by rfl, ?_⟩) ?_
          case refine_2 => exact z2
          try simp only [pS]
          refine tH (v := ?_) 12 43 rfl (Or.inl ⟨by rfl, ?_⟩) ?_
          case refine_2 => exact z2
          try simp only [pS]
          refine tH (v := ?_) 13 44 rfl (Or.inl ⟨by rfl, ?_⟩) ?_
          case refine_2 => exact z2
          try simp only [pS]
          refine tH 15 46 rfl (yieldsIf_load_mid (by rfl) 62 _ rfl wN.heap.size 0 rfl [.slice a1 l1.length c1, .int .i64 S1.arm, .bool false] _ (fun X h => h) Tryz.underlying62 rfl (by kernel_rfl)) ?_
          try simp only [pS]
          refine rH 14 45 rfl fun K hK => ?_
          (go_simp; go_at_call 17; (with_reducible refine (HSz.out _ hBr).mono ?_); rintro v w8 ⟨rfl, hb7⟩; replace hBr := below2 hBr hb7; go_wp2_with fail)
          refine hK.out _ _ (rangeAt_kept hR6 hBr) (fun ai => ?_)
          clear hK K hHeld
          have hHeld := ai
          clear ai
          try simp only [pS]
          refine rH 16 47 rfl fun K hK => ?_
          (go_simp; go_at_call 21; (with_reducible refine (HBy.out _ hBr).mono ?_); rintro v w9 ⟨ab, cb, rfl, -, -, hb7⟩; replace hBr := below2 hBr hb7; go_wp2_with fail)
          refine hK.out _ _ (rangeAt_kept hR6 hBr) (fun ai => ?_)
          clear hK K hHeld
          have hHeld := ai
          clear ai
          try simp only [pS]
          refine tH (v := ?_) 17 48 rfl (Or.inl ⟨by rfl, ?_⟩) ?_
          case refine_2 => exact z2
          try simp only [pS]
          refine tH (v := ?_) 18 49 rfl (Or.inl ⟨by rfl, ?_⟩) ?_
          case refine_2 => exact z2
          try simp only [pS]
          refine tH (v := ?_) 19 50 rfl (Or.inl ⟨by rfl, ?_⟩) ?_
          case refine_2 => exact z2
          try simp only [pS]
          refine tH (v := ?_) 20 51 rfl (Or.inl ⟨by rfl, ?_⟩) ?_
          case refine_2 => exact z2
          try simp only [pS]
          refine wpAnyH_done (by kernel_rfl) ?_ _
          refine NoPanic.normal ?_
          all_goals
           go_wp2
           go_roundw
           case rel => exact z12
           case measure => exact z39
   focus
        go_simp
        refine hK.out _ _ ⟨rangeAt_kept hDr ((Below.refl _ _).alloc (Nat.le_refl _) _), rangeAt_kept hQr ((Below.refl _ _).alloc (Nat.le_refl _) _)⟩ (fun ai => ?_)
        clear hK K hHeld
        have hHeld := ai
        clear ai
        try simp only [pS]
        have hal : Below wr.heap.size wr (wr.alloc (Obj.cells #[.slice none 0 0, .int .i64 0, .bool false] 62)).drew := ((Below.refl _ _).alloc (Nat.le_refl _) _).drew
        have hX3 : B3 (wr.alloc (Obj.cells #[.slice none 0 0, .int .i64 0, .bool false] 62)).drew wr.heap.size 62 (.slice none 0 0) (.int .i64 0) (.bool false) := aF wr _
        have hDa := rangeAt_kept (show wr.rangeAt wN.heap.size 0 [.slice a l.length cap, .int .i64 S.arm, .bool S.down] from hDr) (((Below.refl wr.heap.size wr).alloc (Nat.le_refl _) (Obj.cells #[.slice none 0 0, .int .i64 0, .bool false] 62)).drew)
        have hQa := rangeAt_kept (show wr.rangeAt A (off + k * 24) (aQ s) from hQr) (((Below.refl wr.heap.size wr).alloc (Nat.le_refl _) (Obj.cells #[.slice none 0 0, .int .i64 0, .bool false] 62)).drew)
        have m1 : wN.heap.size ≠ wr.heap.size := by omega
        have m2 : A ≠ wr.heap.size := by omega
        refine rH 6 27 rfl fun K hK => ?_
        (go_simp; go_at_call 19; (with_reducible refine (HST.out _ hal).mono ?_); intro e w2 hret; obtain ⟨a1, l1, c1, rfl, hin1, hc1, hl1, ⟨D1, hD1⟩, hf1, hbl⟩ := hret.law (Nat.le_trans hbz (hal).size) (hal).size; go_wp2_with fail)
        refine hK.out _ _ ⟨bT hDa hf1 hnN, bT hQa hf1 hnA⟩ (fun ai => ?_)
        clear hK K hHeld
        have hHeld := ai
        clear ai
        try simp only [pS]
        have mf := bT hDa hf1 hnN
        have l9 := bT hQa hf1 hnA
        have HL1 := Lib.hid hl1
        clear hl1
        have hX5 := hX3.fr hf1 hnw
        refine tH (v := ?_) 7 20 rfl (Or.inl ⟨by rfl, ?_⟩) ?_
        case refine_2 => exact z2
        try simp only [pS]
        refine tH (v := ?_) 8 28 rfl (Or.inl ⟨by rfl, ?_⟩) ?_
        case refine_2 => exact z2
        try simp only [pS]
        refine tH (v := ?_) 9 29 rfl (Or.inl ⟨by rfl, ?_⟩) ?_
        case refine_2 => exact z2
        try simp only [pS]
        refine wpAnyH_ready (rs := [11]) (by kernel_rfl) (by simp) ?_
        refine AllReadyH.cons (o := ⟨none, _, _, _, _, _⟩) rfl (fun K hK => ?_) AllReadyH.nil
        refine aP (by rfl) 62 _ _ rfl (wr.heap.size) #[.slice a1 l1.length c1, .int .i64 S1.arm, .bool S1.down] rfl rfl 62 _ hX5 (by kernel_rfl) rfl (by kernel_rfl) ?_
        refine hK.out _ _ ⟨bP mf m1, bP l9 m2⟩ (fun ai => ?_)
        clear hK K hHeld
        have hHeld := ai
        clear ai
        try simp only [pS]
        refine tH (v := ?_) 12 7 rfl (Or.inl ⟨by rfl, ?_⟩) ?_
        case refine_2 => exact z2
        try simp only [pS]
        refine wpAnyH_done (by kernel_rfl) ?_ _
        refine NoPanic.normal ?_
        have hset := dw w2 wr.heap.size #[.slice a1 l1.length c1, .int .i64 S1.arm, .bool S1.down]
        have hX4 := hX5.row (.slice a1 l1.length c1) (.int .i64 S1.arm) (.bool S1.down)
        have hB4 : B3 (w2.setRow wr.heap.size #[.slice a1 l1.length c1, .int .i64 S1.arm, .bool S1.down]) wN.heap.size 62 (.slice a l.length cap) (.int .i64 S.arm) (.bool S.down) := ((HB.out.below hal).fr hf1 hnN).fr hset (fun e => m1 e)
        have dR := hin1.fr hset (fun q hq => by subst hq; exact ⟨hX5.noByte ⟨trivial, trivial, trivial⟩, hX5.noStr ⟨trivial, trivial, trivial⟩⟩)
        have hD4 : DkIn (w2.setRow wr.heap.size #[.slice a1 l1.length c1, .int .i64 S1.arm, .bool S1.down]) (fun q => w0.heap.size ≤ q) (w0.heap.size + 1) S1 w0.heap.size D1 := (DkIn.fr hD1.exact hset (fun q hq => by subst hq; exact hX5.noByte ⟨trivial, trivial, trivial⟩) (fun q hq e => by subst e; exact jw hX5 hD1 hq)).mono fun q hq => hq.1
        have lD : Below w0.heap.size w0 (w2.setRow wr.heap.size #[.slice a1 l1.length c1, .int .i64 S1.arm, .bool S1.down]) := aJ (hbw.trans ((hal.mono hbz).trans hbl)) hbz _
        have m3 : wN.heap.size ≠ wr.heap.size := m1
        clear hal hX3 hX5 hset hin1 hD1 hf1 hbl mf l9 hDr hQr hDa hQa m1 m2 hHeld
        generalize w2.setRow wr.heap.size #[.slice a1 l1.length c1, .int .i64 S1.arm, .bool S1.down] = w5 at *
        generalize wr.heap.size = Xb at *
        have HD4 := Lib.hid hD4
        have HI4 := Lib.hid dR
        clear hD4 dR HST hnN hnA hnw hbd hbw HB
        obtain ⟨z0, z1, z2, t0, t1, t2⟩ := hX4.cells
        obtain ⟨d0, d1, d2, e0, e1, e2⟩ := hB4.cells
        go_upto_region 10 with (refine wpList_store_row rfl 62 _ _ rfl wN.heap.size #[.slice a1 l1.length c1, .int .i64 S1.arm, .bool S1.down] rfl rfl 62 _ hB4 (by kernel_rfl) rfl (by kernel_rfl) ?_)
        have hset := dw w5 wN.heap.size #[.slice a1 l1.length c1, .int .i64 S1.arm, .bool S1.down]
        have hB6 := hB4.row (.slice a1 l1.length c1) (.int .i64 S1.arm) (.bool S1.down)
        have nY : RFsIn (w5.setRow wN.heap.size #[.slice a1 l1.length c1, .int .i64 S1.arm, .bool S1.down]) a1 l1 := HI4.out.fr hset (fun q hq => by subst hq; exact kH hB4)
        have hD6 : DkIn (w5.setRow wN.heap.size #[.slice a1 l1.length c1, .int .i64 S1.arm, .bool S1.down]) (fun q => w0.heap.size ≤ q) (w0.heap.size + 1) S1 w0.heap.size D1 := (DkIn.fr HD4.out.exact hset (fun q hq => by subst hq; exact (kH hB4).1) (fun q hq e => by subst e; exact jw hB4 HD4.out hq)).mono fun q hq => hq.1
        have xB : Below w0.heap.size w0 (w5.setRow wN.heap.size #[.slice a1 l1.length c1, .int .i64 S1.arm, .bool S1.down]) := aJ lD hNz _
        clear hset hB4 hX4 z0 z1 z2 t0 t1 t2 d0 d1 d2 e0 e1 e2 HD4 HI4 lD m3
        generalize w5.setRow wN.heap.size #[.slice a1 l1.length c1, .int .i64 S1.arm, .bool S1.down] = w6 at *
        clear w5
        have xy : l1.length ≤ 16777216 := by have := congrArg List.length HL1.out; rw [List.length_map] at this; have := hi1.len; omega
        have hBr : Below w6.heap.size w6 w6.drew := (Below.refl _ _).drew
        have hBd : B3 w6.drew wN.heap.size 62 (.slice a1 l1.length c1) (.int .i64 S1.arm) (.bool S1.down) := hB6
        obtain ⟨x0, x1, x2, y0, y1, y2⟩ := hBd.cells
        have k0 : w6.cell? ⟨wN.heap.size, 0, none⟩ = some (.slice a1 l1.length c1) := x0
        have k1 : w6.cell? ⟨wN.heap.size, 1, none⟩ = some (.int .i64 S1.arm) := x1
        have k2 : w6.cell? ⟨wN.heap.size, 2, none⟩ = some (.bool S1.down) := x2
        have HD6 := Lib.hid hD6
        have HI6 := Lib.hid nY
        have HI1 := Lib.hid hi1
        have hlen2 : k < ls.length := HLT.out
        clear hD6 nY hi1
        cases hdn : S1.down with
        | true =>
          have jf := fun X (hX : Below w6.heap.size w6 X) => sF (a := a1) (cap := c1) (l := l1) (HD6.out.below hX) HI1.out (HI6.out.kept hX) HL1.out hdn
          rw [hdn] at jf hBd k2 x2
          have HIs : Hid (∀ X, Below w6.heap.size w6 X → Calls Tryz.prog 20 #[.pointer (some ⟨w0.heap.size + 1, 0, none⟩), .agg #[.slice a1 l1.length c1, .int .i64 S1.arm, .bool true]] X _) := Lib.hid jf
          have HDN := Lib.hid hdn
          clear jf hdn
          have hRd : w6.drew.rangeAt wN.heap.size 0 [.slice a1 l1.length c1, .int .i64 S1.arm, .bool true] := hBd.range
          have hR6 : w6.rangeAt wN.heap.size 0 [.slice a1 l1.length c1, .int .i64 S1.arm, .bool true] := hRd
          refine wp_region_noPanic ?_
          refine wp_region_held_drew (S := fun W' => W'.rangeAt wN.heap.size 0 [.slice a1 l1.length c1, .int .i64 S1.arm, .bool true]) (by kernel_rfl) hRd (fun hHeld => ?_)
          refine tH (v := ?_) 0 31 rfl (Or.inl ⟨by rfl, ?_⟩) ?_
          case refine_2 => exact z2
          try simp only [pS]
          refine tH (v := ?_) 1 32 rfl (Or.inl ⟨by rfl, ?_⟩) ?_
          case refine_2 => exact z2
          try simp only [pS]
          refine tH (v := ?_) 2 33 rfl (Or.inl ⟨by rfl, ?_⟩) ?_
          case refine_2 => exact z2
          try simp only [pS]
          refine tH (v := ?_) 3 34 rfl (Or.inl ⟨by rfl, ?_⟩) ?_
          case refine_2 => exact z2
          try simp only [pS]
          refine tH 4 35 rfl (yieldsIf_load_mid (by rfl) 62 _ rfl wN.heap.size 0 rfl [.slice a1 l1.length c1, .int .i64 S1.arm, .bool true] _ (fun X h => h) Tryz.underlying62 rfl (by kernel_rfl)) ?_
          try simp only [pS]
          refine rH 5 36 rfl fun K hK => ?_
          (go_simp; go_at_call 20; (with_reducible refine (HIs.out _ hBr).mono ?_); rintro v w7 ⟨rfl, hb7⟩; replace hBr := below2 hBr hb7; go_wp2_with fail)
          refine hK.out _ _ (rangeAt_kept hR6 hBr) (fun ai => ?_)
          clear hK K hHeld
          have hHeld := ai
          clear ai
          try simp only [pS]
          refine tH (v := ?_) 6 37 rfl (Or.inl ⟨by rfl, ?_⟩) ?_
          case refine_2 => exact z2
          try simp only [pS]
          refine tH (v := ?_) 7 38 rfl (Or.inl ⟨by rfl, ?_⟩) ?_
          case refine_2 => exact z2
          try simp only [pS]
          refine tH (v := ?_) 8 39 rfl (Or.inl ⟨by rfl, ?_⟩) ?_
          case refine_2 => exact z2
          try simp only [pS]
          refine tH (v := ?_) 9 40 rfl (Or.inl ⟨by rfl, ?_⟩) ?_
          case refine_2 => exact z2
          try simp only [pS]
          refine tH (v := ?_) 10 41 rfl (Or.inl ⟨by rfl, ?_⟩) ?_
          case refine_2 => exact z30
          try simp only [pS]
          refine tH (v := ?_) 11 42 rfl (Or.inl ⟨by rfl, ?_⟩) ?_
          case refine_2 => exact z2
          try simp only [pS]
          refine tH (v := ?_) 12 43 rfl (Or.inl ⟨by rfl, ?_⟩) ?_
          case refine_2 => exact z2
          try simp only [pS]
          refine wpAnyH_take (i := 13) (oi := ⟨some 44, _, _, _, _, _⟩) (v := undef) rfl (by kernel_rfl) (by kernel_rfl) (by kernel_rfl) (fun _ _ _ h => h) (Or.inr ⟨by rfl, rfl⟩) (by assumption) ?_
          try simp only [pS]
          refine wpAnyH_take (i := 14) (oi := ⟨some 45, _, _, _, _, _⟩) (v := undef) rfl (by kernel_rfl) (by kernel_rfl) (by kernel_rfl) (fun _ _ _ h => h) (Or.inr ⟨by rfl, rfl⟩) (by assumption) ?_
          try simp only [pS]
          refine wpAnyH_take (i := 15) (oi := ⟨some 46, _, _, _, _, _⟩) (v := undef) rfl (by kernel_rfl) (by kernel_rfl) (by kernel_rfl) (fun _ _ _ h => h) (Or.inr ⟨by rfl, rfl⟩) (by assumption) ?_
          try simp only [pS]
          refine wpAnyH_take (i := 16) (oi := ⟨some 47, _, _, _, _, _⟩) (v := undef) rfl (by kernel_rfl) (by kernel_rfl) (by kernel_rfl) (fun _ _ _ h => h) (Or.inr ⟨by rfl, rfl⟩) (by assumption) ?_
          try simp only [pS]
          refine wpAnyH_take (i := 17) (oi := ⟨some 48, _, _, _, _, _⟩) (v := undef) rfl (by kernel_rfl) (by kernel_rfl) (by kernel_rfl) (fun _ _ _ h => h) (Or.inr ⟨by rfl, rfl⟩) (by assumption) ?_
          try simp only [pS]
          refine wpAnyH_take (i := 18) (oi := ⟨some 49, _, _, _, _, _⟩) (v := undef) rfl (by kernel_rfl) (by kernel_rfl) (by kernel_rfl) (fun _ _ _ h => h) (Or.inr ⟨by rfl, rfl⟩) (by assumption) ?_
          try simp only [pS]
          refine tH (v := ?_) 19 50 rfl (Or.inl ⟨by rfl, ?_⟩) ?_
          case refine_2 => exact z2
          try simp only [pS]
          refine tH (v := ?_) 20 51 rfl (Or.inl ⟨by rfl, ?_⟩) ?_
          case refine_2 => exact z2
          try simp only [pS]
          refine wpAnyH_done (by kernel_rfl) ?_ _
          refine NoPanic.normal ?_
          all_goals
           go_wp2
           go_roundw
           case rel => exact z12
           case measure => exact z39
        | false =>
          have jf := fun X (hX : Below w6.heap.size w6 X) => vS (a := a1) (cap := c1) (l := l1) (HD6.out.below hX) HI1.out (HI6.out.kept hX) HL1.out hdn
          have oq := fun X (hX : Below w6.heap.size w6 X) => iD (HD6.out.below hX) HI1.out
          have fF := fun X (hX : Below w6.heap.size w6 X) => fM a1 c1 S1.arm S1.down l1 X HL1.out xy (HI6.out.kept hX)
          have hsz : eQ S1 = (aV S1).length := by unfold eQ; rw [if_neg (by rw [hdn]; decide)]
          rw [hsz] at oq
          rw [hdn] at jf fF hBd k2 x2
          have hwl := iF HI1.out
          generalize (aV S1).length = m at oq fF hwl
          have HIs : Hid (∀ X, Below w6.heap.size w6 X → Calls Tryz.prog 20 #[.pointer (some ⟨w0.heap.size + 1, 0, none⟩), .agg #[.slice a1 l1.length c1, .int .i64 S1.arm, .bool false]] X _) := Lib.hid jf
          have HSz := Lib.hid oq
          have HBy : Hid (∀ X, Below w6.heap.size w6 X → Calls Tryz.prog 21 #[.agg #[.slice a1 l1.length c1, .int .i64 S1.arm, .bool false]] X _) := Lib.hid fF
          have HDN := Lib.hid hdn
          have hm1 : ((m : Int) != (m : Int)) = false := by simp
          have hm2 : (m != m) = false := by simp
          clear jf oq fF hdn hsz
          have hRd : w6.drew.rangeAt wN.heap.size 0 [.slice a1 l1.length c1, .int .i64 S1.arm, .bool false] := hBd.range
          have hR6 : w6.rangeAt wN.heap.size 0 [.slice a1 l1.length c1, .int .i64 S1.arm, .bool false] := hRd
          refine wp_region_noPanic ?_
          refine wp_region_held_drew (S := fun W' => W'.rangeAt wN.heap.size 0 [.slice a1 l1.length c1, .int .i64 S1.arm, .bool false]) (by kernel_rfl) hRd (fun hHeld => ?_)
          refine tH (v := ?_) 0 31 rfl (Or.inl ⟨by rfl, ?_⟩) ?_
          case refine_2 => exact z2
          try simp only [pS]
          refine tH (v := ?_) 1 32 rfl (Or.inl ⟨by rfl, ?_⟩) ?_
          case refine_2 => exact z2
          try simp only [pS]
          refine tH (v := ?_) 2 33 rfl (Or.inl ⟨by rfl, ?_⟩) ?_
          case refine_2 => exact z2
          try simp only [pS]
          refine tH (v := ?_) 3 34 rfl (Or.inl ⟨by rfl, ?_⟩) ?_
          case refine_2 => exact z2
          try simp only [pS]
          refine tH 4 35 rfl (yieldsIf_load_mid (by rfl) 62 _ rfl wN.heap.size 0 rfl [.slice a1 l1.length c1, .int .i64 S1.arm, .bool false] _ (fun X h => h) Tryz.underlying62 rfl (by kernel_rfl)) ?_
          try simp only [pS]
          refine rH 5 36 rfl fun K hK => ?_
          (go_simp; go_at_call 20; (with_reducible refine (HIs.out _ hBr).mono ?_); rintro v w7 ⟨rfl, hb7⟩; replace hBr := below2 hBr hb7; go_wp2_with fail)
          refine hK.out _ _ (rangeAt_kept hR6 hBr) (fun ai => ?_)
          clear hK K hHeld
          have hHeld := ai
          clear ai
          try simp only [pS]
          refine tH (v := ?_) 6 37 rfl (Or.inl ⟨by rfl, ?_⟩) ?_
          case refine_2 => exact z2
          try simp only [pS]
          refine tH (v := ?_) 7 38 rfl (Or.inl ⟨by rfl, ?_⟩) ?_
          case refine_2 => exact z2
          try simp only [pS]
          refine tH (v := ?_) 8 39 rfl (Or.inl ⟨by rfl, ?_⟩) ?_
          case refine_2 => exact z2
          try simp only [pS]
          refine tH (v := ?_) 9 40 rfl (Or.inl ⟨by rfl, ?_⟩) ?_
          case refine_2 => exact z2
          try simp only [pS]
          refine tH (v := ?_) 10 41 rfl (Or.inl ⟨by rfl, ?_⟩) ?_
          case refine_2 => exact z30
          try simp only [pS]
          refine tH (v := ?_) 11 42 rfl (Or.inl ⟨by rfl, ?_⟩) ?_
          case refine_2 => exact z2
          try simp only [pS]
          refine tH (v := ?_) 12 43 rfl (Or.inl ⟨by rfl, ?_⟩) ?_
          case refine_2 => exact z2
          try simp only [pS]
          refine tH (v := ?_) 13 44 rfl (Or.inl ⟨by rfl, ?_⟩) ?_
          case refine_2 => exact z2
          try simp only [pS]
          refine tH 15 46 rfl (yieldsIf_load_mid (by rfl) 62 _ rfl wN.heap.size 0 rfl [.slice a1 l1.length c1, .int .i64 S1.arm, .bool false] _ (fun X h => h) Tryz.underlying62 rfl (by kernel_rfl)) ?_
          try simp only [pS]
          refine rH 14 45 rfl fun K hK => ?_
          (go_simp; go_at_call 17; (with_reducible refine (HSz.out _ hBr).mono ?_); rintro v w8 ⟨rfl, hb7⟩; replace hBr := below2 hBr hb7; go_wp2_with fail)
          refine hK.out _ _ (rangeAt_kept hR6 hBr) (fun ai => ?_)
          clear hK K hHeld
          have hHeld := ai
          clear ai
          try simp only [pS]
          refine rH 16 47 rfl fun K hK => ?_
          (go_simp; go_at_call 21; (with_reducible refine (HBy.out _ hBr).mono ?_); rintro v w9 ⟨ab, cb, rfl, -, -, hb7⟩; replace hBr := below2 hBr hb7; go_wp2_with fail)
          refine hK.out _ _ (rangeAt_kept hR6 hBr) (fun ai => ?_)
          clear hK K hHeld
          have hHeld := ai
          clear ai
          try simp only [pS]
          refine tH (v := ?_) 17 48 rfl (Or.inl ⟨by rfl, ?_⟩) ?_
          case refine_2 => exact z2
          try simp only [pS]
          refine tH (v := ?_) 18 49 rfl (Or.inl ⟨by rfl, ?_⟩) ?_
          case refine_2 => exact z2
          try simp only [pS]
          refine tH (v := ?_) 19 50 rfl (Or.inl ⟨by rfl, ?_⟩) ?_
          case refine_2 => exact z2
          try simp only [pS]
          refine tH (v := ?_) 20 51 rfl (Or.inl ⟨by rfl, ?_⟩) ?_
          case refine_2 => exact z2
          try simp only [pS]
          refine wpAnyH_done (by kernel_rfl) ?_ _
          refine NoPanic.normal ?_
          all_goals
           go_wp2
           go_roundw
           case rel => exact z12
           case measure => exact z39
  ·have hke : k = ls.length := by omega
   subst hke
   clear hDk hB hin hlc hl hi
   go_wp2_with (go_at_call 6; (with_reducible refine (HA.out _).mono ?_); rintro e w2 ⟨rfl, hb2⟩)
   go_ret
   exact ⟨rfl, below2 HB0.out (hbw.trans (hb2.mono hbw.size))⟩
end Go.Proofs.YtlefejokpdjpgaaGreat
