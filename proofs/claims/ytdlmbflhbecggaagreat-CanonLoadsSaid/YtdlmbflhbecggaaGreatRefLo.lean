/- The reference's canon: Load. Conditions: at most 2^20 bytes. -/
import Derived.Test.YtdlmbflhbecggaaGreatEvOwn
import Derived.Test.YtdlmbflhbecggaaGreatCanL
import Derived.Test.YtdlmbflhbecggaaGreatRefR
import Derived.Test.YtdlmbflhbecggaaGreatRRdF
set_option linter.unusedSimpArgs false
set_option linter.unusedVariables false
set_option linter.unnecessarySimpa false
set_option maxHeartbeats 16000000
set_option maxRecDepth 100000
namespace Go.Proofs.YtdlmbflhbecggaaGreat
open Go.RowKit
/-- block M holds a map -/
def MpB (w : World) (M : Nat) (v0 v1 v2 : Value) : Prop := w.heap[M]? = some (.cells #[v0, v1, v2] 32 (0, 0))
theorem MpB.lt {w : World} {M : Nat} {v0 v1 v2 : Value} (h : MpB w M v0 v1 v2) : M < w.heap.size := lt_of_block h
theorem MpB.below {w w' : World} {M : Nat} {v0 v1 v2 : Value} (h : MpB w M v0 v1 v2) (hb : Below w.heap.size w w') : MpB w' M v0 v1 v2 := (hb.block _ h.lt).trans h
theorem MpB.grown {w w' : World} {M : Nat} {v0 v1 v2 : Value} {g : Option Nat} (h : MpB w M v0 v1 v2) (hg : w.grownBy w' g) (hne : some M ≠ g) : MpB w' M v0 v1 v2 := (hg.block M h.lt hne).trans h
theorem MpB.cells {w : World} {M : Nat} {v0 v1 v2 : Value} (h : MpB w M v0 v1 v2) : w.cell? ⟨M, 0, none⟩ = some v0 ∧ w.cell? ⟨M, 1, none⟩ = some v1 ∧ w.cell? ⟨M, 2, none⟩ = some v2 := by
 simp [World.cell?, show w.heap[M]? = _ from h]
theorem MpB.free {w : World} {M : Nat} {v0 v1 v2 : Value} (h : MpB w M v0 v1 v2) (o : Nat) : w.frozen? ⟨M, o, none⟩ = false := by
 simp [World.frozen?, show w.heap[M]? = _ from h]
theorem MpB.set0 {w : World} {M : Nat} {v0 v1 v2 : Value} (h : MpB w M v0 v1 v2) (v : Value) : MpB (w.setCell ⟨M, 0, none⟩ v) M v v1 v2 := by
 simp [MpB, World.setCell, Array.getElem?_modify, show w.heap[M]? = _ from h]
theorem MpB.set1 {w : World} {M : Nat} {v0 v1 v2 : Value} (h : MpB w M v0 v1 v2) (v : Value) : MpB (w.setCell ⟨M, 1, none⟩ v) M v0 v v2 := by
 simp [MpB, World.setCell, Array.getElem?_modify, show w.heap[M]? = _ from h]
theorem MpB.set2 {w : World} {M : Nat} {v0 v1 v2 : Value} (h : MpB w M v0 v1 v2) (v : Value) : MpB (w.setCell ⟨M, 2, none⟩ v) M v0 v1 v := by
 simp [MpB, World.setCell, Array.getElem?_modify, show w.heap[M]? = _ from h]
theorem MpB.range {w : World} {M : Nat} {v0 v1 v2 : Value} (h : MpB w M v0 v1 v2) : w.rangeAt M 0 [v0, v1, v2] := fun j v hv => by
 rw [Nat.zero_add]
 have h' : w.heap[M]? = some (.cells #[v0, v1, v2] 32 (0, 0)) := h
 simp only [World.cell?, h']
 simpa using hv
/-- dots, events, in blocks of P alone -/
def DtP (P : Nat → Prop) (w : World) (a : Option Addr) (l : List Dot) : Prop := DotsIn w a l ∧ ∀ A off, a = some ⟨A, off, none⟩ → l ≠ [] → P A
structure EvP (P : Nat → Prop) (w : World) (a : Option Addr) (ls : List bJ) : Prop where
 evs : EvsIn w a ls
 row : ∀ A off, a = some ⟨A, off, none⟩ → ls ≠ [] → P A
 over : ∀ x ∈ ls, ∀ A off, x.2.1 = some ⟨A, off, none⟩ → x.1.over ≠ [] → P A
theorem DtP.keep {P Q : Nat → Prop} {w w' : World} {a : Option Addr} {l : List Dot} (h : DtP P w a l) (hk : ∀ A, P A → A < w.heap.size → w'.heap[A]? = w.heap[A]? ∧ Q A) : DtP Q w' a l := by
 have key : ∀ A off, a = some ⟨A, off, none⟩ → l ≠ [] → w'.heap[A]? = w.heap[A]? ∧ Q A := fun A off hA hne => hk A (h.2 A off hA hne) (by have := h.1; rw [hA] at this; exact jq this hne)
 exact ⟨h.1.keep (fun A off hA hne => (key A off hA hne).1), fun A off hA hne => (key A off hA hne).2⟩
theorem EvP.keep {P Q : Nat → Prop} {w w' : World} {a : Option Addr} {ls : List bJ} (h : EvP P w a ls) (hk : ∀ A, P A → A < w.heap.size → w'.heap[A]? = w.heap[A]? ∧ Q A) : EvP Q w' a ls := by
 have key : ∀ x ∈ ls, ∀ A off, x.2.1 = some ⟨A, off, none⟩ → x.1.over ≠ [] → w'.heap[A]? = w.heap[A]? ∧ Q A := fun x hx A off hA hne => hk A (h.over x hx A off hA hne) (by have := h.evs.dots x hx; rw [hA] at this; exact jq this hne)
 have Oz : ∀ A off, a = some ⟨A, off, none⟩ → ls ≠ [] → w'.heap[A]? = w.heap[A]? ∧ Q A := by
  intro A off hA hne
  refine hk A (h.row A off hA hne) ?_
  rcases h.evs.rows with h0 | ⟨A', off', hA', hr⟩
  ·exact absurd h0 hne
  ·rw [hA] at hA'
   cases hA'
   exact World.block_lt_of_cell? w _ (hr 0 (List.length_pos_iff.2 hne) 0 _ rfl)
 refine ⟨⟨?_, fun x hx => (h.evs.dots x hx).keep (fun A off hA hne => (key x hx A off hA hne).1)⟩, fun A off hA hne => (Oz A off hA hne).2, fun x hx A off hA hne => (key x hx A off hA hne).2⟩
 rcases h.evs.rows with h0 | ⟨A, off, hA, hr⟩
 ·exact Or.inl h0
 ·by_cases hne : ls = []
  ·exact Or.inl hne
  ·exact Or.inr ⟨A, off, hA, fun i hi j v hv => (World.cell?_of_block (Oz A off hA hne).1).trans (hr i hi j v hv)⟩
/-- events of one's own, ahead of w0 nothing -/
theorem EvsOwn.evp {S : Nat → Prop} {w0 w : World} {a : Option Addr} {c : Nat} {ls : List bJ} (h : EvsOwn S w0 (.slice a ls.length c) ls w) : EvP (fun A => w0.heap.size ≤ A) w a ls := by
 obtain ⟨a', c', hv, hin⟩ := jV h.own h.dots
 cases hv
 refine ⟨hin, fun A off h1 h2 => ?_, fun x hx A off h1 h2 => (h.ne x hx A off h1 h2).1⟩
 rcases h.own.2 with ⟨_, hn⟩ | ⟨g, cap, cur, hv, hg, _⟩
 ·exact absurd (List.length_eq_zero_iff.1 hn) h2
 ·simp only [Value.slice.injEq] at hv
  rw [h1] at hv
  have : A = g := by have h5 := hv.1; simp at h5; exact h5.1
  omega
/-- behind the reference's Load -/
def PG (r : Rd) (c : List Dot) (K : List Ev) (d : List Dot) (w : World) (x : Ending) (w' : World) : Prop :=
 ∃ y e, x = .returned (.tuple #[pF y, .int .i64 e]) ∧ e = (if gW r = 0 then pM c K d else gW r) ∧ RMIn w' y ∧ fC y.K ∧ Below w.heap.size w w' ∧ (e = 0 → y.ctx = c ∧ aQ y.K = K ∧ y.dead = d)
theorem Ib : fC rm0.K := fun x hx => (nomatch hx)
theorem Bv (a : Option Addr) (cap : Nat) (l : Bytes) (w : World) (hl : l.length ≤ 1048576) (hcap : l.length ≤ cap) (h : BytesIn w a l) {r : Rd} {c : List Dot} {K : List Ev} {d : List Dot} (hx : kV l = (r, c, K, d)) :
 Calls Tryz.prog 7 #[.slice a l.length cap] w (PG r c K d w) := by
 obtain ⟨i0, hi, hz0, hz1, hz2⟩ := info_parts Tryz.infoEv
 obtain ⟨j0, hj, hy0, hy1, hy2⟩ := info_parts Tryz.infoDot
 have f1 := xM ⟨l, 0⟩
 have f1l := rD ⟨l, 0⟩
 have g1 := fun (W : World) (h0 : Below w.heap.size w W) => xN ⟨l, 0⟩ a cap w W h0 (by simp only; omega) hcap h
 obtain ⟨r1, mk, h1⟩ : ∃ x y, dW ⟨l, 0⟩ = (x, y) := ⟨_, _, rfl⟩
 unfold uV at g1
 simp only [h1] at g1
 rw [h1] at f1 f1l
 simp only at f1 f1l
 have f2 := bC 2048 r1
 obtain ⟨r2, N, h2⟩ : ∃ x y, bu 2048 r1 = (x, y) := ⟨_, _, rfl⟩
 rw [h2] at f2
 simp only at f2
 have f3 := xP N r2
 obtain ⟨r3, evs, h3⟩ : ∃ x y, jK N r2 = (x, y) := ⟨_, _, rfl⟩
 rw [h3] at f3
 simp only at f3
 have f4 := bC 65536 r3
 obtain ⟨r4, D, h4⟩ : ∃ x y, bu 65536 r3 = (x, y) := ⟨_, _, rfl⟩
 rw [h4] at f4
 simp only at f4
 have f5 := nU D r4
 obtain ⟨r5, ds, h5⟩ : ∃ x y, bQ D r4 = (x, y) := ⟨_, _, rfl⟩
 rw [h5] at f5
 simp only at f5
 have hxx : kV l = (r5, mk, evs, ds) := by unfold kV; simp only [h1, h2, h3, h4, h5]
 rw [hxx] at hx
 simp only [Prod.mk.injEq] at hx
 obtain ⟨rfl, rfl, rfl, rfl⟩ := hx
 have G1 : Hid (∀ W, Below w.heap.size w W → Calls Tryz.prog 26 #[.agg #[.slice a l.length cap, .int .i64 0]] W (fun x w' => ∃ a cap ao co, x = .returned (.tuple #[bz r1 a cap, .slice ao mk.length co]) ∧ BytesIn w a r1.b ∧ r1.b.length ≤ cap ∧ DotsIn w' ao mk ∧ Below W.heap.size W w' ∧ (∀ A off, ao = some ⟨A, off, none⟩ → W.heap.size ≤ A) ∧ mk.length ≤ co)) := g1
 have G2 : Hid (∀ (W : World) (a : Option Addr) (cap : Nat), Below w.heap.size w W → r1.b.length ≤ cap → BytesIn w a r1.b → Calls Tryz.prog 27 #[bz r1 a cap, .int .u64 2048] W (iO r2 (.int .u64 N) w W)) := fun W a cap h hc hb => by have := dG r1 a cap 2048 w W h (by omega) hc (by omega) hb; rw [h2] at this; exact this
 have G4 : Hid (∀ (W : World) (a : Option Addr) (cap : Nat), Below w.heap.size w W → r3.b.length ≤ cap → BytesIn w a r3.b → Calls Tryz.prog 27 #[bz r3 a cap, .int .u64 65536] W (iO r4 (.int .u64 D) w W)) := fun W a cap h hc hb => by have := dG r3 a cap 65536 w W h (by omega) hc (by omega) hb; rw [h4] at this; exact this
 have H3 := Lib.hid h3
 have H5 := Lib.hid h5
 have bN := f2.2
 have bD := f4.2
 have l2 : r2.b.length ≤ 1048576 := by omega
 have l4 : r4.b.length ≤ 1048576 := by omega
 have l3 : r3.b.length ≤ 1048576 := by omega
 clear g1 h1 h2 h3 h4 h5 f1 f2 f3 f4 f5 hxx h
 go_enter Tryz.func7, Tryz.ntmps7
 go_upto_region 2 with fail
 refine au (fun W0 hW0 => ?_)
 have hbt : Below w.heap.size w W0 := by rw [hW0.out]; go_grown
 have hM : MpB W0 (w.heap.size + 1) (.slice none 0 0) (.slice none 0 0) (.slice none 0 0) := by rw [hW0.out]; exact rU _ _ _
 have hZ : MpB W0 w.heap.size (.slice none 0 0) (.slice none 0 0) (.slice none 0 0) := by
  rw [hW0.out]
  exact (((Below.refl _ _).alloc (Nat.le_refl _) _).block _ (by simp)).trans (dK _ _)
 obtain ⟨B, hBB⟩ : ∃ B, B = w.heap.size + 1 := ⟨_, rfl⟩
 rw [← hBB] at hM ⊢
 have hBg : w.heap.size < B := by omega
 have hBl : B ≤ w.heap.size + 1 := by omega
 have hlo := hM.lt
 clear hW0 hBB
 go_upto_region 3 with (first
  | (go_at_call 26; (with_reducible refine (G1.out _ hbt).mono ?_); rintro x w1 ⟨a1, c1, am, cm, rfl, hin1, hc1, hdm, hb1, hAm, hcm⟩)
  | (refine aN 69 _ _ _ #[.slice a1 r1.b.length c1, .int .i64 r1.e] rfl rfl (by kernel_rfl) rfl (by kernel_rfl) ?_))
 refine au (fun V1 hV => ?_)
 have hX1 : RdBlk V1 w1.heap.size r1 a1 c1 := by rw [hV.out]; exact RdBlk.new w1 r1 a1 c1
 have hbv : Below W0.heap.size W0 V1 := by rw [hV.out]; exact hb1.alloc hb1.size _
 have hDm : DtP (fun A => B < A) V1 am mk := ⟨by rw [hV.out]; exact hdm.kept ((Below.refl _ _).alloc (Nat.le_refl _) _), fun A off h _ => Nat.lt_of_lt_of_le hlo (hAm A off h)⟩
 replace hM := hM.below hbv
 replace hZ := hZ.below hbv
 replace hbt := below2 hbt hbv
 replace hlo := hM.lt
 clear hV hb1 hdm hAm hbv G1
 have hrg := hX1.range
 have G2' := Lib.hid (fun W h => G2.out W a1 c1 h hc1 hin1)
 clear G2
 go_upto_region 4 with (first
  | ((with_reducible refine ak 69 _ w1.heap.size 0 [.slice a1 r1.b.length c1, .int .i64 r1.e] (bz r1 a1 c1) rfl _ Tryz.underlying69 rfl (by kernel_rfl) hrg ?_ rfl ?_); exact rfl)
  | (go_at_call 27; (with_reducible refine (G2'.out _ hbt).mono ?_); rintro x w2 ⟨a2, c2, rfl, hin2, hc2, hb2⟩)
  | (refine aN 69 _ _ _ #[.slice a2 r2.b.length c2, .int .i64 r2.e] rfl rfl (by kernel_rfl) rfl (by kernel_rfl) ?_))
 refine au (fun V2 hV => ?_)
 have hX2 : RdBlk V2 w2.heap.size r2 a2 c2 := by rw [hV.out]; exact RdBlk.new w2 r2 a2 c2
 have hbv : Below V1.heap.size V1 V2 := by rw [hV.out]; exact hb2.alloc hb2.size _
 have hx2 : B < w2.heap.size := Nat.lt_of_lt_of_le hlo hb2.size
 replace hDm : DtP (fun A => B < A ∧ A < w2.heap.size) V2 am mk := hDm.keep (fun A hA hs => ⟨hbv.block _ hs, hA, Nat.lt_of_lt_of_le hs hb2.size⟩)
 replace hM := hM.below hbv
 replace hZ := hZ.below hbv
 replace hbt := below2 hbt hbv
 replace hlo := hM.lt
 clear hV hb2 hbv G2' hrg hX1 hin1 hc1
 obtain ⟨X, hXX⟩ : ∃ X, X = w2.heap.size := ⟨_, rfl⟩
 rw [← hXX] at hX2 hx2 hDm ⊢
 clear hXX
 have hXl := hX2.lt
 have hI0 : EvsOwn (jw X B) V2 (.slice none 0 0) [] V2 := ⟨World.ownsRow_nil _ _ _ _, fun x hx => by simp at hx, fun x hx => by simp at hx, Fr.refl _ _⟩
 have hww : w.heap.size ≤ V2.heap.size := hbt.size
 go_upto_block 0 with fail
 go_cut [] (fun wx => ∃ (ar : Option Addr) (cr : Nat) (ls : List bJ) (v : Value), aQ ls = evs ∧ ls.length ≤ 2048 ∧ fC ls ∧ RdBlk wx X r3 ar cr ∧ BytesIn w ar r3.b ∧ r3.b.length ≤ cr ∧ MpB wx B (.slice none 0 0) v (.slice none 0 0) ∧ EvsOwn (jw X B) V2 v ls wx)
 case first =>
  go_wp2
  go_loopw [9] (fun i wr => ∃ (j m : Nat) (rr : Rd) (ar : Option Addr) (cr : Nat) (ls : List bJ) (v : Value), i = .int .u64 j ∧ j + m = N ∧ m + ls.length ≤ 2048 ∧ rr.b.length ≤ 1048576 ∧ fC ls ∧ RdBlk wr X rr ar cr ∧ BytesIn w ar rr.b ∧ rr.b.length ≤ cr ∧ MpB wr B (.slice none 0 0) v (.slice none 0 0) ∧ EvsOwn (jw X B) V2 v ls wr ∧ jK N r2 = ((jK m rr).1, aQ ls ++ (jK m rr).2)) (fun i _ => N - (intOf i).toNat)
  case atStart => exact ⟨0, N, r2, a2, c2, [], _, rfl, by omega, by simp; omega, l2, fun x hx => by simp at hx, hX2, hin2, hc2, hM, hI0, by simp [aQ]⟩
  case round =>
   clear hI0 hX2 hM hDm hZ
   obtain ⟨j, m, rr, ar, cr, ls, v, rfl, hjm, hmn, hrl, hsm, hX, hinr, hcr, hM, hI, hpre⟩ := hrel
   have HP := Lib.hid hpre
   clear hpre
   have hzw := hI.fr.size
   by_cases hgo : 0 < m ∧ rr.e = 0
   ·obtain ⟨hm0, hre⟩ := hgo
    obtain ⟨n2, rfl⟩ : ∃ n, m = n + 1 := ⟨m - 1, by omega⟩
    have hjk : j < N := by omega
    have e1 := decide_eq_true hjk
    have e2 : decide ((j : Int) < (N : Int)) = true := decide_eq_true (by omega)
    have q1 : (rr.e == 0) = true := beq_iff_eq.2 hre
    have hf := Bl rr
    have hsv := zY rr
    have HS : Hid (jK N r2 = ((jK n2 (rEv rr).1).1, (aQ ls ++ [(rEv rr).2]) ++ (jK n2 (rEv rr).1).2)) := by rw [Hid, HP.out, uC hre]; simp
    have h0R : Below w.heap.size w wr := hbt.trans (hI.fr.below hww (fun q hq => by rcases hq with rfl | rfl <;> omega))
    have hG0 := fun (U : World) (h : Below w.heap.size w U) => Fj rr ar cr w U h (by omega) hcr hinr
    unfold uq at hG0
    obtain ⟨rn, ev, hrd⟩ : ∃ r2 d, rEv rr = (r2, d) := ⟨_, _, rfl⟩
    rw [hrd] at hf HS hsv
    simp only [hrd] at hG0
    simp only at hf HS hsv
    have HG := Lib.hid hG0
    obtain ⟨p0, p1, pf0, pf1⟩ := hX.two
    have hrg := hX.range
    clear hrd hG0 HP hre hm0
    go_upto_region 8 with (first
     | ((with_reducible refine ak 69 _ X 0 [.slice ar rr.b.length cr, .int .i64 rr.e] (bz rr ar cr) rfl _ Tryz.underlying69 rfl (by kernel_rfl) hrg ?_ rfl ?_); exact rfl)
     | (go_at_call 28; (with_reducible refine (HG.out _ h0R).mono ?_); rintro x w7 ⟨a7, c7, ae, ce, rfl, NM, hc7, hde, hb7, hae⟩)
     | (refine dV 69 _ _ _ #[.slice a7 rn.b.length c7, .int .i64 rn.e] _ rfl rfl (by kernel_rfl) rfl (by kernel_rfl) ?_)
     | (refine dm 64 _ _ _ (ag ev ae ce).toArray (w7.heap.size + 1) (by simp) rfl rfl (by kernel_rfl) rfl (by kernel_rfl) ?_))
    refine au (fun U hU => ?_)
    have hN7 : RdBlk U w7.heap.size rn a7 c7 := by rw [hU.out]; exact RdBlk.new2 w7 rn a7 c7 _
    have hS7 : EvBlk U (w7.heap.size + 1) ev ae ce := by rw [hU.out]; exact StBlk.new2 w7 _ _ _
    have Pe : Below w7.heap.size w7 U := by rw [hU.out]; exact ((Below.refl _ _).alloc (Nat.le_refl _) _).alloc (by simp) _
    have hbU : Below wr.heap.size wr U := by rw [hU.out]; exact (hb7.alloc hb7.size _).alloc (Nat.le_trans hb7.size (by simp)) _
    have hz7 := hb7.size
    have hdU := hde.kept Pe
    have hxx := hI.fresh (p := ev.over ≠ []) hae
    have hIU := hI.step hbU
    have hXU := hX.below hbU
    have hMU := hM.below hbU
    clear hU Pe hbU hb7 hX hM hI hde hrg p0 p1 pf0 pf1 q1
    have hrN := hN7.range
    go_upto_region 9 with (first
     | ((with_reducible refine ak 69 _ w7.heap.size 0 [.slice a7 rn.b.length c7, .int .i64 rn.e] (bz rn a7 c7) rfl _ Tryz.underlying69 rfl (by kernel_rfl) hrN ?_ rfl ?_); exact rfl)
     | (refine wpList_store_row rfl 69 _ _ rfl X #[.slice a7 rn.b.length c7, .int .i64 rn.e] rfl rfl 69 (bi rr ar cr) hXU (by kernel_rfl) rfl (by kernel_rfl) ?_))
    refine au (fun Y hY => ?_)
    have hk : ∀ q, q ≠ X → Y.heap[q]? = U.heap[q]? := fun q hq => by rw [hY.out]; exact aI _ _ _ _ (fun e => hq e.symm)
    have hXY : RdBlk Y X rn a7 c7 := by rw [hY.out]; exact setRow_heap _ _ _ _ _ _ hXU
    have hMY : MpB Y B (.slice none 0 0) v (.slice none 0 0) := (hk _ (by omega)).trans hMU
    have hSY : EvBlk Y (w7.heap.size + 1) ev ae ce := (hk _ (by omega)).trans hS7
    have hIY : EvsOwn (jw X B) V2 v ls Y := hIU.other (g := X) (by omega) hk (by rw [hY.out]; exact hIU.fr.setRow (Or.inr (Or.inl rfl)) _)
    have hdY : DotsIn Y ae ev.over := hdU.keep (fun A off h _ => hk _ (by have := hae A off h; omega))
    have hzY := hIY.fr.size
    clear hY hk hrN hN7 hXU hMU hIU hS7 hdU
    have p4 := hMY.cells.2.1
    have y4 := hMY.free 1
    have hrS := hSY.cell
    have hown := hIY.own
    go_wp2_with (first
     | ((with_reducible refine aZ _ (w7.heap.size + 1) ev ae ce hrS ?_ rfl ?_); exact rfl)
     | (refine wpList_buildOne rfl 29 64 _ rfl (ag ev ae ce).toArray 19 rfl rfl (by decide) (by decide) Tryz.underlying29 (by kernel_rfl) (by kernel_rfl) ?_)
     | (at_builtin; go_loud (refine wpList_append_own_at _ rfl _ _ 29 rfl V2.heap.size 64 i0 (.agg (ag ev0 none 0).toArray) 19 176 Tryz.underlying29 hi hz0 hz1 hz2 rfl (by decide) _ _ _ rfl (hown.alloc _) ⟨Y.heap.size, 0, none⟩ 1 1 (ag ev ae ce) rfl rfl (qG Y ev ae ce _) (dO _ _ _) (by unfold maxLen; omega) (by omega) (by simp; omega) ?_)))
    intro v' wf gy hgrow _ hat
    obtain ⟨ad', cap', rfl⟩ := uD gy
    have hal : Below Y.heap.size Y (Y.alloc (Obj.cells (ag ev ae ce).toArray 64)) := (Below.refl _ _).alloc (Nat.le_refl _) _
    have hI2 := EvsOwn.app (x := (ev, ae, ce)) (hIY.step hal) gy hgrow (by rcases hat with h | h; exact Or.inl h; exact Or.inr (by rw [h]; simp)) (hdY.kept hal) hxx
    have hlt := fun (q : Nat) (e : v.ownBlock = some q) => (hown.lt q e).1
    have hXf : RdBlk wf X rn a7 c7 := (hgrow.block _ (by simp; omega) (fun e => by have := hlt _ e.symm; omega)).trans (hXY.below hal)
    have hMf : MpB wf B (.slice none 0 0) v (.slice none 0 0) := (hMY.below hal).grown hgrow (fun e => by have := hlt _ e.symm; omega)
    have p4f := hMf.cells.2.1
    have x4f := hMf.free 1
    have hkf : ∀ (u : Value) (q : Nat), q ≠ B → (wf.setCell ⟨B, 1, none⟩ u).heap[q]? = wf.heap[q]? := fun u q hq => heap_setCell_other _ _ _ _ (fun e => hq e.symm)
    have hI3 := fun (u : Value) => hI2.other (g := B) (by omega) (hkf u) (hI2.fr.setCell (p := ⟨B, 1, none⟩) (Or.inr (Or.inr rfl)) u)
    have hX3 := fun (u : Value) => (hkf u X (by omega)).trans hXf
    have hM3 := fun (u : Value) => hMf.set1 u
    have hs2 : fC (ls ++ [(ev, ae, ce)]) := by
     intro x hx
     rcases List.mem_append.1 hx with hx | hx
     ·exact hsm x hx
     ·simp only [List.mem_singleton] at hx; subst hx; exact hsv
    have HEV : Hid (aQ (ls ++ [(ev, ae, ce)]) = aQ ls ++ [ev]) := by simp [Hid, aQ]
    have EK := Lib.hid (And.intro hI3 (And.intro hX3 hM3))
    clear hI2 hXf hMf gy hgrow hat hIY hXY hMY hSY hdY hrS hown hal hI3 hX3 hM3 hkf hlt p4 y4 hxx
    go_wp2
    go_roundw
    case rel => exact ⟨j + 1, n2, rn, a7, c7, ls ++ [(ev, ae, ce)], _, by go_num, by omega, by simp; omega, by omega, hs2, EK.out.2.1 _, NM, hc7, EK.out.2.2 _, EK.out.1 _, by rw [HEV.out]; exact HS.out⟩
    case measure => simp [intOf] <;> omega
   ·have hend : jK m rr = (rr, []) := by
     by_cases h0 : m = 0
     ·subst h0; rfl
     ·exact xQ (fun e => hgo ⟨by omega, e⟩)
    have HQ : Hid (r3 = rr ∧ evs = aQ ls) := by
     have h1 := H3.out
     rw [HP.out, hend] at h1
     simp only [List.append_nil, Prod.mk.injEq] at h1
     exact ⟨h1.1.symm, h1.2.symm⟩
    obtain ⟨p0, p1, pf0, pf1⟩ := hX.two
    have hls : ls.length ≤ 2048 := by omega
    clear hend HP
    have HF : Hid (∃ (ar : Option Addr) (cr : Nat) (ls : List bJ) (v : Value), aQ ls = evs ∧ ls.length ≤ 2048 ∧ fC ls ∧ RdBlk wr X r3 ar cr ∧ BytesIn w ar r3.b ∧ r3.b.length ≤ cr ∧ MpB wr B (.slice none 0 0) v (.slice none 0 0) ∧ EvsOwn (jw X B) V2 v ls wr) := by
     have h1 := HQ.out.1
     exact ⟨ar, cr, ls, v, HQ.out.2.symm, hls, hsm, by rw [h1]; exact hX, by rw [h1]; exact hinr, by rw [h1]; exact hcr, hM, hI⟩
    by_cases hjk : j < N
    ·have q1 : (rr.e == 0) = false := beq_eq_false_iff_ne.2 (fun e => hgo ⟨by omega, e⟩)
     have e1 := decide_eq_true hjk
     have e2 : decide ((j : Int) < (N : Int)) = true := decide_eq_true (by omega)
     clear hgo
     go_wp2
     go_meet
     exact HF.out
    ·have e1 := decide_eq_false hjk
     have e2 : decide ((j : Int) < (N : Int)) = false := decide_eq_false (by omega)
     clear hgo
     go_wp2
     go_meet
     exact HF.out
 case rest =>
  obtain ⟨ar, cr, ls, v, hev, hls, hsm, hX, nX, hc3, hMU, hI⟩ := hcut
  obtain ⟨U, hUe⟩ : ∃ U, U = wc := ⟨_, rfl⟩
  subst hUe
  obtain ⟨ax, cx, rfl⟩ := uD hI.own
  have hcx := yf hI.own
  have hFr := hI.fr
  have hEv : EvP (fun A => B < A ∧ A < U.heap.size ∧ A ≠ X) U ax ls := hI.evp.keep (fun A hA hs => ⟨rfl, by omega, hs, by omega⟩)
  have hzU := hFr.size
  replace hDm : DtP (fun A => B < A ∧ A < U.heap.size ∧ A ≠ X) U am mk := hDm.keep (fun A hA hs => ⟨hFr.block A hs (jb (by omega) (by omega)), by omega, by omega, by omega⟩)
  have hZU : MpB U w.heap.size (.slice none 0 0) (.slice none 0 0) (.slice none 0 0) := (hFr.block _ hZ.lt (jb (by omega) (by omega))).trans hZ
  replace hbt : Below w.heap.size w U := hbt.trans (hFr.below hww (fun q hq => by rcases hq with rfl | rfl <;> omega))
  clear hM hZ hI hFr hI0 hX2 hin2 hc2 H3
  have hrg := hX.range
  have hlo := hMU.lt
  have hlc : ls.length ≤ cx := hcx
  have G4' := Lib.hid (fun W h => G4.out W ar cr h hc3 nX)
  clear G4
  go_upto_region 11 with (first
   | ((with_reducible refine ak 69 _ X 0 [.slice ar r3.b.length cr, .int .i64 r3.e] (bz r3 ar cr) rfl _ Tryz.underlying69 rfl (by kernel_rfl) hrg ?_ rfl ?_); exact rfl)
   | (go_at_call 27; (with_reducible refine (G4'.out _ hbt).mono ?_); rintro x w3 ⟨a4, c4, rfl, BQ, hc4, hb4⟩)
   | (refine aN 69 _ _ _ #[.slice a4 r4.b.length c4, .int .i64 r4.e] rfl rfl (by kernel_rfl) rfl (by kernel_rfl) ?_))
  refine au (fun V3 hV => ?_)
  have hX3 : RdBlk V3 w3.heap.size r4 a4 c4 := by rw [hV.out]; exact RdBlk.new w3 r4 a4 c4
  have hbv : Below U.heap.size U V3 := by rw [hV.out]; exact hb4.alloc hb4.size _
  have hx3 : B < w3.heap.size := Nat.lt_of_lt_of_le hlo hb4.size
  replace hEv : EvP (fun A => B < A ∧ A < w3.heap.size) V3 ax ls := hEv.keep (fun A hA hs => ⟨hbv.block _ hs, hA.1, Nat.lt_of_lt_of_le hs hb4.size⟩)
  replace hDm : DtP (fun A => B < A ∧ A < w3.heap.size) V3 am mk := hDm.keep (fun A hA hs => ⟨hbv.block _ hs, hA.1, Nat.lt_of_lt_of_le hs hb4.size⟩)
  have hM := hMU.below hbv
  have hZ := hZU.below hbv
  replace hbt := below2 hbt hbv
  replace hlo := hM.lt
  clear hV hb4 hbv G4' hrg hX nX hc3 hMU hZU
  obtain ⟨Y3, hYY⟩ : ∃ Y3, Y3 = w3.heap.size := ⟨_, rfl⟩
  rw [← hYY] at hX3 hx3 hDm hEv ⊢
  clear hYY
  have hYl := hX3.lt
  have OD : w.heap.size ≤ V3.heap.size := hbt.size
  obtain ⟨vK, hvK⟩ : ∃ vK, vK = Value.slice ax ls.length cx := ⟨_, rfl⟩
  rw [← hvK] at hM
  clear hww hzU hXl hx2
  go_upto_block 2 with fail
  go_cut [] (fun wx => ∃ (ar : Option Addr) (cr : Nat) (v : Value), RdBlk wx Y3 r5 ar cr ∧ MpB wx B (.slice none 0 0) vK v ∧ wx.ownsRow V3.heap.size 56 3 v ds.length (aW ds) ∧ Fr (jw Y3 B) V3 wx ∧ ds.length ≤ 65536 ∧ r5.b.length ≤ 1048576)
  case first =>
   go_wp2
   go_loopw [14] (fun i wr => ∃ (j m : Nat) (dl : List Dot) (rr : Rd) (ar : Option Addr) (cr : Nat) (v : Value), i = .int .u64 j ∧ j + m = D ∧ m + dl.length ≤ 65536 ∧ rr.b.length ≤ 1048576 ∧ RdBlk wr Y3 rr ar cr ∧ BytesIn w ar rr.b ∧ rr.b.length ≤ cr ∧ MpB wr B (.slice none 0 0) vK v ∧ wr.ownsRow V3.heap.size 56 3 v dl.length (aW dl) ∧ Fr (jw Y3 B) V3 wr ∧ bQ D r4 = ((bQ m rr).1, dl ++ (bQ m rr).2)) (fun i _ => D - (intOf i).toNat)
   case atStart => exact ⟨0, D, [], r4, a4, c4, _, rfl, by omega, by simp; omega, l4, hX3, BQ, hc4, hM, World.ownsRow_nil _ _ _ _, Fr.refl _ _, by simp⟩
   case round =>
        clear hX3 hM hDm hEv hZ
        obtain ⟨j, m, dl, rr, ar, cr, v, rfl, hjm, hmn, hrl, hX, hinr, hcr, hM, hown, hF, hpre⟩ := hrel
        have HP := Lib.hid hpre
        clear hpre
        have hzw := hF.size
        by_cases hgo : 0 < m ∧ rr.e = 0
        ·obtain ⟨hm0, hre⟩ := hgo
         obtain ⟨n, rfl⟩ : ∃ n, m = n + 1 := ⟨m - 1, by omega⟩
         have hjk : j < D := by omega
         have e1 := decide_eq_true hjk
         have e2 : decide ((j : Int) < (D : Int)) = true := decide_eq_true (by omega)
         have q1 : (rr.e == 0) = true := beq_iff_eq.2 hre
         have hf := iZ rr
         have HS : Hid (bQ D r4 = ((bQ n (dS rr).1).1, (dl ++ [(dS rr).2]) ++ (bQ n (dS rr).1).2)) := by rw [Hid, HP.out, jL hre]; simp
         have h0R : Below w.heap.size w wr := hbt.trans (hF.below OD (fun q hq => by rcases hq with rfl | rfl <;> omega))
         have hG0 := mY rr
         obtain ⟨r2', dd, hrd⟩ : ∃ r2 dd, dS rr = (r2, dd) := ⟨_, _, rfl⟩
         rw [hrd] at hf HS hG0
         simp only at hf HS hG0
         have HG := Lib.hid (fun (U : World) (h : Below w.heap.size w U) => hG0 ar cr w U h (by omega) hcr hinr)
         obtain ⟨p0, p1, pf0, pf1⟩ := hX.two
         have hrg := hX.range
         clear hrd hG0 HP hre hm0
         go_upto_region 15 with (first
           | ((with_reducible refine ak 69 _ Y3 0 [.slice ar rr.b.length cr, .int .i64 rr.e] (bz rr ar cr) rfl _ Tryz.underlying69 rfl (by kernel_rfl) hrg ?_ rfl ?_); exact rfl)
           | (go_at_call 29; (with_reducible refine (HG.out _ h0R).mono ?_); rintro x w5 ⟨a5, c5, rfl, zB, hc5, hb5⟩)
           | (refine dV 69 _ _ _ #[.slice a5 r2'.b.length c5, .int .i64 r2'.e] _ rfl rfl (by kernel_rfl) rfl (by kernel_rfl) ?_)
           | (refine dm 56 _ _ _ #[.int .i64 dd.a.dev, .int .i64 dd.a.inc, .int .i64 dd.seq] (w5.heap.size + 1) (by simp) rfl rfl (by kernel_rfl) rfl (by kernel_rfl) ?_))
         refine au (fun U2 hU => ?_)
         have hN : RdBlk U2 w5.heap.size r2' a5 c5 := by rw [hU.out]; exact RdBlk.new2 w5 r2' a5 c5 _
         have hS : StBlk U2 (w5.heap.size + 1) #[.int .i64 dd.a.dev, .int .i64 dd.a.inc, .int .i64 dd.seq] 56 := by rw [hU.out]; exact StBlk.new2 w5 _ _ _
         have hbU : Below wr.heap.size wr U2 := by rw [hU.out]; exact (hb5.alloc hb5.size _).alloc (Nat.le_trans hb5.size (by simp)) _
         have hz5 := hb5.size
         have hXU := hX.below hbU
         have hMV := hM.below hbU
         have vJ := ownsRow_below hown hbU
         have hFU := hF.again (Fr.of_below hbU)
         clear hU hb5 hX hM hown hF p0 p1 pf0 pf1 hrg q1
         have hrN := hN.range
         go_upto_region 16 with (first
           | ((with_reducible refine ak 69 _ w5.heap.size 0 [.slice a5 r2'.b.length c5, .int .i64 r2'.e] (bz r2' a5 c5) rfl _ Tryz.underlying69 rfl (by kernel_rfl) hrN ?_ rfl ?_); exact rfl)
           | (refine wpList_store_row rfl 69 _ _ rfl Y3 #[.slice a5 r2'.b.length c5, .int .i64 r2'.e] rfl rfl 69 (bi rr ar cr) hXU (by kernel_rfl) rfl (by kernel_rfl) ?_))
         refine au (fun Y hY => ?_)
         have hk : ∀ q, q ≠ Y3 → Y.heap[q]? = U2.heap[q]? := fun q hq => by rw [hY.out]; exact aI _ _ _ _ (fun e => hq e.symm)
         have hXY : RdBlk Y Y3 r2' a5 c5 := by rw [hY.out]; exact setRow_heap _ _ _ _ _ _ hXU
         have hMY : MpB Y B (.slice none 0 0) vK v := (hk _ (by omega)).trans hMV
         have hSY : StBlk Y (w5.heap.size + 1) #[.int .i64 dd.a.dev, .int .i64 dd.a.inc, .int .i64 dd.seq] 56 := (hk _ (by omega)).trans hS
         have mi := jT vJ (fun q hq => hk q (by omega))
         have hFY : Fr (jw Y3 B) V3 Y := by rw [hY.out]; exact hFU.setRow (Or.inr (Or.inl rfl)) _
         have Pi := hXY.lt
         have hVY := hFY.size
         clear hY hk hrN hN hXU hMV vJ hFU hbU hS
         have p4 := hMY.cells.2.2
         have y4 := hMY.free 2
         have hrS := hSY.range
         have hdv := gq dl
         go_wp2_with (first
           | ((with_reducible refine ak 56 _ (w5.heap.size + 1) 0 [.int .i64 dd.a.dev, .int .i64 dd.a.inc, .int .i64 dd.seq] (nC dd) rfl _ Tryz.underlying56 rfl (by kernel_rfl) hrS ?_ rfl ?_); exact rfl)
           | (at_builtin; go_loud (refine wpList_append_own _ rfl _ _ 30 rfl V3.heap.size 56 j0 (.agg #[.int .i64 0, .int .i64 0, .int .i64 0]) 3 24 Tryz.underlying30 hj hy0 hy1 hy2 rfl (by decide) _ _ _ rfl (mi.alloc _) ⟨Y.heap.size, 0, none⟩ 1 1 [.int .i64 dd.a.dev, .int .i64 dd.a.inc, .int .i64 dd.seq] rfl rfl (FD Y dd _) (by simp [Value.oneCell']) (by unfold maxLen; omega) (by omega) (by simp; omega) ?_)))
         intro v' wf mg hgrow _
         have gy : wf.ownsRow V3.heap.size 56 3 v' (dl ++ [dd]).length (aW (dl ++ [dd])) := by rw [← nP, List.length_append]; exact mg
         obtain ⟨ad', cap2, rfl⟩ := uD gy
         have hal : Below Y.heap.size Y (Y.alloc (Obj.cells #[.int .i64 dd.a.dev, .int .i64 dd.a.inc, .int .i64 dd.seq] 56)) := (Below.refl _ _).alloc (Nat.le_refl _) _
         have hMf : MpB wf B (.slice none 0 0) vK v := (hMY.below hal).grown hgrow (fun h => by have := (mi.lt _ h.symm).1; omega)
         have hXf : RdBlk wf Y3 r2' a5 c5 := (hgrow.block _ (by simp; omega) (fun h => by have := (mi.lt _ h.symm).1; omega)).trans (hXY.below hal)
         have hFf : Fr (jw Y3 B) V3 wf := (hFY.alloc _).grown2 hgrow (fun q hq => (mi.lt q hq).1)
         have p4f := hMf.cells.2.2
         have x4f := hMf.free 2
         have hMs := hMf.set2 (.slice ad' (dl ++ [dd]).length cap2)
         have hXs : RdBlk (wf.setCell ⟨B, 2, none⟩ (.slice ad' (dl ++ [dd]).length cap2)) Y3 r2' a5 c5 := (heap_setCell_other _ _ _ _ (by simp only; omega)).trans hXf
         have hos := ownsRow_setCell_other (a := ⟨B, 2, none⟩) gy (fun e => by have := (gy.lt _ e).1; simp only at this; omega) (.slice ad' (dl ++ [dd]).length cap2)
         have hFs : Fr (jw Y3 B) V3 (wf.setCell ⟨B, 2, none⟩ (.slice ad' (dl ++ [dd]).length cap2)) := hFf.setCell (Or.inr (Or.inr rfl)) _
         simp only [List.length_append, List.length_singleton] at hMs hXs hFs hos
         have EK := Lib.hid (And.intro hMs (And.intro hXs (And.intro hos hFs)))
         clear hMs hXs hos hFs hMf hXf gy mg hgrow hMY hXY mi hFY hSY hrS p4 y4
         go_wp2
         go_roundw
         case rel => exact ⟨j + 1, n, dl ++ [dd], r2', a5, c5, _, by go_num, by omega, by simp; omega, by omega, EK.out.2.1, zB, hc5, EK.out.1, by simp only [List.length_append, List.length_singleton]; exact EK.out.2.2.1, EK.out.2.2.2, HS.out⟩
         case measure => simp [intOf] <;> omega
        ·have hend : bQ m rr = (rr, []) := by
           by_cases h0 : m = 0
           ·subst h0; rfl
           ·exact jS (fun e => hgo ⟨by omega, e⟩)
         have hq : r5 = rr ∧ ds = dl := by
           have h1 := H5.out
           rw [HP.out, hend] at h1
           simp only [List.append_nil, Prod.mk.injEq] at h1
           exact ⟨h1.1.symm, h1.2.symm⟩
         obtain ⟨p0, p1, pf0, pf1⟩ := hX.two
         have hdl : dl.length ≤ 65536 := by omega
         clear hend HP
         have HF : Hid (∃ (ar : Option Addr) (cr : Nat) (v : Value), RdBlk wr Y3 r5 ar cr ∧ MpB wr B (.slice none 0 0) vK v ∧ wr.ownsRow V3.heap.size 56 3 v ds.length (aW ds) ∧ Fr (jw Y3 B) V3 wr ∧ ds.length ≤ 65536 ∧ r5.b.length ≤ 1048576) := by
           rw [hq.1, hq.2]
           exact ⟨ar, cr, v, hX, hM, hown, hF, hdl, hrl⟩
         clear hq
         by_cases hjk : j < D
         ·have q1 : (rr.e == 0) = false := beq_eq_false_iff_ne.2 (fun e => hgo ⟨by omega, e⟩)
          have e1 := decide_eq_true hjk
          have e2 : decide ((j : Int) < (D : Int)) = true := decide_eq_true (by omega)
          clear hgo
          go_wp2
          go_meet
          exact HF.out
         ·have e1 := decide_eq_false hjk
          have e2 : decide ((j : Int) < (D : Int)) = false := decide_eq_false (by omega)
          clear hgo
          go_wp2
          go_meet
          exact HF.out
  case rest =>
   obtain ⟨ar, cr, v, hX, hM4, hown, hF, hdl, hrl⟩ := hcut
   obtain ⟨U4, Qi⟩ : ∃ U4, U4 = wc := ⟨_, rfl⟩
   subst Qi
   obtain ⟨ad, cd, rfl, hdd, O6⟩ := mG hown
   have hcd : ds.length ≤ cd := yf hown
   replace hbt : Below w.heap.size w U4 := hbt.trans (hF.below OD (fun q hq => by rcases hq with rfl | rfl <;> omega))
   have Po : EvP (fun A => B < A ∧ A ≠ Y3) U4 ax ls := hEv.keep (fun A hA hs => ⟨hF.block A hs (jb (by omega) (by omega)), hA.1, by omega⟩)
   have Pq : DtP (fun A => B < A ∧ A ≠ Y3) U4 am mk := hDm.keep (fun A hA hs => ⟨hF.block A hs (jb (by omega) (by omega)), hA.1, by omega⟩)
   have Px : DtP (fun A => B < A ∧ A ≠ Y3) U4 ad ds := ⟨hdd, fun A off h _ => by have := O6 A off h; omega⟩
   have hZ4 : MpB U4 w.heap.size (.slice none 0 0) (.slice none 0 0) (.slice none 0 0) := (hF.block _ hZ.lt (jb (by omega) (by omega))).trans hZ
   clear hown hdd O6 hF hEv hDm hZ hM hX3 H5 BQ hc4 l4 l3 l2
   obtain ⟨x0, x1, xf0, xf1⟩ := hX.two
   obtain ⟨tB, htB⟩ : ∃ tB, tB = (decide (r5.e = 0) && decide (0 < r5.b.length)) := ⟨_, rfl⟩
   have HTB := Lib.hid htB
   clear htB
   obtain ⟨er, her⟩ : ∃ er, er = gW r5 := ⟨_, rfl⟩
   have HER := Lib.hid her
   clear her
   go_upto_region 17 with fail
   go_cut [86] (fun v wx => v = .bool tB ∧ U4 = wx)
   case first =>
        by_cases h1 : r5.e = 0
        ·have q1 : (r5.e == 0) = true := beq_iff_eq.2 h1
         by_cases h2 : 0 < r5.b.length
         ·have d1 := decide_eq_true h2
          have d2 : decide ((0 : Int) < (r5.b.length : Int)) = true := decide_eq_true (by omega)
          have HT : Hid (tB = true) := by rw [Hid, HTB.out]; simp [h1, h2]
          clear h1 h2
          go_wp2
          go_meet
          exact ⟨by rw [HT.out], rfl⟩
         ·have d1 := decide_eq_false h2
          have d2 : decide ((0 : Int) < (r5.b.length : Int)) = false := decide_eq_false (by omega)
          have HT : Hid (tB = false) := by rw [Hid, HTB.out]; simp [h2]
          clear h1 h2
          go_wp2
          go_meet
          exact ⟨by rw [HT.out], rfl⟩
        ·have q1 : (r5.e == 0) = false := beq_eq_false_iff_ne.2 h1
         have HT : Hid (tB = false) := by rw [Hid, HTB.out]; simp [h1]
         clear h1
         go_wp2
         go_meet
         exact ⟨by rw [HT.out], rfl⟩
   case rest =>
        obtain ⟨rfl, rfl⟩ := hcut
        go_upto_if 86 with fail
        go_cut [] (fun wx => RdBlk wx Y3 ⟨r5.b, er⟩ ar cr ∧ (∀ q, q ≠ Y3 → wx.heap[q]? = U4.heap[q]?) ∧ Below w.heap.size w wx)
        case first =>
         have hR : er = if tB = true then 1 else r5.e := by
           rw [HER.out, HTB.out]
           unfold gW
           by_cases h1 : r5.e = 0
           ·by_cases h2 : 0 < r5.b.length
            ·simp [h1, h2]
            ·simp [h1, h2]
           ·simp [h1]
         have HR := Lib.hid hR
         clear hR HTB
         cases tB with
         | true =>
           have HR1 : Hid (er = 1) := by rw [Hid, HR.out]; rfl
           go_wp2
           go_meet
           exact ⟨by rw [HR1.out]; exact pg hX _, fun q hq => heap_setCell_other _ _ _ _ (fun e => hq e.symm), hbt.setCell (by simp only; omega) _⟩
         | false =>
           have HR1 : Hid (er = r5.e) := by rw [Hid, HR.out]; rfl
           go_wp2
           go_meet
           exact ⟨by rw [HR1.out]; exact hX, fun q hq => rfl, hbt⟩
        case rest =>
         obtain ⟨hX5, hk5, hb5⟩ := hcut
         obtain ⟨U5, Qh⟩ : ∃ U5, U5 = wc := ⟨_, rfl⟩
         subst Qh
         have hM5 : MpB U5 B (.slice none 0 0) vK (.slice ad ds.length cd) := (hk5 _ (by omega)).trans hM4
         have hZ5 : MpB U5 w.heap.size (.slice none 0 0) (.slice none 0 0) (.slice none 0 0) := (hk5 _ (by omega)).trans hZ4
         have Pn : EvP (fun A => B < A ∧ A ≠ Y3) U5 ax ls := Po.keep (fun A hA _ => ⟨hk5 A hA.2, hA⟩)
         have DY : DtP (fun A => B < A ∧ A ≠ Y3) U5 am mk := Pq.keep (fun A hA _ => ⟨hk5 A hA.2, hA⟩)
         have Pv : DtP (fun A => B < A ∧ A ≠ Y3) U5 ad ds := Px.keep (fun A hA _ => ⟨hk5 A hA.2, hA⟩)
         clear hX hM4 hZ4 Po Pq Px hk5 hbt x0 x1 xf0 xf1 HTB
         have c0 := hM5.cells.1
         have c0f := hM5.free 0
         go_upto_region 20 with fail
         refine au (fun U6 hU6 => ?_)
         have hk6 : ∀ q, q ≠ B → U6.heap[q]? = U5.heap[q]? := fun q hq => by rw [hU6.out]; exact heap_setCell_other _ _ _ _ (fun e => hq e.symm)
         have hM6 : MpB U6 B (.slice am mk.length cm) vK (.slice ad ds.length cd) := by rw [hU6.out]; exact hM5.set0 _
         have hX6 : RdBlk U6 Y3 ⟨r5.b, er⟩ ar cr := (hk6 _ (by omega)).trans hX5
         have hZ6 : MpB U6 w.heap.size (.slice none 0 0) (.slice none 0 0) (.slice none 0 0) := (hk6 _ (by omega)).trans hZ5
         have MC : EvP (fun A => B < A ∧ A ≠ Y3) U6 ax ls := Pn.keep (fun A hA _ => ⟨hk6 A (by omega), hA⟩)
         have zD : DtP (fun A => B < A ∧ A ≠ Y3) U6 am mk := DY.keep (fun A hA _ => ⟨hk6 A (by omega), hA⟩)
         have MF : DtP (fun A => B < A ∧ A ≠ Y3) U6 ad ds := Pv.keep (fun A hA _ => ⟨hk6 A (by omega), hA⟩)
         have hb6 : Below w.heap.size w U6 := by rw [hU6.out]; exact hb5.setCell (by simp only; omega) _
         clear hU6 hk6 hM5 hX5 hZ5 Pn DY Pv hb5 c0 c0f
         obtain ⟨x0, x1, xf0, xf1⟩ := hX6.two
         simp only at x0 x1
         obtain ⟨ef, hef⟩ : ∃ ef, ef = (if er = 0 then pM mk evs ds else er) := ⟨_, rfl⟩
         have HEF := Lib.hid hef
         clear hef
         go_upto_if 92 with fail
         go_cut [] (fun wx => RdBlk wx Y3 ⟨r5.b, ef⟩ ar cr ∧ MpB wx B (.slice am mk.length cm) vK (.slice ad ds.length cd) ∧ MpB wx w.heap.size (.slice none 0 0) (.slice none 0 0) (.slice none 0 0) ∧ EvP (fun A => B < A ∧ A ≠ Y3) wx ax ls ∧ DtP (fun A => B < A ∧ A ≠ Y3) wx am mk ∧ DtP (fun A => B < A ∧ A ≠ Y3) wx ad ds ∧ Below w.heap.size w wx)
         case first =>
           by_cases he : er = 0
           ·have q1 : (er == 0) = true := beq_iff_eq.2 he
            have HE0 : Hid (ef = pM mk evs ds) := by rw [Hid, HEF.out, if_pos he]
            have hld : pM mk evs ds = cu mk ls ds := by rw [← hev]; exact l9 _ _ _
            subst hvK
            have Pj : RMIn U6 ⟨am, mk, cm, ax, ls, cx, ad, ds, cd⟩ := ⟨zD.1, MC.evs, MF.1, hcm, hlc, hcd⟩
            have HLd : Hid (Calls Tryz.prog 30 #[.agg #[.slice am mk.length cm, .slice ax ls.length cx, .slice ad ds.length cd]] U6 fun x w' => x = .returned (.int .i64 ef) ∧ Below U6.heap.size U6 w') := by
             have := Dh ⟨am, mk, cm, ax, ls, cx, ad, ds, cd⟩ U6 (by simp only; omega) (by simp only; omega) (by simp only; omega) hsm Pj
             rw [Hid, HE0.out, hld]
             exact this
            have NL := hM6.range
            have QF := hX6.lt
            clear HE0 hld HEF he Pj
            go_wp2_with (first
             | ((with_reducible refine ak 32 _ B 0 [.slice am mk.length cm, .slice ax ls.length cx, .slice ad ds.length cd] (.agg #[.slice am mk.length cm, .slice ax ls.length cx, .slice ad ds.length cd]) rfl _ Tryz.underlying32 rfl (by kernel_rfl) NL ?_ rfl ?_); exact rfl)
             | (go_at_call 30; (with_reducible refine HLd.out.mono ?_); rintro x w9 ⟨rfl, hb9⟩; obtain ⟨z0, z1, zf0, zf1⟩ := (hX6.below hb9).two; simp only at z0 z1))
            go_meet
            have hk9 : ∀ (v : Value) (q : Nat), q ≠ Y3 → (w9.setCell ⟨Y3, 1, none⟩ v).heap[q]? = w9.heap[q]? := fun v q hq => heap_setCell_other _ _ _ _ (fun e => hq e.symm)
            exact ⟨pg (hX6.below hb9) _, (hk9 _ _ (by omega)).trans (hM6.below hb9), (hk9 _ _ (by omega)).trans (hZ6.below hb9), MC.keep (fun A hA hs => ⟨(hk9 _ A hA.2).trans (hb9.block _ hs), hA⟩), zD.keep (fun A hA hs => ⟨(hk9 _ A hA.2).trans (hb9.block _ hs), hA⟩), MF.keep (fun A hA hs => ⟨(hk9 _ A hA.2).trans (hb9.block _ hs), hA⟩), (below2 hb6 hb9).setCell (by simp only; omega) _⟩
           ·have q1 : (er == 0) = false := beq_eq_false_iff_ne.2 he
            have HE0 : Hid (ef = er) := by rw [Hid, HEF.out, if_neg he]
            clear he HEF
            go_wp2
            go_meet
            exact ⟨by rw [HE0.out]; exact hX6, hM6, hZ6, MC, zD, MF, hb6⟩
         case rest =>
           obtain ⟨hX7, hM7, hZ7, Ql, Qm, Qn, hb7⟩ := hcut
           obtain ⟨U7, Qg⟩ : ∃ U7, U7 = wc := ⟨_, rfl⟩
           subst Qg
           clear hX6 hM6 hZ6 MC zD MF hb6 x0 x1 xf0 xf1
           obtain ⟨x0, x1, xf0, xf1⟩ := hX7.two
           simp only at x0 x1
           have Qy := hb7.size
           have HFE : Hid (ef = if gW r5 = 0 then pM mk evs ds else gW r5) := by rw [Hid, HEF.out, HER.out]
           clear HEF HER
           subst hvK
           by_cases he : ef = 0
           ·have q1 : (ef == 0) = true := beq_iff_eq.2 he
            have q2 : (ef != 0) = false := by rw [bne_eq_false_iff_eq]; exact he
            have HE0 := Lib.hid he
            have NL := hM7.range
            clear he
            go_wp2_with (first
             | ((with_reducible refine ak 32 _ B 0 [.slice am mk.length cm, .slice ax ls.length cx, .slice ad ds.length cd] (.agg #[.slice am mk.length cm, .slice ax ls.length cx, .slice ad ds.length cd]) rfl _ Tryz.underlying32 rfl (by kernel_rfl) NL ?_ rfl ?_); exact rfl)
             | (refine wpList_store_row rfl 32 _ _ rfl w.heap.size #[.slice am mk.length cm, .slice ax ls.length cx, .slice ad ds.length cd] rfl rfl 32 #[.slice none 0 0, .slice none 0 0, .slice none 0 0] hZ7 (by kernel_rfl) rfl (by kernel_rfl) ?_))
            refine bH 2 3 32 32 w.heap.size #[.slice am mk.length cm, .slice ax ls.length cx, .slice ad ds.length cd] _ (.int .i64 0) rfl rfl rfl (setRow_heap _ _ _ _ _ _ hZ7) Tryz.underlying32 rfl (by kernel_rfl) rfl ?_
            have hk : ∀ (cs : Array Value) (A : Nat), B < A → (U7.setRow w.heap.size cs).heap[A]? = U7.heap[A]? := fun cs A hA => aI _ _ _ _ (by omega)
            refine ⟨⟨am, mk, cm, ax, ls, cx, ad, ds, cd⟩, 0, rfl, by rw [← HFE.out, HE0.out], ⟨?_, ?_, ?_, hcm, hlc, hcd⟩, hsm, below_setRow hb7 (Nat.le_refl _) _, fun _ => ⟨rfl, hev, rfl⟩⟩
            ·exact (Qm.keep (Q := fun _ => True) (fun A hA _ => ⟨hk _ A hA.1, trivial⟩)).1
            ·exact (Ql.keep (Q := fun _ => True) (fun A hA _ => ⟨hk _ A hA.1, trivial⟩)).evs
            ·exact (Qn.keep (Q := fun _ => True) (fun A hA _ => ⟨hk _ A hA.1, trivial⟩)).1
           ·have q1 : (ef == 0) = false := beq_eq_false_iff_ne.2 he
            have q2 : (ef != 0) = true := by rw [bne_iff_ne]; exact he
            have HE0 := Lib.hid he
            clear he
            go_upto_region 23 with fail
            refine wp_region_noPanic ?_
            refine wp_region_held_drew (S := fun W' => W'.cell? ⟨Y3, 1, none⟩ = some (.int .i64 ef)) (by kernel_rfl) x1 (fun hHeld => ?_)
            refine tH 0 99 rfl (Or.inl ⟨by rfl, fun W hSW => Ed _ _ rfl (#[.slice none 0 0, .slice none 0 0, .slice none 0 0]) (by kernel_rfl)⟩) ?_
            try simp only [pS]
            refine tH (v := ?_) 1 100 rfl (Or.inl ⟨by rfl, ?_⟩) ?_
            case refine_2 => (intro w hSw; go_simp; try with_reducible rfl)
            try simp only [pS]
            refine tH (v := ?_) 2 101 rfl (Or.inl ⟨by rfl, ?_⟩) ?_
            case refine_2 => (intro w hSw; go_simp; try with_reducible rfl)
            try simp only [pS]
            refine wpAnyH_ready (rs := [3]) (by kernel_rfl) (by simp) ?_
            refine AllReadyH.cons rfl (fun K hK => ?_) AllReadyH.nil
            refine eX rfl 32 _ _ rfl w.heap.size #[.slice none 0 0, .slice none 0 0, .slice none 0 0] rfl rfl 32 #[.slice none 0 0, .slice none 0 0, .slice none 0 0] hZ7 (by kernel_rfl) rfl (by kernel_rfl) ?_
            refine hK.out _ _ ?_ (fun hHeld => ?_)
            ·exact ((World.cell?_of_block (aI _ _ _ _ (by simp only; omega))).trans x1)
            clear hK K
            try simp only [pS]
            refine tH (v := ?_) 4 3 rfl (Or.inl ⟨by rfl, ?_⟩) ?_
            case refine_2 => (intro w hSw; go_simp; try with_reducible rfl)
            try simp only [pS]
            refine wpAnyH_done (by kernel_rfl) ?_ _
            refine NoPanic.normal ?_
            go_wp2
            refine bH 2 3 32 32 w.heap.size #[.slice none 0 0, .slice none 0 0, .slice none 0 0] _ (.int .i64 ef) rfl rfl rfl (setRow_heap U7.drew _ _ _ _ _ hZ7) Tryz.underlying32 rfl (by kernel_rfl) rfl ?_
            exact ⟨rm0, ef, rfl, HFE.out, NC _, Ib, below_setRow hb7.drew (Nat.le_refl _) _, fun e => absurd e HE0.out⟩
end Go.Proofs.YtdlmbflhbecggaaGreat
