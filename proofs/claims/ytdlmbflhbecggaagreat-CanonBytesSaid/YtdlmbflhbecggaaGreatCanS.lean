/- canon: Most, done, begin, Full. Conditions: as in the text. -/
import Derived.Test.YtdlmbflhbecggaaGreatMkB
import Derived.Test.YtdlmbflhbecggaaGreatIsB
set_option linter.unusedSimpArgs false
set_option linter.unusedVariables false
set_option linter.unnecessarySimpa false
set_option maxHeartbeats 16000000
set_option maxRecDepth 100000
namespace Go.Proofs.YtdlmbflhbecggaaGreat
open Go.RowKit
def jA (n : Int) : Int := min (max n 0) 1048576
theorem pG (n : Int) : 0 ≤ jA n ∧ jA n ≤ 1048576 := by unfold jA; omega
theorem Ij (n : Int) (w : World) : Calls Tryz.prog 56 #[.int .i64 n] w fun x w' => x = .returned (.int .i64 (jA n)) ∧ w = w' := by
 have h1 := pG n
 go_enter Tryz.func56, Tryz.ntmps56
 go_wp2
 go_ret
 exact ⟨dR (by unfold jA; omega), rfl⟩
theorem LU (x y : Int) (w : World) : Calls Tryz.prog 17 #[.int .i64 x, .int .i64 y] w fun v w' => v = .returned (.int .i64 (8 + 9 * jA x + 1840 * jA y)) ∧ w = w' := by
 have hx := pG x
 have hy := pG y
 have H := Lib.hid (fun (n : Int) (X : World) => Ij n X)
 go_enter Tryz.func17, Tryz.ntmps17
 have h1 : IntKind.i64.wrap (9 * jA x) = 9 * jA x := IntWalk.i64_in _ (by omega)
 have h2 : IntKind.i64.wrap (8 + 9 * jA x) = 8 + 9 * jA x := IntWalk.i64_in _ (by omega)
 have h3 : IntKind.i64.wrap (1840 * jA y) = 1840 * jA y := IntWalk.i64_in _ (by omega)
 have h4 : IntKind.i64.wrap (8 + 9 * jA x + 1840 * jA y) = 8 + 9 * jA x + 1840 * jA y := IntWalk.i64_in _ (by omega)
 go_wp2_with (go_at_call 56; (with_reducible refine (H.out _ _).mono ?_); rintro v w1 ⟨rfl, rfl⟩)
 go_ret
 exact ⟨rfl, rfl⟩
theorem pq {e : Ev} (h : cu e = true) : (evB e).length ≤ 8192 := by
 have hf := oI h
 have h64 := hf.over
 have d1 := mQ e.dot
 have d2 := su e.stamp
 have d3 := aV e.over.length (by omega)
 have d4 := eQ e.over
 obtain ⟨s1, s2, s3, s4⟩ := mP h
 refine y32 ?_
 intro t1 t2 t3 t4
 simp only [au] at t1 t2 t3 t4
 unfold evB vP kX
 split
 ·rename_i h1
  obtain ⟨⟨f1, f2⟩, ⟨f3, f4⟩, f5, f6⟩ := hf.item h1
  have t5 := xW e.ck.expiry (by omega) (by omega)
  have t6 := aV e.ck.creation.toNat (by omega)
  have t7 := aV e.ck.access.toNat (by omega)
  simp only [List.length_append, List.length_singleton]; omega
 ·simp only [List.length_append, List.length_singleton, List.length_nil]; omega
/-- what holds the events of a row in a world that a writer has gone on from -/
theorem Hold.evs9 {S : Nat → Prop} {w0 w : World} {B : Nat} {l : Bytes} (h : Hold S w0 B w l) {a : Option Addr} {ls : List bg} (hE : EvsIn w0 a ls) (oe : OldAt w0 S a (ls ≠ [])) (od : ∀ x ∈ ls, OldAt w0 S x.2.1 (x.1.over ≠ [])) : EvsIn w a ls := by
 refine ⟨hE.rows.imp id fun ⟨A, off, h1, h2⟩ => ⟨A, off, h1, fun i hi j v hv => ?_⟩, fun x hx => h.dots (hE.dots x hx) (od x hx)⟩
 have hne : ls ≠ [] := fun e => by rw [e] at hi; simp at hi
 obtain ⟨h3, h4⟩ := oe A off h1 hne
 exact (World.cell?_of_block (h.fr.block A h3 h4)).trans (h2 i hi j v hv)
theorem IM {w : World} {B : Nat} {x : Value} {t : TypeId} {f : Nat × Nat} {a : Option Addr} {l : List Dot} (hd : DotsIn w a l) (hB : w.heap[B]? = some (.cells #[x] t f)) : OldAt w (fun k => k = B) a (l ≠ []) := fun A off ha hne => by
 rcases hd with h0 | ⟨A', off', h1, h2⟩
 ·exact absurd h0 hne
 ·rw [ha] at h1
  simp only [Option.some.injEq, Addr.mk.injEq, and_true] at h1
  obtain ⟨rfl, rfl⟩ := h1
  have hl : 0 < l.length := List.length_pos_iff.2 hne
  have c := h2.inc 0 hl
  refine ⟨World.block_lt_of_cell? w _ c, fun e => ?_⟩
  subst e
  simp [World.cell?, hB] at c
theorem Pn {w : World} {B : Nat} {x : Value} {t : TypeId} {f : Nat × Nat} {a : Option Addr} {ls : List bg} (hE : EvsIn w a ls) (hB : w.heap[B]? = some (.cells #[x] t f)) : OldAt w (fun k => k = B) a (ls ≠ []) ∧ ∀ y ∈ ls, OldAt w (fun k => k = B) y.2.1 (y.1.over ≠ []) := by
 refine ⟨fun A off ha hne => ?_, fun y hy => IM (hE.dots y hy) hB⟩
 rcases hE.rows with h0 | ⟨A', off', h1, h2⟩
 ·exact absurd h0 hne
 ·rw [ha] at h1
  simp only [Option.some.injEq, Addr.mk.injEq, and_true] at h1
  obtain ⟨rfl, rfl⟩ := h1
  have hl : 0 < ls.length := List.length_pos_iff.2 hne
  have c : w.cell? ⟨A, off + 0 * 19 + 1, none⟩ = some (.int .i64 ls[0].1.dot.a.inc) := h2 0 hl 1 _ rfl
  refine ⟨World.block_lt_of_cell? w _ c, fun e => ?_⟩
  subst e
  simp [World.cell?, hB] at c
theorem LH {w : World} {base : Nat} {a : Option Addr} {n cap : Nat} {xs : List Value} (h : w.ownsRow base 5 1 (.slice a n cap) n xs) : n ≤ cap := by
 rcases h.2 with ⟨h0, hn⟩ | ⟨g, c, cur, he, _, _, hc, _⟩
 ·omega
 ·cases he; exact hc
/-- behind what hands back bytes, and no error -/
def Iz (l : Bytes) (w : World) (e : Ending) (w' : World) : Prop := ∃ a c, e = .returned (.tuple #[.slice a l.length c, .int .i64 0]) ∧ (BytesIn w' a l ∧ l.length ≤ c) ∧ Below w.heap.size w w'
def jQ (s : MS) : Bytes := eX s.ctx ++ aN s.K.length ++ dZ (bP s) ++ aN (sortD s.dead).length ++ bU (sortD s.dead)
theorem zZ {S : Nat → Prop} {w0 : World} {B : Nat} {l : Bytes} (w : World) (h : Hold S w0 B w l) (hl : l.length ≤ 1048576) : Calls Tryz.prog 37 #[.pointer (some ⟨B, 0, none⟩)] w (Iz l w) := by
 have HB := Lib.hid (Nu h (by omega))
 have hdl : decide ((1048576 : Int) < (l.length : Int)) = false := decide_eq_false (by omega)
 go_enter Tryz.func37, Tryz.ntmps37
 go_wp2_with (go_at_call 90; (with_reducible refine HB.out.mono ?_); rintro x w1 ⟨v, rfl, hown, hb1⟩; obtain ⟨a, c, rfl, hin⟩ := dH hown)
 all_goals
  go_ret2
  exact ⟨a, c, rfl, ⟨hin, LH hown⟩, hb1⟩
/-- behind begin: a new writer, the marks and how many events -/
def Qd (s : MS) (n : Nat) (w : World) (e : Ending) (w' : World) : Prop := ∃ B W0 x t f, e = .returned (.tuple #[.pointer (some ⟨B, 0, none⟩), .int .i64 0]) ∧ w.heap.size ≤ B ∧ W0.heap[B]? = some (.cells #[x] t f) ∧ Below w.heap.size w W0 ∧ Hold (fun k => k = B) W0 B w' (eX s.ctx ++ aN n)
theorem z95 {p : Prop} (h : p := by
 have h4 := aV s.ctx.length (by omega)
 have h5 := eQ s.ctx
 unfold eX
 rw [List.length_append]
 omega) : p := h
theorem vY {m : Nat} {b : MB} {s : MS} (a : Option Addr) (n cap : Nat) (w : World) (h : MpIn w m b s) (hi : MInv s) (hc : s.ctx.length ≤ 4096) (hn : n ≤ 1048576) : Calls Tryz.prog 32 #[.pointer (some ⟨m, 0, none⟩), .slice a n cap] w (Qd s n w) := by
 have HC := Lib.hid (fun (X : World) (h : MpIn X m b s) => I4 X h hi hc)
 have hme := hi.marks hc
 go_enter Tryz.func32, Tryz.ntmps32
 go_upto_region 2 with fail
 refine aX (fun W1 hW1 => ?_)
 have hb1 : Below w.heap.size w W1 := by rw [hW1.out]; go_grown
 have hB1 : W1.heap[w.heap.size]? = some (.cells #[.slice none 0 0] 139 (0, 0)) := by rw [hW1.out]; exact bV _ _
 have h1 := h.kept_w hb1
 clear hW1 h
 obtain ⟨B, hB⟩ : ∃ B, B = w.heap.size := ⟨_, rfl⟩
 rw [← hB] at hB1 ⊢
 have hBw : w.heap.size ≤ B := by omega
 have HBB := Lib.hid hB
 clear hB
 go_upto_region 3 with (first
  | (go_at_call 39; (with_reducible refine (HC.out _ h1).mono ?_); rintro x w2 ⟨aC, cC, rfl, hd2, hb2⟩; have hB2 := (hb2.block _ (lt_of_block hB1)).trans hB1; have HH : Hold (fun k => k = B) w2 B w2 [] := Hold.start ⟨rfl, .slice none 0 0, 0, hB2, World.ownsRow_nil _ _ _ _, fun g hg => by cases hg⟩; have HV := Lh HH aC cC s.ctx (Nat.zero_le _) hme hd2 (IM hd2 hB2))
  | (go_at_call 83; (with_reducible refine HV.mono ?_); rintro x w3 ⟨rfl, HH3⟩))
 rw [List.nil_append] at HH3
 have hml : (eX s.ctx).length ≤ 268435456 := by
  exact z95
 have HN := Lib.hid (Cc HH3 n hml (by omega))
 have hwr : IntKind.u64.wrap (n : Int) = (n : Int) := IntWalk.u64_in _ (by omega)
 have HQ := Lib.hid (And.intro (below2 hb1 hb2) hB2)
 clear HV HH HH3 hd2 hb1 hb2 hB1 hB2 h1
 go_wp2_with (go_at_call 35; (with_reducible refine HN.out.mono ?_); rintro x w4 ⟨rfl, HH4⟩)
 go_ret2
 exact ⟨B, w2, _, _, _, rfl, hBw, HQ.out.2, HQ.out.1, HH4⟩
theorem z44 {p : Prop} (h : p := by
 intro l
 induction l with
 | nil => exact fun _ => Nat.zero_le _
 | cons x l ih =>
   intro h
   have h2 := ih fun e he => h e (List.mem_cons_of_mem _ he)
   have h3 := pq (h x List.mem_cons_self)
   show (evB x ++ dZ l).length ≤ _
   rw [List.length_append, List.length_cons]
   omega) : p := h
theorem z100 {p : Prop} (h : p := by
 go_wp2_with (go_at_call 37; (with_reducible refine HDn.out.mono ?_); rintro x w9 ⟨a9, c9, rfl, PK, hb9⟩)
 go_ret2
 rw [HF.out]
 exact ⟨a9, c9, rfl, PK, hbF.trans (hb9.mono hbF.size)⟩) : p := h
theorem z125 {p : Prop} (h : p := by
 have HZ := Lib.hid H3
 clear H3 r1 RX
 go_roundw
 case rel => exact ⟨k + 1, by go_num, HLT.out, by rw [HT.out]; exact HZ.out⟩
 case measure => exact z64) : p := h
theorem BV {m : Nat} {b : MB} {s : MS} (w : World) (h : MpIn w m b s) (hg : SGood s 60) (hk : s.K.length ≤ 60) : Calls Tryz.prog 8 #[.pointer (some ⟨m, 0, none⟩)] w (Iz (jQ s) w) := by
 have HEv := Lib.hid (wM w h hg.inv.len hg.inv.overs hg.inv.dots)
 have hcx := hg.ctx
 have hdd := hg.dead
 have HBg := Lib.hid (fun (X : World) (a : Option Addr) (n cap : Nat) (h : MpIn X m b s) (hn : n ≤ 1048576) => vY a n cap X h hg.inv (by omega) hn)
 have HDs := Lib.hid (fun (X : World) (h : MpIn X m b s) => zg X h (by omega) (fun d hd => gW (hg.inv.dead d hd)))
 have hme := hg.inv.marks (by omega)
 have hml : (eX s.ctx).length ≤ 2000 := by
  exact z95
 have hGG := Lib.hid hg
 have HM9 := Lib.hid h
 have hdl : (sortD s.dead).length ≤ 3840 := Nat.le_trans (fG _) hdd
 go_enter Tryz.func8, Tryz.ntmps8
 go_upto_region 5 with (first
  | (go_at_call 31; (with_reducible refine HEv.out.mono ?_); rintro x w1 ⟨aE, ls, cE, rfl, hE, ⟨hev, _, _⟩, hb1⟩; have h1 := h.kept_w hb1; have HLL : Hid (ls.length = s.K.length) := (by rw [← aJ, hev, fJ hGG.out.nd] : ls.length = s.K.length))
  | (go_at_call 32; (with_reducible refine (HBg.out _ _ _ _ h1 (by have := HLL.out; omega)).mono ?_); rintro x w2 ⟨B, W0, x0, t0, f0, rfl, hBw, hB0, hb2, HH⟩))
 have hbw0 : Below w.heap.size w W0 := hb1.trans (hb2.mono hb1.size)
 have hBz : w.heap.size ≤ B := Nat.le_trans hb1.size hBw
 have hE0 := hE.kept hb2
 obtain ⟨oe, od⟩ := Pn hE0 hB0
 have HO := Lib.hid (And.intro hE0 (And.intro oe od))
 have hok : ∀ x ∈ ls, cu x.1 = true := fun x hx => by
  have h9 : x.1 ∈ bP s := by rw [← hev]; exact List.mem_map_of_mem hx
  obtain ⟨z, hz, e⟩ := (dU hGG.out.nd).1 h9
  rw [← e]
  exact (hGG.out.inv.kept z hz).1
 have HOK := Lib.hid hok
 have SE : ls.length ≤ 60 := by have := HLL.out; omega
 obtain ⟨M, hM⟩ : ∃ M, M = eX s.ctx ++ aN ls.length := ⟨_, rfl⟩
 have hMl : M.length ≤ 3000 := by
  have h4 := aV ls.length (by omega)
  rw [hM, List.length_append]
  omega
 have HF : Hid (jQ s = M ++ dZ (aQ ls) ++ aN (sortD s.dead).length ++ bU (sortD s.dead)) := by unfold Hid jQ; rw [hM, HLL.out, hev]
 rw [← hM] at HH
 have HHH := Lib.hid HH
 have hel : ∀ k, (dZ ((aQ ls).take k)).length ≤ 60 * 8192 := fun k => by
  have h1 : ∀ l : List Ev, (∀ e ∈ l, cu e = true) → (dZ l).length ≤ l.length * 8192 := by
   exact z44
  have h2 := h1 ((aQ ls).take k) fun e he => by
   obtain ⟨x, hx, rfl⟩ := List.mem_map.1 (List.mem_of_mem_take he)
   exact hok x hx
  rw [List.length_take, aJ] at h2
  have : min k ls.length ≤ 60 := by omega
  exact Nat.le_trans h2 (Nat.mul_le_mul_right _ this)
 have HEL := Lib.hid hel
 clear h1 h hE hE0 hb1 hb2 hev hok hM HH oe od HLL hel HBg HEv hme hml
 go_wp2
 go_loopw [27] (fun i wr => ∃ k : Nat, i = .int .i64 k ∧ k ≤ ls.length ∧ Hold (fun k => k = B) W0 B wr (M ++ dZ ((aQ ls).take k))) (fun i _ => ls.length - (intOf i).toNat)
 case atStart => exact ⟨0, rfl, Nat.zero_le _, by simpa [dZ] using HHH.out⟩
 case round =>
  obtain ⟨k, rfl, hk9, hH⟩ := hrel
  by_cases hlt : k < ls.length
  ·obtain ⟨A, off, rfl, hra, hda⟩ := (hH.evs9 HO.out.1 HO.out.2.1 HO.out.2.2).at hlt
   have r1 := hra k hlt
   have hdo := HO.out.1.dots _ (List.getElem_mem hlt)
   have hoo := HO.out.2.2 _ (List.getElem_mem hlt)
   have hoe := HOK.out _ (List.getElem_mem hlt)
   have HT : Hid (M ++ dZ ((aQ ls).take (k + 1)) = (M ++ dZ ((aQ ls).take k)) ++ evB ls[k].1) := by
        unfold Hid
        rw [List.take_add_one, List.getElem?_eq_getElem (by rw [aJ]; exact hlt), oG hlt, Option.toList_some, BN, List.append_assoc]
   have hlen : (M ++ dZ ((aQ ls).take k)).length ≤ 1048576 := by have := HEL.out k; rw [List.length_append]; omega
   have HLT := Lib.hid hlt
   clear hra hda
   generalize ls[k] = x at *
   obtain ⟨e, ax, cx⟩ := x
   simp only [jP] at r1
   simp only at hdo hoo hoe HT
   have hal := (Below.refl wr.heap.size wr).alloc (Nat.le_refl _) (.cells (ah e ax cx).toArray 64)
   have hH2 := hH.below hal
   have HP := Lib.hid (zU hH2 e ax cx hlen hoe hdo hoo)
   have RX : (wr.alloc (.cells (ah e ax cx).toArray 64)).rangeAt wr.heap.size 0 (ah e ax cx) := bY e ax cx wr _
   clear hH hH2 hdo hoo hoe hlen hal
   go_wp2_with (first
        | ((with_reducible refine aY _ A (off + k * 19) e ax cx r1 ?_ rfl ?_); exact rfl)
        | (refine bQ 64 _ _ _ (ah e ax cx).toArray rfl rfl (by kernel_rfl) rfl (by kernel_rfl) ?_)
        | ((with_reducible refine aY _ wr.heap.size 0 e ax cx RX ?_ rfl ?_); exact rfl)
        | (go_at_call 33; (with_reducible refine HP.out.mono ?_); rintro v w3 ⟨rfl, H3⟩))
   exact z125
  ·obtain rfl : k = ls.length := by omega
   have hTe : (aQ ls).take ls.length = aQ ls := List.take_of_length_le (by rw [aJ]; exact Nat.le_refl _)
   have hEl := HEL.out ls.length
   rw [hTe] at hH hEl
   have hbr : Below w.heap.size w wr := hbw0.trans (hH.fr.below hbw0.size (fun k hk => by rw [show k = B from hk]; exact hBz))
   have HDr := Lib.hid (HDs.out wr (HM9.out.kept_w hbr))
   obtain ⟨M2, hM2⟩ : ∃ M2, M2 = M ++ dZ (aQ ls) := ⟨_, rfl⟩
   have Ue : M2.length ≤ 700000 := by rw [hM2, List.length_append]; omega
   rw [← hM2] at hH HF
   have HBR := Lib.hid hbr
   clear hM2 hbr hEl hTe hk9
   generalize sortD s.dead = ds at *
   go_upto_region 13 with (go_at_call 34; go_loud ((with_reducible refine HDr.out.mono ?_); rintro x w5 ⟨xv, rfl, hown, _, hb5⟩; obtain ⟨aD, cD, rfl, QW⟩ := gy hown))
   have hH5 : Hold (tight (grow (fun k => k = B) W0) wr) w5 B w5 M2 := Hold.start (hH.wr.tight.frame (S := tight (grow (fun k => k = B) W0) wr) (T := fun _ => False) (Fr.of_below hb5) (fun _ _ g => g))
   have hN5 := Cc hH5 ds.length (by omega) (by omega)
   have hwr : IntKind.u64.wrap (ds.length : Int) = (ds.length : Int) := IntWalk.u64_in _ (by omega)
   have hold : OldAt w5 (tight (grow (fun k => k = B) W0) wr) aD (ds ≠ []) := fun A9 TB ha hne => by
        rcases hown.2 with ⟨h0, h1⟩ | ⟨g, cap, cur, h0, h1, h2, _⟩
        ·exact absurd (List.length_eq_zero_iff.1 h1) hne
        ·rw [ha] at h0
         simp only [Value.slice.injEq, Option.some.injEq, Addr.mk.injEq] at h0
         obtain ⟨⟨rfl, _⟩, _⟩ := h0
         exact ⟨lt_of_block h2, fun hs => by have := hs.2; omega⟩
   have HN5 := Lib.hid hN5
   have HD5 := Lib.hid (And.intro QW hold)
   have HB5 : Hid (Below w.heap.size w w5 ∧ ∀ k, tight (grow (fun k => k = B) W0) wr k → w.heap.size ≤ k) := ⟨HBR.out.trans (hb5.mono HBR.out.size), fun k hk => by
        rcases hk.1 with h1 | h1
        ·rw [show k = B from h1]; exact hBz
        ·exact Nat.le_trans hbw0.size h1⟩
   clear hown hb5 hH hN5 hold QW hH5 HDr
   generalize tight (grow (fun k => k = B) W0) wr = S3 at *
   go_upto_region 14 with (go_at_call 35; (with_reducible refine HN5.out.mono ?_); rintro x w6 ⟨rfl, hH6⟩)
   obtain ⟨M3, hM3⟩ : ∃ M3, M3 = M2 ++ aN ds.length := ⟨_, rfl⟩
   have Ud : M3.length ≤ 800000 := by have := aV ds.length (by omega); rw [hM3, List.length_append]; omega
   rw [← hM3] at hH6 HF
   have HH6 := Lib.hid hH6
   clear hM3 hH6 HN5 hwr
   go_wp2
   go_loopw [44] (fun i wr => ∃ j : Nat, i = .int .i64 j ∧ j ≤ ds.length ∧ Hold S3 w5 B wr (M3 ++ bU (ds.take j))) (fun i _ => ds.length - (intOf i).toNat)
   case atStart => exact ⟨0, rfl, Nat.zero_le _, by simpa [bU] using HH6.out⟩
   case round =>
        obtain ⟨j, rfl, hj, hH⟩ := hrel
        by_cases hlt : j < ds.length
        ·obtain ⟨A, off, rfl, c0, c1, c2⟩ := (hH.dots HD5.out.1 HD5.out.2).at hlt
         have HT : Hid (M3 ++ bU (ds.take (j + 1)) = (M3 ++ bU (ds.take j)) ++ jy ds[j]) := by
          unfold Hid
          rw [List.take_add_one, List.getElem?_eq_getElem hlt, Option.toList_some, kY, List.append_assoc]
         have hlen : (M3 ++ bU (ds.take j)).length ≤ 268435456 := by
          have h1 := eQ (ds.take j)
          rw [List.length_take] at h1
          rw [List.length_append]
          omega
         have HLT := Lib.hid hlt
         generalize ds[j] = d at *
         clear hlt
         go_upto_region 17 with fail
         refine aX (fun Wx hWx => ?_)
         have hbx : Below wr.heap.size wr Wx := by rw [hWx.out]; go_grown
         have v0 : Wx.cell? ⟨wr.heap.size, 0, none⟩ = some (.int .i64 d.a.dev) := by rw [hWx.out]; go_simp
         have v1 : Wx.cell? ⟨wr.heap.size, 1, none⟩ = some (.int .i64 d.a.inc) := by rw [hWx.out]; go_simp
         have v2 : Wx.cell? ⟨wr.heap.size, 2, none⟩ = some (.int .i64 d.seq) := by rw [hWx.out]; go_simp
         have HP := Lib.hid (uD (hH.below hbx) d hlen)
         clear hWx c0 c1 c2 hH hbx hlen
         go_wp2_with (go_at_call 36; (with_reducible refine HP.out.mono ?_); rintro v w8 ⟨rfl, hH8⟩)
         have HZ := Lib.hid hH8
         clear hH8 v0 v1 v2
         go_roundw
         case rel => exact ⟨j + 1, by go_num, HLT.out, by rw [HT.out]; exact HZ.out⟩
         case measure => exact z64
        ·obtain rfl : j = ds.length := by omega
         rw [List.take_length] at hH
         have hfl : (M3 ++ bU ds).length ≤ 1048576 := by
          have h1 := eQ ds
          rw [List.length_append]
          omega
         obtain ⟨L9, hL9⟩ : ∃ L9, L9 = M3 ++ bU ds := ⟨_, rfl⟩
         rw [← hL9] at hH hfl HF
         have HDn := Lib.hid (zZ wr hH hfl)
         have hbF := HB5.out.1.trans (hH.fr.below HB5.out.1.size HB5.out.2)
         clear hH hj hL9
         exact z100
def pM (s : MS) : Bytes := eX s.ctx ++ aN (dC s).length ++ dZ ((dC s).map fun e => { e with over := [] })
theorem Jf {S : Nat → Prop} {w0 : World} {B C : Nat} {l : Bytes} (e : Ev) (a : Option Addr) (cap : Nat) (w : World) (h : Hold S w0 B w l) (hc : w0.cell? ⟨C, 0, none⟩ = some (.pointer (some ⟨B, 0, none⟩))) (hs : ¬ S C) (hl : l.length ≤ 1048576) (hok : cu e = true) (hk : e.kind = 1) :
 Calls Tryz.prog 50 #[ja e a cap, .pointer (some ⟨C, 0, none⟩)] w (qK S w0 B (l ++ evB { e with over := [] })) := by
 have HK := Lib.hid hk
 clear hk
 go_enter Tryz.func50, Tryz.ntmps50
 go_upto_region 1 with fail
 refine aX (fun Wx hWx => ?_)
 have hbx : Below w.heap.size w Wx := by rw [hWx.out]; go_grown
 have hRx : Wx.rangeAt w.heap.size 0 (ah e a cap) := by rw [hWx.out]; exact bY e a cap w _
 have hg9 : Wx.heap[w.heap.size]? = some (.cells (ah e a cap).toArray 64 (0, 0)) := by rw [hWx.out]; exact bV _ _
 have hfz : Wx.frozen? ⟨w.heap.size, 18, none⟩ = false := by simp [World.frozen?, hg9]
 have v18 : Wx.cell? ⟨w.heap.size, 18, none⟩ = some (.slice a e.over.length cap) := by have := hRx 18 _ rfl; rwa [Nat.zero_add] at this
 clear hWx hg9
 go_upto_region 2 with fail
 refine aX (fun W6 hW6 => ?_)
 have hb6 : Below w.heap.size w W6 := by rw [hW6.out]; exact hbx.setCell (Nat.le_refl _) _
 have R5 : W6.rangeAt w.heap.size 0 (ah { e with over := [] } none 0) := by rw [hW6.out]; exact yE hRx
 have h6 := h.below hb6
 have c6 := h6.kept hc hs
 obtain ⟨e9, he9⟩ : ∃ e9 : Ev, e9 = { e with over := [] } := ⟨_, rfl⟩
 have ho9 : e9.over = [] := by rw [he9]
 have xN : cu e9 = true := by rw [he9]; exact uK hok HK.out
 rw [← he9] at R5 ⊢
 have HP := Lib.hid (zU h6 e9 none 0 hl xN (Or.inl ho9) (fun A off ha _ => nomatch ha))
 have hz9 : e9.over.length = 0 := by rw [ho9]; rfl
 clear hW6 hRx hfz v18 hbx h he9 hok xN hb6
 go_wp2_with (first
  | ((with_reducible refine aY _ w.heap.size 0 e9 none 0 R5 ?_ rfl ?_); exact rfl)
  | (go_at_call 33; (with_reducible refine HP.out.mono ?_); rintro v w3 ⟨rfl, H3⟩))
 go_end0
 exact ⟨rfl, H3⟩
/-- what lies in a world is old for one that starts later -/
theorem NM {w w0 : World} {S : Nat → Prop} {a : Option Addr} {ls : List bg} (hE : EvsIn w a ls) (hz : w.heap.size ≤ w0.heap.size) (hS : ∀ k, S k → w.heap.size ≤ k) : OldAt w0 S a (ls ≠ []) ∧ ∀ y ∈ ls, OldAt w0 S y.2.1 (y.1.over ≠ []) := by
 refine ⟨fun A off ha hne => ?_, fun y hy A off ha hne => ?_⟩
 ·rcases hE.rows with h0 | ⟨A', off', h1, h2⟩
  ·exact absurd h0 hne
  ·rw [ha] at h1
   simp only [Option.some.injEq, Addr.mk.injEq, and_true] at h1
   obtain ⟨rfl, rfl⟩ := h1
   have hl : 0 < ls.length := List.length_pos_iff.2 hne
   have c : w.cell? ⟨A, off + 0 * 19 + 1, none⟩ = some (.int .i64 ls[0].1.dot.a.inc) := h2 0 hl 1 _ rfl
   have h3 := World.block_lt_of_cell? w _ c
   exact ⟨Nat.lt_of_lt_of_le h3 hz, fun h => by have := hS _ h; simp at h3; omega⟩
 ·rcases hE.dots y hy with h0 | ⟨A', off', h1, h2⟩
  ·exact absurd h0 hne
  ·rw [ha] at h1
   simp only [Option.some.injEq, Addr.mk.injEq, and_true] at h1
   obtain ⟨rfl, rfl⟩ := h1
   have hl : 0 < y.1.over.length := List.length_pos_iff.2 hne
   have h3 := World.block_lt_of_cell? w _ (h2.inc 0 hl)
   exact ⟨Nat.lt_of_lt_of_le h3 hz, fun h => by have := hS _ h; simp at h3; omega⟩
theorem BZ {s : MS} {n : Nat} (hg : SGood s n) : (dC s).length ≤ s.K.length := by
 have h1 : (dC s).length = (sortD (s.pairs.map (·.2))).length := by unfold dC; rw [List.length_map]
 have h2 : (sortD (s.pairs.map (·.2))).length ≤ (s.K.map (·.1.dot)).length := by
  refine List.Nodup.length_le_of_subset (iI _).nodup fun d hd => ?_
  obtain ⟨q, hq, rfl⟩ := List.mem_map.1 (df.1 hd)
  obtain ⟨x, hx, _, h3, _⟩ := (hg.inv.pairs q.1 q.2).1 hq
  exact List.mem_map.2 ⟨x, hx, h3⟩
 rw [List.length_map] at h2
 omega
theorem z85 {p : Prop} (h : p := by
 rw [List.take_add_one, List.getElem?_eq_getElem (by omega), Option.toList_some]
 congr 2
 simp only [hbs, List.getElem_map]
 rw [oG hk]) : p := h
theorem z142 {p : Prop} (h : p := by
 unfold Hid
 rw [HBT.out.2 k hlt, BN, List.append_assoc]) : p := h
theorem KI {m : Nat} {b : MB} {s : MS} (w : World) (h : MpIn w m b s) (hg : SGood s 60) (hk : s.K.length ≤ 60) : Calls Tryz.prog 13 #[.pointer (some ⟨m, 0, none⟩)] w (Iz (pM s) w) := by
 have hmf : ∀ (fn : Fn) (first cap : Array Value) (w : World), (Instr.makeFunc fn first cap).run Tryz.prog w = .ok (.func fn first cap) w := fun _ _ _ _ => rfl
 have HAl := Lib.hid (sG w h hg.inv hg.inv.dots hg.inv.overs)
 have hcx := hg.ctx
 have HBg := Lib.hid (fun (X : World) (a : Option Addr) (n cap : Nat) (h : MpIn X m b s) (hn : n ≤ 1048576) => vY a n cap X h hg.inv (by omega) hn)
 have hml : (eX s.ctx).length ≤ 2000 := by
  exact z95
 have HGG := Lib.hid hg
 have HM9 := Lib.hid h
 have Rw : (dC s).length ≤ 60 := by
  exact Nat.le_trans (BZ hg) hk
 go_enter Tryz.func13, Tryz.ntmps13
 go_upto_region 4 with (go_at_call 41; (with_reducible refine HAl.out.mono ?_); rintro x w1 ⟨aE, ls, cE, rfl, hE, ⟨hev, _, _⟩, hb1⟩)
 have h1 := h.kept_w hb1
 have SE : ls.length ≤ 60 := by rw [← aJ, hev]; exact Rw
 go_upto_region 7 with (go_at_call 32; (with_reducible refine (HBg.out _ _ _ _ h1 (by omega)).mono ?_); rintro x w2 ⟨B, W0, x0, t0, f0, rfl, hBw, hB0, hb2, HH⟩)
 refine aX (fun W hW => ?_)
 have hbx : Below w2.heap.size w2 W := by rw [hW.out]; go_grown
 have x0c : W.cell? ⟨w2.heap.size, 0, none⟩ = some (.pointer (some ⟨B, 0, none⟩)) := by rw [hW.out]; go_simp
 clear hW
 have hbw0 : Below w.heap.size w W0 := hb1.trans (hb2.mono hb1.size)
 have Qz := HH.fr.size
 have hbw2 : Below w.heap.size w w2 := hbw0.trans (HH.fr.below hbw0.size (fun k hk => by rw [show k = B from hk]; exact Nat.le_trans hb1.size hBw))
 have hbW := hbw2.trans (hbx.mono hbw2.size)
 have hH5 : Hold (tight (grow (fun k => k = B) W0) w2) W B W (eX s.ctx ++ aN ls.length) := Hold.start (HH.wr.tight.frame (S := tight (grow (fun k => k = B) W0) w2) (T := fun _ => False) (Fr.of_below hbx) (fun _ _ g => g))
 have hS1 : ∀ k, tight (grow (fun k => k = B) W0) w2 k → w1.heap.size ≤ k := fun k hk => by
  rcases hk.1 with h9 | h9
  ·rw [show k = B from h9]; exact hBw
  ·exact Nat.le_trans hb2.size h9
 have hSC : ¬ tight (grow (fun k => k = B) W0) w2 w2.heap.size := fun hk => by have := hk.2; omega
 have PW : Below w1.heap.size w1 W := (hb2.trans (HH.fr.below hb2.size (fun k hk => by rw [show k = B from hk]; exact hBw))).trans (hbx.mono (Nat.le_trans hb2.size Qz))
 have hEW := hE.kept PW
 obtain ⟨oe, od⟩ := NM hE PW.size hS1
 have HO := Lib.hid (And.intro hEW (And.intro oe od))
 have HS1 : Hid (∀ k, tight (grow (fun k => k = B) W0) w2 k → w.heap.size ≤ k) := fun k hk => Nat.le_trans hb1.size (hS1 k hk)
 have hok : ∀ x ∈ ls, cu x.1 = true ∧ x.1.kind = 1 := fun x hx => by
  have h9 : x.1 ∈ dC s := by rw [← hev]; exact List.mem_map_of_mem hx
  obtain ⟨⟨z, hz, e⟩, hk1, _⟩ := (iP HGG.out.inv HGG.out.nd).1 h9
  rw [← e]
  exact ⟨(HGG.out.inv.kept z hz).1, by rw [e]; exact hk1⟩
 have HOK := Lib.hid hok
 have HBW := Lib.hid hbW
 obtain ⟨M, hM⟩ : ∃ M, M = eX s.ctx ++ aN ls.length := ⟨_, rfl⟩
 have hMl : M.length ≤ 3000 := by
  have h4 := aV ls.length (by omega)
  rw [hM, List.length_append]
  omega
 have HF : Hid (pM s = M ++ dZ ((aQ ls).map fun e => { e with over := [] })) := by unfold Hid pM; rw [hM, hev, ← aJ, hev]
 rw [← hM] at hH5
 have HHH := Lib.hid (And.intro hH5 (And.intro x0c hSC))
 obtain ⟨bs, hbs⟩ : ∃ bs, bs = (aQ ls).map fun e : Ev => { e with over := [] } := ⟨_, rfl⟩
 rw [← hbs] at HF
 have hel : ∀ k, (dZ (bs.take k)).length ≤ 60 * 8192 := fun k => by
  have h1 : ∀ l : List Ev, (∀ e ∈ l, cu e = true) → (dZ l).length ≤ l.length * 8192 := by
   exact z44
  have h2 := h1 (bs.take k) fun e he => by
   have h3 := List.mem_of_mem_take he
   rw [hbs] at h3
   obtain ⟨y, hy, rfl⟩ := List.mem_map.1 h3
   obtain ⟨x, hx, rfl⟩ := List.mem_map.1 hy
   exact uK (hok x hx).1 (hok x hx).2
  rw [List.length_take, hbs, List.length_map, aJ] at h2
  have : min k ls.length ≤ 60 := by omega
  exact Nat.le_trans (hbs ▸ h2) (Nat.mul_le_mul_right _ this)
 have HEL := Lib.hid hel
 have hbl : bs.length = ls.length := by rw [hbs, List.length_map, aJ]
 have hbt : ∀ k (hk : k < ls.length), bs.take (k + 1) = bs.take k ++ [({ ls[k].1 with over := [] } : Ev)] := fun k hk => by
  exact z85
 have HBT := Lib.hid (And.intro hbl hbt)
 clear h1 h hE hb1 hb2 hev hok hM HH oe od hel HBg HAl hml hbw0 Qz hbw2 hbW hH5 hS1 hSC PW hEW hbx hbs hbl hbt x0c hg hk Rw
 generalize tight (grow (fun k => k = B) W0) w2 = S3 at *
 generalize w2.heap.size = C at *
 go_wp2
 go_loopw [26] (fun i wr => ∃ k : Nat, i = .int .i64 k ∧ k ≤ ls.length ∧ Hold S3 W B wr (M ++ dZ (bs.take k))) (fun i _ => ls.length - (intOf i).toNat)
 case atStart => exact ⟨0, rfl, Nat.zero_le _, by simpa [dZ] using HHH.out.1⟩
 case round =>
  obtain ⟨k, rfl, hk9, hH⟩ := hrel
  by_cases hlt : k < ls.length
  ·obtain ⟨A, off, rfl, hra, hda⟩ := (hH.evs9 HO.out.1 HO.out.2.1 HO.out.2.2).at hlt
   have r1 := hra k hlt
   have hoe := HOK.out _ (List.getElem_mem hlt)
   have HT : Hid (M ++ dZ (bs.take (k + 1)) = (M ++ dZ (bs.take k)) ++ evB { ls[k].1 with over := [] }) := by
        exact z142
   have hlen : (M ++ dZ (bs.take k)).length ≤ 1048576 := by have := HEL.out k; rw [List.length_append]; omega
   have HLT := Lib.hid hlt
   clear hra hda
   generalize ls[k] = x at *
   obtain ⟨e, ax, cx⟩ := x
   simp only [jP] at r1
   simp only at hoe HT
   have hal := (Below.refl wr.heap.size wr).alloc (Nat.le_refl _) (.cells (ah e ax cx).toArray 64)
   have hH2 := hH.below hal
   have HP := Lib.hid (Jf e ax cx _ hH2 HHH.out.2.1 HHH.out.2.2 hlen hoe.1 hoe.2)
   have RX : (wr.alloc (.cells (ah e ax cx).toArray 64)).rangeAt wr.heap.size 0 (ah e ax cx) := bY e ax cx wr _
   clear hH hH2 hoe hlen hal
   go_wp2_with (first
        | ((with_reducible refine aY _ A (off + k * 19) e ax cx r1 ?_ rfl ?_); exact rfl)
        | (refine bQ 64 _ _ _ (ah e ax cx).toArray rfl rfl (by kernel_rfl) rfl (by kernel_rfl) ?_)
        | ((with_reducible refine aY _ wr.heap.size 0 e ax cx RX ?_ rfl ?_); exact rfl)
        | (go_at_call 50; (with_reducible refine HP.out.mono ?_); rintro v w3 ⟨rfl, H3⟩))
   exact z125
  ·obtain rfl : k = ls.length := by omega
   have hEl := HEL.out ls.length
   rw [List.take_of_length_le (Nat.le_of_eq HBT.out.1)] at hH hEl
   have xC := hH.kept HHH.out.2.1 HHH.out.2.2
   have hfl : (M ++ dZ bs).length ≤ 1048576 := by rw [List.length_append]; omega
   obtain ⟨L9, hL9⟩ : ∃ L9, L9 = M ++ dZ bs := ⟨_, rfl⟩
   rw [← hL9] at hH hfl HF
   have HDn := Lib.hid (zZ wr hH hfl)
   have hbF := HBW.out.trans (hH.fr.below HBW.out.size HS1.out)
   clear hH hL9 hEl
   exact z100
theorem Je {s : MS} (hg : SGood s 60) (hk : s.K.length ≤ 60) : (pM s).length ≤ 1048576 := by
 have hcx := hg.ctx
 have ha := BZ hg
 have h1 := aV s.ctx.length (by omega)
 have h2 := eQ s.ctx
 have h3 := aV (dC s).length (by omega)
 have h4 : ∀ l : List Ev, (∀ e ∈ l, cu e = true) → (dZ l).length ≤ l.length * 8192 := by
  exact z44
 have h5 := h4 ((dC s).map fun e => { e with over := [] }) fun e he => by
  obtain ⟨x, hx, rfl⟩ := List.mem_map.1 he
  obtain ⟨⟨z, hz, e9⟩, hk1, _⟩ := (iP hg.inv hg.nd).1 hx
  exact uK (by rw [← e9]; exact (hg.inv.kept z hz).1) hk1
 rw [List.length_map] at h5
 unfold pM eX
 simp only [List.length_append]
 omega
theorem DU (w : World) : Calls Tryz.prog 13 #[.pointer none] w fun x w' => x = .returned (.tuple #[.slice none 0 0, .int .i64 17]) ∧ w = w' := by
 go_enter Tryz.func13, Tryz.ntmps13
 go_wp2
 go_ret2
 exact ⟨rfl, rfl⟩
end Go.Proofs.YtdlmbflhbecggaaGreat
