/- canon: Most, done, begin, Full. Conditions: as in the text. -/
import Derived.Test.YtdlmbflhbecggaaGreatReadJ
import Derived.Test.YtdlmbflhbecggaaGreatIsB
set_option linter.unusedSimpArgs false
set_option linter.unusedVariables false
set_option linter.unnecessarySimpa false
set_option maxHeartbeats 16000000
set_option maxRecDepth 100000
namespace Go.Proofs.YtdlmbflhbecggaaGreat
open Go.RowKit
def jh (n : Int) : Int := min (max n 0) 1048576
theorem oV (n : Int) : 0 ≤ jh n ∧ jh n ≤ 1048576 := by unfold jh; omega
theorem Gq (n : Int) (w : World) : Calls Tryz.prog 56 #[.int .i64 n] w fun x w' => x = .returned (.int .i64 (jh n)) ∧ w = w' := by
 have h1 := oV n
 go_enter Tryz.func56, Tryz.ntmps56
 go_wp2
 go_ret
 exact ⟨bT (by unfold jh; omega), rfl⟩
theorem JQ (x y : Int) (w : World) : Calls Tryz.prog 17 #[.int .i64 x, .int .i64 y] w fun v w' => v = .returned (.int .i64 (8 + 9 * jh x + 1840 * jh y)) ∧ w = w' := by
 have hx := oV x
 have hy := oV y
 have H := Lib.hid (fun (n : Int) (X : World) => Gq n X)
 go_enter Tryz.func17, Tryz.ntmps17
 have h1 : IntKind.i64.wrap (9 * jh x) = 9 * jh x := IntWalk.i64_in _ (by omega)
 have h2 : IntKind.i64.wrap (8 + 9 * jh x) = 8 + 9 * jh x := IntWalk.i64_in _ (by omega)
 have h3 : IntKind.i64.wrap (1840 * jh y) = 1840 * jh y := IntWalk.i64_in _ (by omega)
 have h4 : IntKind.i64.wrap (8 + 9 * jh x + 1840 * jh y) = 8 + 9 * jh x + 1840 * jh y := IntWalk.i64_in _ (by omega)
 go_wp2_with (go_at_call 56; (with_reducible refine (H.out _ _).mono ?_); rintro v w1 ⟨rfl, rfl⟩)
 go_ret
 exact ⟨rfl, rfl⟩
theorem Gf {e : Ev} (h : dN e = true) : (evB e).length ≤ 8192 := by
 have hf := tY h
 have h64 := hf.over
 have d1 := yX e.dot
 have d2 := xg e.stamp
 have d3 := bf e.over.length (by omega)
 have d4 := iR e.over
 obtain ⟨s1, s2, s3, s4⟩ := rZ h
 have t1 := jQ (bl e.key.name) (by rw [aH]; omega)
 have t2 := jQ (bl e.key.domain) (by rw [aH]; omega)
 have t3 := jQ (bl e.key.path) (by rw [aH]; omega)
 have t4 := jQ (bl e.ck.value) (by rw [aH]; omega)
 simp only [aH] at t1 t2 t3 t4
 unfold evB uS rW
 split
 ·rename_i h1
  obtain ⟨⟨f1, f2⟩, ⟨f3, f4⟩, f5, f6⟩ := hf.item h1
  have t5 := CE e.ck.expiry (by omega) (by omega)
  have t6 := bf e.ck.creation.toNat (by omega)
  have t7 := bf e.ck.access.toNat (by omega)
  simp only [List.length_append, List.length_singleton]; omega
 ·simp only [List.length_append, List.length_singleton, List.length_nil]; omega
theorem Aq : ∀ l : List Ev, (∀ e ∈ l, dN e = true) → (mW l).length ≤ l.length * 8192
 | [], _ => Nat.zero_le _
 | x :: l, h => by
   have h2 := Aq l fun e he => h e (List.mem_cons_of_mem _ he)
   have h3 := Gf (h x List.mem_cons_self)
   show (evB x ++ mW l).length ≤ _
   rw [List.length_append, List.length_cons]
   omega
theorem yS : ∀ (l : List Ev) (k : Nat), (mW (l.take k)).length ≤ (mW l).length
 | [], k => by rw [List.take_nil]; exact Nat.le_refl _
 | x :: l, 0 => Nat.zero_le _
 | x :: l, k + 1 => by
   have h := yS l k
   show (evB x ++ mW (l.take k)).length ≤ (evB x ++ mW l).length
   rw [List.length_append, List.length_append]
   omega
/-- what holds the events of a row in a world that a writer has gone on from -/
theorem Hold.evs9 {S : Nat → Prop} {w0 w : World} {B : Nat} {l : Bytes} (h : Hold S w0 B w l) {a : Option Addr} {ls : List bJ} (hE : EvsIn w0 a ls) (oe : ut w0 S a (ls ≠ [])) (od : ∀ x ∈ ls, ut w0 S x.2.1 (x.1.over ≠ [])) : EvsIn w a ls := by
 refine ⟨hE.rows.imp id fun ⟨A, off, h1, h2⟩ => ⟨A, off, h1, fun i hi j v hv => ?_⟩, fun x hx => h.dots (hE.dots x hx) (od x hx)⟩
 have hne : ls ≠ [] := fun e => by rw [e] at hi; simp at hi
 obtain ⟨h3, h4⟩ := oe A off h1 hne
 exact (World.cell?_of_block (h.fr.block A h3 h4)).trans (h2 i hi j v hv)
theorem GN {w : World} {B : Nat} {x : Value} {t : TypeId} {f : Nat × Nat} {a : Option Addr} {l : List Dot} (hd : DotsIn w a l) (hB : w.heap[B]? = some (.cells #[x] t f)) : ut w (fun k => k = B) a (l ≠ []) := fun A off ha hne => by
 rcases hd with h0 | ⟨A', off', h1, h2⟩
 ·exact absurd h0 hne
 ·rw [ha] at h1
  simp only [Option.some.injEq, Addr.mk.injEq, and_true] at h1
  obtain ⟨rfl, rfl⟩ := h1
  have hl : 0 < l.length := List.length_pos_iff.2 hne
  have c := h2.inc 0 hl
  refine ⟨World.block_lt_of_cell? w _ c, fun e => ?_⟩
  subst e
  simp [World.cell?, hB] at c
theorem NE {w : World} {B : Nat} {x : Value} {t : TypeId} {f : Nat × Nat} {a : Option Addr} {ls : List bJ} (hE : EvsIn w a ls) (hB : w.heap[B]? = some (.cells #[x] t f)) : ut w (fun k => k = B) a (ls ≠ []) ∧ ∀ y ∈ ls, ut w (fun k => k = B) y.2.1 (y.1.over ≠ []) := by
 refine ⟨fun A off ha hne => ?_, fun y hy => GN (hE.dots y hy) hB⟩
 rcases hE.rows with h0 | ⟨A', off', h1, h2⟩
 ·exact absurd h0 hne
 ·rw [ha] at h1
  simp only [Option.some.injEq, Addr.mk.injEq, and_true] at h1
  obtain ⟨rfl, rfl⟩ := h1
  have hl : 0 < ls.length := List.length_pos_iff.2 hne
  have c : w.cell? ⟨A, off + 0 * 19 + 1, none⟩ = some (.int .i64 ls[0].1.dot.a.inc) := h2 0 hl 1 _ rfl
  refine ⟨World.block_lt_of_cell? w _ c, fun e => ?_⟩
  subst e
  simp [World.cell?, hB] at c
theorem JK {w : World} {base : Nat} {a : Option Addr} {n cap : Nat} {xs : List Value} (h : w.ownsRow base 5 1 (.slice a n cap) n xs) : n ≤ cap := by
 rcases h.2 with ⟨h0, hn⟩ | ⟨g, c, cur, he, _, _, hc, _⟩
 ·omega
 ·cases he; exact hc
/-- behind what hands back bytes, and no error -/
def GG (l : Bytes) (w : World) (e : Ending) (w' : World) : Prop := ∃ a c, e = .returned (.tuple #[.slice a l.length c, .int .i64 0]) ∧ (BytesIn w' a l ∧ l.length ≤ c) ∧ Below w.heap.size w w'
def tC (s : MS) : Bytes := jM s.ctx ++ bg s.K.length ++ mW (dA s) ++ bg (sortD s.dead).length ++ dX (sortD s.dead)
theorem Ej {S : Nat → Prop} {w0 : World} {B : Nat} {l : Bytes} (w : World) (h : Hold S w0 B w l) (hl : l.length ≤ 1048576) : Calls Tryz.prog 37 #[.pointer (some ⟨B, 0, none⟩)] w (GG l w) := by
 have HB := Lib.hid (La h (by omega))
 have hdl : decide ((1048576 : Int) < (l.length : Int)) = false := decide_eq_false (by omega)
 go_enter Tryz.func37, Tryz.ntmps37
 go_wp2_with (go_at_call 90; (with_reducible refine HB.out.mono ?_); rintro x w1 ⟨v, rfl, hown, hb1⟩; obtain ⟨a, c, rfl, hin⟩ := iQ hown)
 all_goals
  go_ret2
  exact ⟨a, c, rfl, ⟨hin, JK hown⟩, hb1⟩
/-- behind begin: a new writer, the marks and how many events -/
def Ol (s : MS) (n : Nat) (w : World) (e : Ending) (w' : World) : Prop := ∃ B W0 x t f, e = .returned (.tuple #[.pointer (some ⟨B, 0, none⟩), .int .i64 0]) ∧ w.heap.size ≤ B ∧ W0.heap[B]? = some (.cells #[x] t f) ∧ Below w.heap.size w W0 ∧ Hold (fun k => k = B) W0 B w' (jM s.ctx ++ bg n)
theorem AO {m : Nat} {b : MB} {s : MS} (a : Option Addr) (n cap : Nat) (w : World) (h : MpIn w m b s) (hi : MInv s) (hc : s.ctx.length ≤ 4096) (hn : n ≤ 1048576) : Calls Tryz.prog 32 #[.pointer (some ⟨m, 0, none⟩), .slice a n cap] w (Ol s n w) := by
 have HC := Lib.hid (fun (X : World) (h : MpIn X m b s) => G8 X h hi hc)
 have hme := hi.marks hc
 go_enter Tryz.func32, Tryz.ntmps32
 go_upto_region 2 with fail
 refine au (fun W1 hW1 => ?_)
 have hb1 : Below w.heap.size w W1 := by rw [hW1.out]; go_grown
 have hB1 : W1.heap[w.heap.size]? = some (.cells #[.slice none 0 0] 139 (0, 0)) := by rw [hW1.out]; exact dK _ _
 have h1 := h.kept_w hb1
 clear hW1 h
 obtain ⟨B, hB⟩ : ∃ B, B = w.heap.size := ⟨_, rfl⟩
 rw [← hB] at hB1 ⊢
 have hBw : w.heap.size ≤ B := by omega
 have HBB := Lib.hid hB
 clear hB
 go_upto_region 3 with (first
  | (go_at_call 39; (with_reducible refine (HC.out _ h1).mono ?_); rintro x w2 ⟨aC, cC, rfl, hd2, hb2⟩; have hB2 := (hb2.block _ (lt_of_block hB1)).trans hB1; have HH : Hold (fun k => k = B) w2 B w2 [] := Hold.start ⟨rfl, .slice none 0 0, 0, hB2, World.ownsRow_nil _ _ _ _, fun g hg => by cases hg⟩; have HV := JA HH aC cC s.ctx (Nat.zero_le _) hme hd2 (GN hd2 hB2))
  | (go_at_call 83; (with_reducible refine HV.mono ?_); rintro x w3 ⟨rfl, HH3⟩))
 rw [List.nil_append] at HH3
 have hml : (jM s.ctx).length ≤ 268435456 := by
  have h4 := bf s.ctx.length (by omega)
  have h5 := iR s.ctx
  unfold jM
  rw [List.length_append]
  omega
 have HN := Lib.hid (AQ HH3 n hml (by omega))
 have hwr : IntKind.u64.wrap (n : Int) = (n : Int) := IntWalk.u64_in _ (by omega)
 have HQ := Lib.hid (And.intro (below2 hb1 hb2) hB2)
 clear HV HH HH3 hd2 hb1 hb2 hB1 hB2 h1
 go_wp2_with (go_at_call 35; (with_reducible refine HN.out.mono ?_); rintro x w4 ⟨rfl, HH4⟩)
 go_ret2
 exact ⟨B, w2, _, _, _, rfl, hBw, HQ.out.2, HQ.out.1, HH4⟩
theorem y7 {m : Nat} {b : MB} {s : MS} (w : World) (h : MpIn w m b s) (hi : MInv s) (hnd : (s.K.map (·.1.dot)).Nodup) (hcx : s.ctx.length ≤ 4096) (hdd : s.dead.length ≤ 65536) (hfl : (tC s).length ≤ 1048576) : Calls Tryz.prog 8 #[.pointer (some ⟨m, 0, none⟩)] w (GG (tC s) w) := by
 have HEv := Lib.hid (vC w h hi.len hi.overs hi.dots)
 have hKK := hi.len
 have HBg := Lib.hid (fun (X : World) (a : Option Addr) (n cap : Nat) (h : MpIn X m b s) (hn : n ≤ 1048576) => AO a n cap X h hi hcx hn)
 have HDs := Lib.hid (fun (X : World) (h : MpIn X m b s) => yt X h (by omega) (fun d hd => kU (hi.dead d hd)))
 have hme := hi.marks hcx
 have hml : (jM s.ctx).length ≤ 150000 := by
  have h4 := bf s.ctx.length (by omega)
  have h5 := iR s.ctx
  unfold jM
  rw [List.length_append]
  omega
 have HND := Lib.hid hnd
 have HIV := Lib.hid hi
 have HFL := Lib.hid hfl
 have HM9 := Lib.hid h
 have hdl : (sortD s.dead).length ≤ 65536 := Nat.le_trans (iI _) hdd
 clear hnd hi hfl
 go_enter Tryz.func8, Tryz.ntmps8
 go_upto_region 5 with (first
  | (go_at_call 31; (with_reducible refine HEv.out.mono ?_); rintro x w1 ⟨aE, ls, cE, rfl, hE, ⟨hev, _, _⟩, hb1⟩; have h1 := h.kept_w hb1; have HLL : Hid (ls.length = s.K.length) := (by rw [← aV, hev, iJ HND.out] : ls.length = s.K.length))
  | (go_at_call 32; (with_reducible refine (HBg.out _ _ _ _ h1 (by have := HLL.out; omega)).mono ?_); rintro x w2 ⟨B, W0, x0, t0, f0, rfl, hBw, hB0, hb2, HH⟩))
 have hbw0 : Below w.heap.size w W0 := hb1.trans (hb2.mono hb1.size)
 have hBz : w.heap.size ≤ B := Nat.le_trans hb1.size hBw
 have hE0 := hE.kept hb2
 obtain ⟨oe, od⟩ := NE hE0 hB0
 have HO := Lib.hid (And.intro hE0 (And.intro oe od))
 have hok : ∀ x ∈ ls, dN x.1 = true := fun x hx => by
  have h9 : x.1 ∈ dA s := by rw [← hev]; exact List.mem_map_of_mem hx
  obtain ⟨z, hz, e⟩ := (fO HND.out).1 h9
  rw [← e]
  exact (HIV.out.kept z hz).1
 have HOK := Lib.hid hok
 have QI : ls.length ≤ 2048 := by have := HLL.out; omega
 obtain ⟨M, hM⟩ : ∃ M, M = jM s.ctx ++ bg ls.length := ⟨_, rfl⟩
 have hMl : M.length ≤ 160000 := by
  have h4 := bf ls.length (by omega)
  rw [hM, List.length_append]
  omega
 have HF : Hid (tC s = M ++ mW (aQ ls) ++ bg (sortD s.dead).length ++ dX (sortD s.dead)) := by unfold Hid tC; rw [hM, HLL.out, hev]
 rw [← hM] at HH
 have HHH := Lib.hid HH
 have hel : ∀ k, M.length + (mW ((aQ ls).take k)).length ≤ 1048576 := fun k => by
  have h2 := yS (aQ ls) k
  have h3 := HFL.out
  rw [HF.out, List.length_append, List.length_append, List.length_append] at h3
  omega
 have HEL := Lib.hid hel
 clear h1 h hE hE0 hb1 hb2 hev hok hM HH oe od HLL hel HBg HEv hme hml
 go_wp2
 go_loopw [27] (fun i wr => ∃ k : Nat, i = .int .i64 k ∧ k ≤ ls.length ∧ Hold (fun k => k = B) W0 B wr (M ++ mW ((aQ ls).take k))) (fun i _ => ls.length - (intOf i).toNat)
 case atStart => exact ⟨0, rfl, Nat.zero_le _, by simpa [mW] using HHH.out⟩
 case round =>
  obtain ⟨k, rfl, hk9, hH⟩ := hrel
  by_cases hlt : k < ls.length
  ·obtain ⟨A, off, rfl, hra, hda⟩ := (hH.evs9 HO.out.1 HO.out.2.1 HO.out.2.2).at hlt
   have r1 := hra k hlt
   have hdo := HO.out.1.dots _ (List.getElem_mem hlt)
   have hoo := HO.out.2.2 _ (List.getElem_mem hlt)
   have hoe := HOK.out _ (List.getElem_mem hlt)
   have HT : Hid (M ++ mW ((aQ ls).take (k + 1)) = (M ++ mW ((aQ ls).take k)) ++ evB ls[k].1) := by
        unfold Hid
        rw [List.take_add_one, List.getElem?_eq_getElem (by rw [aV]; exact hlt), mF hlt, Option.toList_some, Je, List.append_assoc]
   have hlen : (M ++ mW ((aQ ls).take k)).length ≤ 1048576 := by have := HEL.out k; rw [List.length_append]; omega
   have HLT := Lib.hid hlt
   clear hra hda
   generalize ls[k] = x at *
   obtain ⟨e, ax, cx⟩ := x
   simp only [kN] at r1
   simp only at hdo hoo hoe HT
   have hal := (Below.refl wr.heap.size wr).alloc (Nat.le_refl _) (.cells (ag e ax cx).toArray 64)
   have hH2 := hH.below hal
   have HP := Lib.hid (F9 hH2 e ax cx hlen hoe hdo hoo)
   have RX : (wr.alloc (.cells (ag e ax cx).toArray 64)).rangeAt wr.heap.size 0 (ag e ax cx) := dP e ax cx wr _
   clear hH hH2 hdo hoo hoe hlen hal
   go_wp2_with (first
        | ((with_reducible refine bG _ A (off + k * 19) e ax cx r1 ?_ rfl ?_); exact rfl)
        | (refine aN 64 _ _ _ (ag e ax cx).toArray rfl rfl (by kernel_rfl) rfl (by kernel_rfl) ?_)
        | ((with_reducible refine bG _ wr.heap.size 0 e ax cx RX ?_ rfl ?_); exact rfl)
        | (go_at_call 33; (with_reducible refine HP.out.mono ?_); rintro v w3 ⟨rfl, H3⟩))
   have HZ := Lib.hid H3
   clear H3 r1 RX
   go_roundw
   case rel => exact ⟨k + 1, by go_num, HLT.out, by rw [HT.out]; exact HZ.out⟩
   case measure => have := HLT.out; simp [intOf] <;> omega
  ·obtain rfl : k = ls.length := by omega
   have hTe : (aQ ls).take ls.length = aQ ls := List.take_of_length_le (by rw [aV]; exact Nat.le_refl _)
   have hEl := HEL.out ls.length
   rw [hTe] at hH hEl
   have hbr : Below w.heap.size w wr := hbw0.trans (hH.fr.below hbw0.size (fun k hk => by rw [show k = B from hk]; exact hBz))
   have HDr := Lib.hid (HDs.out wr (HM9.out.kept_w hbr))
   obtain ⟨M2, hM2⟩ : ∃ M2, M2 = M ++ mW (aQ ls) := ⟨_, rfl⟩
   have QT : M2.length ≤ 1048576 := by rw [hM2, List.length_append]; omega
   rw [← hM2] at hH HF
   have HBR := Lib.hid hbr
   clear hM2 hbr hEl hTe hk9
   generalize sortD s.dead = ds at *
   go_upto_region 13 with (go_at_call 34; go_loud ((with_reducible refine HDr.out.mono ?_); rintro x w5 ⟨xv, rfl, hown, _, hb5⟩; obtain ⟨aD, cD, rfl, OZ⟩ := fZ hown))
   have hH5 : Hold (tight (grow (fun k => k = B) W0) wr) w5 B w5 M2 := Hold.start (hH.wr.tight.frame (S := tight (grow (fun k => k = B) W0) wr) (T := fun _ => False) (Fr.of_below hb5) (fun _ _ g => g))
   have hN5 := AQ hH5 ds.length (by omega) (by omega)
   have hwr : IntKind.u64.wrap (ds.length : Int) = (ds.length : Int) := IntWalk.u64_in _ (by omega)
   have hold : ut w5 (tight (grow (fun k => k = B) W0) wr) aD (ds ≠ []) := fun A9 Qv ha hne => by
        rcases hown.2 with ⟨h0, h1⟩ | ⟨g, cap, cur, h0, h1, h2, _⟩
        ·exact absurd (List.length_eq_zero_iff.1 h1) hne
        ·rw [ha] at h0
         simp only [Value.slice.injEq, Option.some.injEq, Addr.mk.injEq] at h0
         obtain ⟨⟨rfl, _⟩, _⟩ := h0
         exact ⟨lt_of_block h2, fun hs => by have := hs.2; omega⟩
   have HN5 := Lib.hid hN5
   have HD5 := Lib.hid (And.intro OZ hold)
   have HB5 : Hid (Below w.heap.size w w5 ∧ ∀ k, tight (grow (fun k => k = B) W0) wr k → w.heap.size ≤ k) := ⟨HBR.out.trans (hb5.mono HBR.out.size), fun k hk => by
        rcases hk.1 with h1 | h1
        ·rw [show k = B from h1]; exact hBz
        ·exact Nat.le_trans hbw0.size h1⟩
   clear hown hb5 hH hN5 hold OZ hH5 HDr
   generalize tight (grow (fun k => k = B) W0) wr = S3 at *
   go_upto_region 14 with (go_at_call 35; (with_reducible refine HN5.out.mono ?_); rintro x w6 ⟨rfl, hH6⟩)
   obtain ⟨M3, hM3⟩ : ∃ M3, M3 = M2 ++ bg ds.length := ⟨_, rfl⟩
   have QS : M3.length ≤ 1048600 := by have := bf ds.length (by omega); rw [hM3, List.length_append]; omega
   rw [← hM3] at hH6 HF
   have HH6 := Lib.hid hH6
   clear hM3 hH6 HN5 hwr
   go_wp2
   go_loopw [44] (fun i wr => ∃ j : Nat, i = .int .i64 j ∧ j ≤ ds.length ∧ Hold S3 w5 B wr (M3 ++ dX (ds.take j))) (fun i _ => ds.length - (intOf i).toNat)
   case atStart => exact ⟨0, rfl, Nat.zero_le _, by simpa [dX] using HH6.out⟩
   case round =>
        obtain ⟨j, rfl, hj, hH⟩ := hrel
        by_cases hlt : j < ds.length
        ·obtain ⟨A, off, rfl, c0, c1, c2⟩ := (hH.dots HD5.out.1 HD5.out.2).at hlt
         have HT : Hid (M3 ++ dX (ds.take (j + 1)) = (M3 ++ dX (ds.take j)) ++ oq ds[j]) := by
          unfold Hid
          rw [List.take_add_one, List.getElem?_eq_getElem hlt, Option.toList_some, su, List.append_assoc]
         have hlen : (M3 ++ dX (ds.take j)).length ≤ 268435456 := by
          have h1 := iR (ds.take j)
          rw [List.length_take] at h1
          rw [List.length_append]
          omega
         have HLT := Lib.hid hlt
         generalize ds[j] = d at *
         clear hlt
         go_upto_region 17 with fail
         refine au (fun Wx hWx => ?_)
         have hbx : Below wr.heap.size wr Wx := by rw [hWx.out]; go_grown
         have v0 : Wx.cell? ⟨wr.heap.size, 0, none⟩ = some (.int .i64 d.a.dev) := by rw [hWx.out]; go_simp
         have v1 : Wx.cell? ⟨wr.heap.size, 1, none⟩ = some (.int .i64 d.a.inc) := by rw [hWx.out]; go_simp
         have v2 : Wx.cell? ⟨wr.heap.size, 2, none⟩ = some (.int .i64 d.seq) := by rw [hWx.out]; go_simp
         have HP := Lib.hid (uh (hH.below hbx) d hlen)
         clear hWx c0 c1 c2 hH hbx hlen
         go_wp2_with (go_at_call 36; (with_reducible refine HP.out.mono ?_); rintro v w8 ⟨rfl, hH8⟩)
         have HZ := Lib.hid hH8
         clear hH8 v0 v1 v2
         go_roundw
         case rel => exact ⟨j + 1, by go_num, HLT.out, by rw [HT.out]; exact HZ.out⟩
         case measure => have := HLT.out; simp [intOf] <;> omega
        ·obtain rfl : j = ds.length := by omega
         rw [List.take_length] at hH
         have hfl : (M3 ++ dX ds).length ≤ 1048576 := by
          have h1 := HFL.out
          rw [HF.out] at h1
          exact h1
         obtain ⟨L9, hL9⟩ : ∃ L9, L9 = M3 ++ dX ds := ⟨_, rfl⟩
         rw [← hL9] at hH hfl HF
         have HDn := Lib.hid (Ej wr hH hfl)
         have hbF := HB5.out.1.trans (hH.fr.below HB5.out.1.size HB5.out.2)
         clear hH hj hL9
         go_wp2_with (go_at_call 37; (with_reducible refine HDn.out.mono ?_); rintro x w9 ⟨a9, c9, rfl, P7, hb9⟩)
         go_ret2
         rw [HF.out]
         exact ⟨a9, c9, rfl, P7, hbF.trans (hb9.mono hbF.size)⟩
theorem F8 {s : MS} (hg : SGood s 60) (hk : s.K.length ≤ 60) : (tC s).length ≤ 1048576 := by
 have hcx := hg.ctx
 have hdd := hg.dead
 have hdl : (sortD s.dead).length ≤ s.dead.length := iI _
 have h1 := bf s.ctx.length (by omega)
 have h2 := iR s.ctx
 have h3 := bf s.K.length (by omega)
 have h5 := Aq (dA s) fun e he => by
  obtain ⟨z, hz, e9⟩ := (fO hg.nd).1 he
  rw [← e9]
  exact (hg.inv.kept z hz).1
 rw [iJ hg.nd] at h5
 have h6 := bf (sortD s.dead).length (by omega)
 have h7 := iR (sortD s.dead)
 unfold tC jM
 simp only [List.length_append]
 omega
theorem Jm {m : Nat} {b : MB} {s : MS} (w : World) (h : MpIn w m b s) (hg : SGood s 60) (hk : s.K.length ≤ 60) : Calls Tryz.prog 8 #[.pointer (some ⟨m, 0, none⟩)] w (GG (tC s) w) :=
 y7 w h hg.inv hg.nd (by have := hg.ctx; omega) (by have := hg.dead; omega) (F8 hg hk)
theorem Gs {m : Nat} {b : MB} (w : World) (h : MpIn w m b MS.empty) : Calls Tryz.prog 13 #[.pointer (some ⟨m, 0, none⟩)] w fun x w' => (∃ a c, x = .returned (.tuple #[.slice a 2 c, .int .i64 0])) ∧ Below w.heap.size w w' := by
 have hmf : ∀ (fn : Fn) (first cap : Array Value) (w : World), (Instr.makeFunc fn first cap).run Tryz.prog w = .ok (.func fn first cap) w := fun _ _ _ _ => rfl
 have HAl := Lib.hid (yu w h MInv.empty MInv.empty.dots (fun x hx => (nomatch hx)))
 have HBg := Lib.hid (fun (X : World) (a : Option Addr) (cap : Nat) (h : MpIn X m b MS.empty) => AO a 0 cap X h MInv.empty (by decide) (by decide))
 have HM := Lib.hid h
 go_enter Tryz.func13, Tryz.ntmps13
 go_upto_region 4 with (go_at_call 41; (with_reducible refine HAl.out.mono ?_); rintro x w1 ⟨aE, ls, cE, rfl, hE, ⟨hev, _, _⟩, hb1⟩)
 have hl0 : ls = [] := by
  have h1 := congrArg List.length hev
  rw [aV] at h1
  exact List.eq_nil_of_length_eq_zero h1
 subst hl0
 have h1 := HM.out.kept_w hb1
 rw [show ([] : List bJ).length = 0 from rfl]
 clear hE hev HAl h
 go_upto_region 7 with (go_at_call 32; (with_reducible refine (HBg.out _ _ _ h1).mono ?_); rintro x w2 ⟨B, W0, x0, t0, f0, rfl, hBw, hB0, hb2, HH⟩)
 refine au (fun W hW => ?_)
 have hbx : Below w2.heap.size w2 W := by rw [hW.out]; go_grown
 have x0c : W.cell? ⟨w2.heap.size, 0, none⟩ = some (.pointer (some ⟨B, 0, none⟩)) := by rw [hW.out]; go_simp
 have hbw0 : Below w.heap.size w W0 := hb1.trans (hb2.mono hb1.size)
 have hbw2 := hbw0.trans (HH.fr.below hbw0.size (fun k hk => by rw [show k = B from hk]; exact Nat.le_trans hb1.size hBw))
 have hD0 : Calls Tryz.prog 37 #[.pointer (some ⟨B, 0, none⟩)] W fun x w' => ∃ a c, x = .returned (.tuple #[.slice a 2 c, .int .i64 0]) ∧ Below W.heap.size W w' := (Ej W (HH.below hbx) (by decide +kernel)).mono fun x w' h => by
  obtain ⟨a, c, rfl, _, h2⟩ := h
  exact ⟨a, c, by rw [show (jM MS.empty.ctx ++ bg 0).length = 2 by decide +kernel], h2⟩
 have HDn := Lib.hid hD0
 have HBW := Lib.hid (hbw2.trans (hbx.mono hbw2.size))
 clear hW HH hbx hb1 hb2 h1 hbw0 hbw2 hD0
 go_wp2
 go_loopw [26] (fun i wr => i = .int .i64 0 ∧ wr = W) (fun _ _ => 0)
 case atStart => exact ⟨rfl, rfl⟩
 case round =>
  obtain ⟨rfl, rfl⟩ := hrel
  go_wp2_with (go_at_call 37; (with_reducible refine HDn.out.mono ?_); rintro x w9 ⟨a9, c9, rfl, hb9⟩)
  go_ret2
  exact ⟨⟨a9, c9, rfl⟩, HBW.out.trans (hb9.mono HBW.out.size)⟩
theorem Gt {m : Nat} {b : MB} (w : World) (h : MpIn w m b MS.empty) : Calls Tryz.prog 8 #[.pointer (some ⟨m, 0, none⟩)] w fun x w' => (∃ a c, x = .returned (.tuple #[.slice a 3 c, .int .i64 0])) ∧ Below w.heap.size w w' :=
 (Jm w h (SGood.empty.mono (Nat.zero_le _)) (by decide)).mono fun x w' h => by
  obtain ⟨a, c, rfl, _, h2⟩ := h
  exact ⟨⟨a, c, by rw [show (tC MS.empty).length = 3 by decide +kernel]⟩, h2⟩
theorem EE (w : World) : Calls Tryz.prog 5 #[] w fun x w' => x = .returned (.bool true) ∧ Below w.heap.size w w' := by
 have HN := Lib.hid (fun X => Dw X)
 have HV := Lib.hid (fun (m : Nat) (b : MB) (X : World) (h : MpIn X m b MS.empty) => Gs X h)
 have HF := Lib.hid (fun (m : Nat) (b : MB) (X : World) (h : MpIn X m b MS.empty) => Gt X h)
 have HM := Lib.hid (fun (X : World) => show Calls Tryz.prog 17 #[.int .i64 1, .int .i64 1] X fun v w' => v = .returned (.int .i64 1857) ∧ X = w' from JQ 1 1 X)
 go_enter Tryz.func5, Tryz.ntmps5
 go_upto_region 2 with (first
  | (go_at_call 16; (with_reducible refine (HN.out _).mono ?_); rintro x w1 ⟨m, b, rfl, hm, hb1, _, _⟩)
  | (go_at_call 13; (with_reducible refine (HV.out _ _ _ hm).mono ?_); rintro x w2 ⟨⟨a2, c2, rfl⟩, hb2⟩))
 clear hm
 have F7 := hb1.trans (hb2.mono hb1.size)
 go_upto_region 3 with (first
  | (go_at_call 16; (with_reducible refine (HN.out _).mono ?_); rintro x w3 ⟨m3, b3, rfl, hm3, hb3, _, _⟩)
  | (go_at_call 8; (with_reducible refine (HF.out _ _ _ hm3).mono ?_); rintro x w4 ⟨⟨a4, c4, rfl⟩, hb4⟩))
 have Pg := F7.trans (hb3.mono F7.size)
 go_wp2_with (go_at_call 17; (with_reducible refine (HM.out _).mono ?_); rintro v w5 ⟨rfl, rfl⟩)
 go_ret
 exact ⟨rfl, Pg.trans (hb4.mono Pg.size)⟩
end Go.Proofs.YtdlmbflhbecggaaGreat
