/- canon: Most, done, begin, Full. Conditions: as in the text. -/
import Derived.Test.YtpbobhfnglikmaaGreatMkB
import Derived.Test.YtpbobhfnglikmaaGreatStepP
import Derived.Test.YtpbobhfnglikmaaGreatIsB
set_option linter.unusedSimpArgs false
set_option linter.unusedVariables false
set_option linter.unnecessarySimpa false
set_option maxHeartbeats 16000000
set_option maxRecDepth 100000
namespace Go.Proofs.YtpbobhfnglikmaaGreat
open Go.RowKit
def clampI (n : Int) : Int := min (max n 0) 1048576
theorem clampI_range (n : Int) : 0 ≤ clampI n ∧ clampI n ≤ 1048576 := by unfold clampI; omega
theorem clamp9_any (n : Int) (w : World) : Calls Tryz.prog 107 #[.int .i64 n] w fun x w' => x = .returned (.int .i64 (clampI n)) ∧ w = w' := by
 have h1 := clampI_range n
 go_enter Tryz.func107, Tryz.ntmps107
 go_wp2
 go_ret
 exact ⟨ret_int (by unfold clampI; omega), rfl⟩
theorem most_any (x y : Int) (w : World) : Calls Tryz.prog 54 #[.int .i64 x, .int .i64 y] w fun v w' => v = .returned (.int .i64 (8 + 9 * clampI x + 1840 * clampI y)) ∧ w = w' := by
 have hx := clampI_range x
 have hy := clampI_range y
 have H := Lib.hid (fun (n : Int) (X : World) => clamp9_any n X)
 go_enter Tryz.func54, Tryz.ntmps54
 have h1 : IntKind.i64.wrap (9 * clampI x) = 9 * clampI x := IntWalk.i64_in _ (by omega)
 have h2 : IntKind.i64.wrap (8 + 9 * clampI x) = 8 + 9 * clampI x := IntWalk.i64_in _ (by omega)
 have h3 : IntKind.i64.wrap (1840 * clampI y) = 1840 * clampI y := IntWalk.i64_in _ (by omega)
 have h4 : IntKind.i64.wrap (8 + 9 * clampI x + 1840 * clampI y) = 8 + 9 * clampI x + 1840 * clampI y := IntWalk.i64_in _ (by omega)
 go_wp2_with (go_at_call 107; (with_reducible refine (H.out _ _).mono ?_); rintro v w1 ⟨rfl, rfl⟩)
 go_ret
 exact ⟨rfl, rfl⟩
theorem evB_shortC {e : Ev} (h : evOk e = true) : (evB e).length ≤ 8192 := by
 have hf := evOk_fit h
 have h64 := hf.over
 have d1 := dotB_len e.dot
 have d2 := stampB_len e.stamp
 have d3 := shortB_len10 e.over.length (by omega)
 have d4 := dotsB_len e.over
 obtain ⟨s1, s2, s3, s4⟩ := evOk_short h
 have t1 := textB_len (bl e.key.name) (by rw [bl_length]; omega)
 have t2 := textB_len (bl e.key.domain) (by rw [bl_length]; omega)
 have t3 := textB_len (bl e.key.path) (by rw [bl_length]; omega)
 have t4 := textB_len (bl e.ck.value) (by rw [bl_length]; omega)
 simp only [bl_length] at t1 t2 t3 t4
 unfold evB evHead evTail
 split
 ·rename_i h1
  obtain ⟨⟨f1, f2⟩, ⟨f3, f4⟩, f5, f6⟩ := hf.item h1
  have t5 := zigB_len e.ck.expiry (by omega) (by omega)
  have t6 := shortB_len10 e.ck.creation.toNat (by omega)
  have t7 := shortB_len10 e.ck.access.toNat (by omega)
  simp only [List.length_append, List.length_singleton]; omega
 ·simp only [List.length_append, List.length_singleton, List.length_nil]; omega
/-- what holds the events of a row in a world that a writer has gone on from -/
theorem Hold.evs9 {S : Nat → Prop} {w0 w : World} {B : Nat} {l : Bytes} (h : Hold S w0 B w l) {a : Option Addr} {ls : List EvIt} (hE : EvsIn w0 a ls) (oe : OldAt w0 S a (ls ≠ [])) (od : ∀ x ∈ ls, OldAt w0 S x.2.1 (x.1.over ≠ [])) : EvsIn w a ls := by
 refine ⟨hE.rows.imp id fun ⟨A, off, h1, h2⟩ => ⟨A, off, h1, fun i hi j v hv => ?_⟩, fun x hx => h.dots (hE.dots x hx) (od x hx)⟩
 have hne : ls ≠ [] := fun e => by rw [e] at hi; simp at hi
 obtain ⟨h3, h4⟩ := oe A off h1 hne
 exact (World.cell?_of_block (h.fr.block A h3 h4)).trans (h2 i hi j v hv)
theorem oldDots {w : World} {B : Nat} {x : Value} {t : TypeId} {f : Nat × Nat} {a : Option Addr} {l : List Dot} (hd : DotsIn w a l) (hB : w.heap[B]? = some (.cells #[x] t f)) : OldAt w (fun k => k = B) a (l ≠ []) := fun A off ha hne => by
 rcases hd with h0 | ⟨A', off', h1, h2⟩
 ·exact absurd h0 hne
 ·rw [ha] at h1
  simp only [Option.some.injEq, Addr.mk.injEq, and_true] at h1
  obtain ⟨rfl, rfl⟩ := h1
  have hl : 0 < l.length := List.length_pos_iff.2 hne
  have c := h2.inc 0 hl
  refine ⟨World.block_lt_of_cell? w _ c, fun e => ?_⟩
  subst e
  simp [World.cell?, hB] at c
theorem oldEvs {w : World} {B : Nat} {x : Value} {t : TypeId} {f : Nat × Nat} {a : Option Addr} {ls : List EvIt} (hE : EvsIn w a ls) (hB : w.heap[B]? = some (.cells #[x] t f)) : OldAt w (fun k => k = B) a (ls ≠ []) ∧ ∀ y ∈ ls, OldAt w (fun k => k = B) y.2.1 (y.1.over ≠ []) := by
 refine ⟨fun A off ha hne => ?_, fun y hy => oldDots (hE.dots y hy) hB⟩
 rcases hE.rows with h0 | ⟨A', off', h1, h2⟩
 ·exact absurd h0 hne
 ·rw [ha] at h1
  simp only [Option.some.injEq, Addr.mk.injEq, and_true] at h1
  obtain ⟨rfl, rfl⟩ := h1
  have hl : 0 < ls.length := List.length_pos_iff.2 hne
  have c : w.cell? ⟨A, off + 0 * 19 + 1, none⟩ = some (.int .i64 ls[0].1.dot.a.inc) := h2 0 hl 1 _ rfl
  refine ⟨World.block_lt_of_cell? w _ c, fun e => ?_⟩
  subst e
  simp [World.cell?, hB] at c
/-- behind what hands back bytes, and no error -/
def RetOkB (l : Bytes) (w : World) (e : Ending) (w' : World) : Prop := ∃ a c, e = .returned (.tuple #[.slice a l.length c, .int .i64 0]) ∧ BytesIn w' a l ∧ Below w.heap.size w w'
def fullB (s : MS) : Bytes := marksB s.ctx ++ shortB s.K.length ++ evsB (eventsOf s) ++ shortB (sortD s.dead).length ++ dotsB (sortD s.dead)
theorem done_any {S : Nat → Prop} {w0 : World} {B : Nat} {l : Bytes} (w : World) (h : Hold S w0 B w l) (hl : l.length ≤ 1048576) : Calls Tryz.prog 106 #[.pointer (some ⟨B, 0, none⟩)] w (RetOkB l w) := by
 have HB := Lib.hid (WBytes_h h (by omega))
 have hdl : decide ((1048576 : Int) < (l.length : Int)) = false := decide_eq_false (by omega)
 go_enter Tryz.func106, Tryz.ntmps106
 go_wp2_with (go_at_call 159; (with_reducible refine HB.out.mono ?_); rintro x w1 ⟨v, rfl, hown, hb1⟩; obtain ⟨a, c, rfl, hin⟩ := own_bytes hown)
 all_goals
  go_ret2
  exact ⟨a, c, rfl, hin, hb1⟩
/-- behind begin: a new writer, the marks and how many events -/
def RetBeg (s : MS) (n : Nat) (w : World) (e : Ending) (w' : World) : Prop := ∃ B W0 x t f, e = .returned (.tuple #[.pointer (some ⟨B, 0, none⟩), .int .i64 0]) ∧ w.heap.size ≤ B ∧ W0.heap[B]? = some (.cells #[x] t f) ∧ Below w.heap.size w W0 ∧ Hold (fun k => k = B) W0 B w' (marksB s.ctx ++ shortB n)
theorem begin_any {m : Nat} {b : MB} {s : MS} (a : Option Addr) (n cap : Nat) (w : World) (h : MpIn w m b s) (hi : MInv s) (hc : s.ctx.length ≤ 4096) (hn : n ≤ 1048576) : Calls Tryz.prog 102 #[.pointer (some ⟨m, 0, none⟩), .slice a n cap] w (RetBeg s n w) := by
 have HC := Lib.hid (fun (X : World) (h : MpIn X m b s) => callCtx X h hi hc)
 have hme := hi.marks hc
 go_enter Tryz.func102, Tryz.ntmps102
 go_upto_region 2 with fail
 refine wp_name (fun W1 hW1 => ?_)
 have hb1 : Below w.heap.size w W1 := by rw [hW1.out]; go_grown
 have hB1 : W1.heap[w.heap.size]? = some (.cells #[.slice none 0 0] 197 (0, 0)) := by rw [hW1.out]; exact heap_last0 _ _
 have h1 := h.kept_w hb1
 clear hW1 h
 obtain ⟨B, hB⟩ : ∃ B, B = w.heap.size := ⟨_, rfl⟩
 rw [← hB] at hB1 ⊢
 have hBw : w.heap.size ≤ B := by omega
 have HBB := Lib.hid hB
 clear hB
 go_upto_region 3 with (first
  | (go_at_call 32; (with_reducible refine (HC.out _ h1).mono ?_); rintro x w2 ⟨aC, cC, rfl, hd2, hb2⟩; have hB2 := (hb2.block _ (lt_of_block hB1)).trans hB1; have HH : Hold (fun k => k = B) w2 B w2 [] := Hold.start ⟨rfl, .slice none 0 0, 0, hB2, World.ownsRow_nil _ _ _ _, fun g hg => by cases hg⟩; have HV := vecPut_h HH aC cC s.ctx (Nat.zero_le _) hme hd2 (oldDots hd2 hB2))
  | (go_at_call 153; (with_reducible refine HV.mono ?_); rintro x w3 ⟨rfl, HH3⟩))
 rw [List.nil_append] at HH3
 have hml : (marksB s.ctx).length ≤ 268435456 := by
  have h4 := shortB_len10 s.ctx.length (by omega)
  have h5 := dotsB_len s.ctx
  unfold marksB
  rw [List.length_append]
  omega
 have HN := Lib.hid (Num_h HH3 n hml (by omega))
 have hwr : IntKind.u64.wrap (n : Int) = (n : Int) := IntWalk.u64_in _ (by omega)
 have HQ := Lib.hid (And.intro (below2 hb1 hb2) hB2)
 clear HV HH HH3 hd2 hb1 hb2 hB1 hB2 h1
 go_wp2_with (go_at_call 104; (with_reducible refine HN.out.mono ?_); rintro x w4 ⟨rfl, HH4⟩)
 go_ret2
 exact ⟨B, w2, _, _, _, rfl, hBw, HQ.out.2, HQ.out.1, HH4⟩
theorem cFull_any {m : Nat} {b : MB} {s : MS} (w : World) (h : MpIn w m b s) (hg : SGood s 60) (hk : s.K.length ≤ 60) : Calls Tryz.prog 53 #[.pointer (some ⟨m, 0, none⟩)] w (RetOkB (fullB s) w) := by
 have HEv := Lib.hid (mEvents_any w h hg.inv.len hg.inv.overs hg.inv.dots)
 have hcx := hg.ctx
 have hdd := hg.dead
 have HBg := Lib.hid (fun (X : World) (a : Option Addr) (n cap : Nat) (h : MpIn X m b s) (hn : n ≤ 1048576) => begin_any a n cap X h hg.inv (by omega) hn)
 have HDs := Lib.hid (fun (X : World) (h : MpIn X m b s) => mDeads_any X h (by omega) (fun d hd => dotOk_W (hg.inv.dead d hd)))
 have hme := hg.inv.marks (by omega)
 have hml : (marksB s.ctx).length ≤ 2000 := by
  have h4 := shortB_len10 s.ctx.length (by omega)
  have h5 := dotsB_len s.ctx
  unfold marksB
  rw [List.length_append]
  omega
 have hGG := Lib.hid hg
 have HM9 := Lib.hid h
 have hdl : (sortD s.dead).length ≤ 3840 := Nat.le_trans (sortD_length _) hdd
 go_enter Tryz.func53, Tryz.ntmps53
 go_upto_region 5 with (first
  | (go_at_call 38; (with_reducible refine HEv.out.mono ?_); rintro x w1 ⟨aE, ls, cE, rfl, hE, ⟨hev, _, _⟩, hb1⟩; have h1 := h.kept_w hb1; have HLL : Hid (ls.length = s.K.length) := (by rw [← evsOf_length, hev, eventsOf_len hGG.out.nd] : ls.length = s.K.length))
  | (go_at_call 102; (with_reducible refine (HBg.out _ _ _ _ h1 (by have := HLL.out; omega)).mono ?_); rintro x w2 ⟨B, W0, x0, t0, f0, rfl, hBw, hB0, hb2, HH⟩))
 have hbw0 : Below w.heap.size w W0 := hb1.trans (hb2.mono hb1.size)
 have hBz : w.heap.size ≤ B := Nat.le_trans hb1.size hBw
 have hE0 := hE.kept hb2
 obtain ⟨oe, od⟩ := oldEvs hE0 hB0
 have HO := Lib.hid (And.intro hE0 (And.intro oe od))
 have hok : ∀ x ∈ ls, evOk x.1 = true := fun x hx => by
  have h9 : x.1 ∈ eventsOf s := by rw [← hev]; exact List.mem_map_of_mem hx
  obtain ⟨z, hz, e⟩ := (eventsOf_mem hGG.out.nd).1 h9
  rw [← e]
  exact (hGG.out.inv.kept z hz).1
 have HOK := Lib.hid hok
 have hll2 : ls.length ≤ 60 := by have := HLL.out; omega
 obtain ⟨M, hM⟩ : ∃ M, M = marksB s.ctx ++ shortB ls.length := ⟨_, rfl⟩
 have hMl : M.length ≤ 3000 := by
  have h4 := shortB_len10 ls.length (by omega)
  rw [hM, List.length_append]
  omega
 have HF : Hid (fullB s = M ++ evsB (evsOf ls) ++ shortB (sortD s.dead).length ++ dotsB (sortD s.dead)) := by unfold Hid fullB; rw [hM, HLL.out, hev]
 rw [← hM] at HH
 have HHH := Lib.hid HH
 have hel : ∀ k, (evsB ((evsOf ls).take k)).length ≤ 60 * 8192 := fun k => by
  have h1 : ∀ l : List Ev, (∀ e ∈ l, evOk e = true) → (evsB l).length ≤ l.length * 8192 := by
   intro l
   induction l with
   | nil => exact fun _ => Nat.zero_le _
   | cons x l ih =>
     intro h
     have h2 := ih fun e he => h e (List.mem_cons_of_mem _ he)
     have h3 := evB_shortC (h x List.mem_cons_self)
     show (evB x ++ evsB l).length ≤ _
     rw [List.length_append, List.length_cons]
     omega
  have h2 := h1 ((evsOf ls).take k) fun e he => by
   obtain ⟨x, hx, rfl⟩ := List.mem_map.1 (List.mem_of_mem_take he)
   exact hok x hx
  rw [List.length_take, evsOf_length] at h2
  have : min k ls.length ≤ 60 := by omega
  exact Nat.le_trans h2 (Nat.mul_le_mul_right _ this)
 have HEL := Lib.hid hel
 clear h1 h hE hE0 hb1 hb2 hev hok hM HH oe od HLL hel HBg HEv hme hml
 go_wp2
 go_loopw [27] (fun i wr => ∃ k : Nat, i = .int .i64 k ∧ k ≤ ls.length ∧ Hold (fun k => k = B) W0 B wr (M ++ evsB ((evsOf ls).take k))) (fun i _ => ls.length - (intOf i).toNat)
 case atStart => exact ⟨0, rfl, Nat.zero_le _, by simpa [evsB] using HHH.out⟩
 case round =>
  obtain ⟨k, rfl, hk9, hH⟩ := hrel
  by_cases hlt : k < ls.length
  ·obtain ⟨A, off, rfl, hra, hda⟩ := (hH.evs9 HO.out.1 HO.out.2.1 HO.out.2.2).at hlt
   have r1 := hra k hlt
   have hdo := HO.out.1.dots _ (List.getElem_mem hlt)
   have hoo := HO.out.2.2 _ (List.getElem_mem hlt)
   have hoe := HOK.out _ (List.getElem_mem hlt)
   have HT : Hid (M ++ evsB ((evsOf ls).take (k + 1)) = (M ++ evsB ((evsOf ls).take k)) ++ evB ls[k].1) := by
        unfold Hid
        rw [List.take_add_one, List.getElem?_eq_getElem (by rw [evsOf_length]; exact hlt), evsOf_at hlt, Option.toList_some, evsB_snoc, List.append_assoc]
   have hlen : (M ++ evsB ((evsOf ls).take k)).length ≤ 1048576 := by have := HEL.out k; rw [List.length_append]; omega
   have HLT := Lib.hid hlt
   clear hra hda
   generalize ls[k] = x at *
   obtain ⟨e, ax, cx⟩ := x
   simp only [itEv] at r1
   simp only at hdo hoo hoe HT
   have hal := (Below.refl wr.heap.size wr).alloc (Nat.le_refl _) (.cells (evCells e ax cx).toArray 43)
   have hH2 := hH.below hal
   have HP := Lib.hid (eventPut_h hH2 e ax cx hlen hoe hdo hoo)
   have RX : (wr.alloc (.cells (evCells e ax cx).toArray 43)).rangeAt wr.heap.size 0 (evCells e ax cx) := evCells_box e ax cx wr _
   clear hH hH2 hdo hoo hoe hlen hal
   go_wp2_with (first
        | ((with_reducible refine wpList_load_evo _ A (off + k * 19) e ax cx r1 ?_ rfl ?_); exact rfl)
        | (refine wpList_store_new 43 _ _ _ (evCells e ax cx).toArray rfl rfl (by kernel_rfl) rfl (by kernel_rfl) ?_)
        | ((with_reducible refine wpList_load_evo _ wr.heap.size 0 e ax cx RX ?_ rfl ?_); exact rfl)
        | (go_at_call 103; (with_reducible refine HP.out.mono ?_); rintro v w3 ⟨rfl, H3⟩))
   have HZ := Lib.hid H3
   clear H3 r1 RX
   go_roundw
   case rel => exact ⟨k + 1, by go_num, HLT.out, by rw [HT.out]; exact HZ.out⟩
   case measure => have := HLT.out; simp [intOf] <;> omega
  ·obtain rfl : k = ls.length := by omega
   have hTe : (evsOf ls).take ls.length = evsOf ls := List.take_of_length_le (by rw [evsOf_length]; exact Nat.le_refl _)
   have hEl := HEL.out ls.length
   rw [hTe] at hH hEl
   have hbr : Below w.heap.size w wr := hbw0.trans (hH.fr.below hbw0.size (fun k hk => by rw [show k = B from hk]; exact hBz))
   have HDr := Lib.hid (HDs.out wr (HM9.out.kept_w hbr))
   obtain ⟨M2, hM2⟩ : ∃ M2, M2 = M ++ evsB (evsOf ls) := ⟨_, rfl⟩
   have hM2l : M2.length ≤ 700000 := by rw [hM2, List.length_append]; omega
   rw [← hM2] at hH HF
   have HBR := Lib.hid hbr
   clear hM2 hbr hEl hTe hk9
   generalize sortD s.dead = ds at *
   go_upto_region 13 with (go_at_call 39; go_loud ((with_reducible refine HDr.out.mono ?_); rintro x w5 ⟨xv, rfl, hown, _, hb5⟩; obtain ⟨aD, cD, rfl, hinD⟩ := own_dots hown))
   have hH5 : Hold (tight (grow (fun k => k = B) W0) wr) w5 B w5 M2 := Hold.start (hH.wr.tight.frame (S := tight (grow (fun k => k = B) W0) wr) (T := fun _ => False) (Fr.of_below hb5) (fun _ _ g => g))
   have hN5 := Num_h hH5 ds.length (by omega) (by omega)
   have hwr : IntKind.u64.wrap (ds.length : Int) = (ds.length : Int) := IntWalk.u64_in _ (by omega)
   have hold : OldAt w5 (tight (grow (fun k => k = B) W0) wr) aD (ds ≠ []) := fun A9 off9 ha hne => by
        rcases hown.2 with ⟨h0, h1⟩ | ⟨g, cap, cur, h0, h1, h2, _⟩
        ·exact absurd (List.length_eq_zero_iff.1 h1) hne
        ·rw [ha] at h0
         simp only [Value.slice.injEq, Option.some.injEq, Addr.mk.injEq] at h0
         obtain ⟨⟨rfl, _⟩, _⟩ := h0
         exact ⟨lt_of_block h2, fun hs => by have := hs.2; omega⟩
   have HN5 := Lib.hid hN5
   have HD5 := Lib.hid (And.intro hinD hold)
   have HB5 : Hid (Below w.heap.size w w5 ∧ ∀ k, tight (grow (fun k => k = B) W0) wr k → w.heap.size ≤ k) := ⟨HBR.out.trans (hb5.mono HBR.out.size), fun k hk => by
        rcases hk.1 with h1 | h1
        ·rw [show k = B from h1]; exact hBz
        ·exact Nat.le_trans hbw0.size h1⟩
   clear hown hb5 hH hN5 hold hinD hH5 HDr
   generalize tight (grow (fun k => k = B) W0) wr = S3 at *
   go_upto_region 14 with (go_at_call 104; (with_reducible refine HN5.out.mono ?_); rintro x w6 ⟨rfl, hH6⟩)
   obtain ⟨M3, hM3⟩ : ∃ M3, M3 = M2 ++ shortB ds.length := ⟨_, rfl⟩
   have hM3l : M3.length ≤ 800000 := by have := shortB_len10 ds.length (by omega); rw [hM3, List.length_append]; omega
   rw [← hM3] at hH6 HF
   have HH6 := Lib.hid hH6
   clear hM3 hH6 HN5 hwr
   go_wp2
   go_loopw [44] (fun i wr => ∃ j : Nat, i = .int .i64 j ∧ j ≤ ds.length ∧ Hold S3 w5 B wr (M3 ++ dotsB (ds.take j))) (fun i _ => ds.length - (intOf i).toNat)
   case atStart => exact ⟨0, rfl, Nat.zero_le _, by simpa [dotsB] using HH6.out⟩
   case round =>
        obtain ⟨j, rfl, hj, hH⟩ := hrel
        by_cases hlt : j < ds.length
        ·obtain ⟨A, off, rfl, c0, c1, c2⟩ := (hH.dots HD5.out.1 HD5.out.2).at hlt
         have HT : Hid (M3 ++ dotsB (ds.take (j + 1)) = (M3 ++ dotsB (ds.take j)) ++ dotB ds[j]) := by
          unfold Hid
          rw [List.take_add_one, List.getElem?_eq_getElem hlt, Option.toList_some, dotsB_snoc, List.append_assoc]
         have hlen : (M3 ++ dotsB (ds.take j)).length ≤ 268435456 := by
          have h1 := dotsB_len (ds.take j)
          rw [List.length_take] at h1
          rw [List.length_append]
          omega
         have HLT := Lib.hid hlt
         generalize ds[j] = d at *
         clear hlt
         go_upto_region 17 with fail
         refine wp_name (fun Wx hWx => ?_)
         have hbx : Below wr.heap.size wr Wx := by rw [hWx.out]; go_grown
         have v0 : Wx.cell? ⟨wr.heap.size, 0, none⟩ = some (.int .i64 d.a.dev) := by rw [hWx.out]; go_simp
         have v1 : Wx.cell? ⟨wr.heap.size, 1, none⟩ = some (.int .i64 d.a.inc) := by rw [hWx.out]; go_simp
         have v2 : Wx.cell? ⟨wr.heap.size, 2, none⟩ = some (.int .i64 d.seq) := by rw [hWx.out]; go_simp
         have HP := Lib.hid (dotPut_h (hH.below hbx) d hlen)
         clear hWx c0 c1 c2 hH hbx hlen
         go_wp2_with (go_at_call 105; (with_reducible refine HP.out.mono ?_); rintro v w8 ⟨rfl, hH8⟩)
         have HZ := Lib.hid hH8
         clear hH8 v0 v1 v2
         go_roundw
         case rel => exact ⟨j + 1, by go_num, HLT.out, by rw [HT.out]; exact HZ.out⟩
         case measure => have := HLT.out; simp [intOf] <;> omega
        ·obtain rfl : j = ds.length := by omega
         rw [List.take_length] at hH
         have hfl : (M3 ++ dotsB ds).length ≤ 1048576 := by
          have h1 := dotsB_len ds
          rw [List.length_append]
          omega
         obtain ⟨L9, hL9⟩ : ∃ L9, L9 = M3 ++ dotsB ds := ⟨_, rfl⟩
         rw [← hL9] at hH hfl HF
         have HDn := Lib.hid (done_any wr hH hfl)
         have hbF := HB5.out.1.trans (hH.fr.below HB5.out.1.size HB5.out.2)
         clear hH hj hL9
         go_wp2_with (go_at_call 106; (with_reducible refine HDn.out.mono ?_); rintro x w9 ⟨a9, c9, rfl, hin9, hb9⟩)
         go_ret2
         rw [HF.out]
         exact ⟨a9, c9, rfl, hin9, hbF.trans (hb9.mono hbF.size)⟩
end Go.Proofs.YtpbobhfnglikmaaGreat
