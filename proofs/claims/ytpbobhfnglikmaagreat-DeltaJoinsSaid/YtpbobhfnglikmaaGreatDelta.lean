/- Deltas: both, Needs, Behind. Conditions: as in the text. -/
import Derived.Test.YtpbobhfnglikmaaGreatVecD
import Derived.OwnWalk
import Derived.Test.YtpbobhfnglikmaaGreatOrmH
set_option linter.unusedSimpArgs false
set_option linter.unusedVariables false
set_option linter.unnecessarySimpa false
set_option maxHeartbeats 16000000
set_option maxRecDepth 100000
namespace Go.Proofs.YtpbobhfnglikmaaGreat
open Go.RowKit
theorem MInv.marks {s : MS} (h : MInv s) (hl : s.ctx.length ≤ 4096) : marksErr s.ctx = 0 := by
 have key : ∀ (l : List Dot) (p : Option Dot), SrtM l → (∀ d ∈ l, dotOk d = true) → (∀ y, p = some y → ∀ d ∈ l, actorLt y.a d.a = true) → marksFrom p l = 0 := by
  intro l
  induction l with
  | nil => intro p _ _ _; rfl
  | cons x r ih =>
    intro p h1 h2 h3
    obtain ⟨h4, h5⟩ := List.pairwise_cons.1 h1
    unfold marksFrom
    rw [if_pos (h2 x List.mem_cons_self), if_pos]
    ·exact ih _ h5 (fun d hd => h2 d (List.mem_cons_of_mem _ hd)) (fun y hy d hd => by cases hy; exact h4 d hd)
    ·cases p with
     | none => rfl
     | some y => exact h3 y rfl x List.mem_cons_self
 unfold marksErr
 rw [if_neg (by omega)]
 exact key _ _ h.ctx h.ctxOk (fun y hy => (nomatch hy))
/-- both: of a map's own context and of marks -/
def RetBoth (c l : List Dot) (w : World) (e : Ending) (w' : World) : Prop :=
 ∃ v b p, e = .returned (.tuple #[.pointer (some ⟨v, 0, none⟩), .pointer p, .bool (decide (marksErr l = 0))]) ∧ VecIn w' v b c ∧ (marksErr l = 0 → ∃ u d, p = some ⟨u, 0, none⟩ ∧ VecIn w' u d l) ∧ Below w.heap.size w w'
theorem both_any {m : Nat} {b : MB} {s : MS} (a : Option Addr) (cap : Nat) (l : List Dot) (w : World) (h : MpIn w m b s) (hi : MInv s) (hc : s.ctx.length ≤ 4096) (hl : l.length ≤ 1073741824) (hd : DotsIn w a l) :
 Calls Tryz.prog 152 #[.pointer (some ⟨m, 0, none⟩), .slice a l.length cap] w (RetBoth s.ctx l w) := by
 by_cases hm : marksErr l = 0
 ·have HC := Lib.hid (mContext_any w h hi.ctx (by omega))
  have HO := Lib.hid (fun (X : World) (a : Option Addr) (cap : Nat) (hd : DotsIn X a s.ctx) => vOf_yes a cap s.ctx X hd (hi.marks hc))
  have HE : Hid (RetBoth s.ctx l w = fun e w' => ∃ v b u d, e = .returned (.tuple #[.pointer (some ⟨v, 0, none⟩), .pointer (some ⟨u, 0, none⟩), .bool true]) ∧ VecIn w' v b s.ctx ∧ VecIn w' u d l ∧ Below w.heap.size w w') := by
   unfold Hid RetBoth
   funext e w'
   rw [decide_eq_true hm]
   apply propext
   constructor
   ·rintro ⟨v, b, p, h1, h2, h3, h4⟩
    obtain ⟨u, d, rfl, h5⟩ := h3 hm
    exact ⟨v, b, u, d, h1, h2, h5, h4⟩
   ·rintro ⟨v, b, u, d, h1, h2, h3, h4⟩
    exact ⟨v, b, _, h1, h2, fun _ => ⟨u, d, rfl, h3⟩, h4⟩
  rw [HE.out]
  have HL := Lib.hid (fun (X : World) (hd : DotsIn X a l) => vOf_yes a cap l X hd hm)
  clear hm HE
  go_enter Tryz.func152, Tryz.ntmps152
  go_upto_region 2 with (first
   | (go_at_call 32; (with_reducible refine HC.out.mono ?_); rintro x w1 ⟨x1, rfl, hown, hb1⟩; obtain ⟨aC, cC, rfl, hdc⟩ := own_marks hown)
   | (go_at_call 97; (with_reducible refine (HO.out _ _ _ hdc).mono ?_); rintro x w2 ⟨v, vb, rfl, hv, hb2, _, _⟩))
  have hbt : Below w.heap.size w w2 := hb1.trans (hb2.mono hb1.size)
  have hd2 := hd.kept hbt
  clear hown hdc hb1 hb2 HC HO h hd
  go_wp2_with (go_at_call 97; (with_reducible refine (HL.out _ hd2).mono ?_); rintro x w3 ⟨u, ub, rfl, hu, hb3, _, _⟩)
  go_ret3
  exact ⟨v, vb, u, ub, rfl, hv.kept hb3, hu, hbt.trans (hb3.mono hbt.size)⟩
 ·have HC := Lib.hid (mContext_any w h hi.ctx (by omega))
  have HO := Lib.hid (fun (X : World) (a : Option Addr) (cap : Nat) (hd : DotsIn X a s.ctx) => vOf_yes a cap s.ctx X hd (hi.marks hc))
  have HE : Hid (RetBoth s.ctx l w = fun e w' => ∃ v b p, e = .returned (.tuple #[.pointer (some ⟨v, 0, none⟩), .pointer p, .bool false]) ∧ VecIn w' v b s.ctx ∧ Below w.heap.size w w') := by
   unfold Hid RetBoth
   funext e w'
   rw [decide_eq_false hm]
   apply propext
   constructor
   ·rintro ⟨v, b, p, h1, h2, h3, h4⟩
    exact ⟨v, b, p, h1, h2, h4⟩
   ·rintro ⟨v, b, p, h1, h2, h4⟩
    exact ⟨v, b, p, h1, h2, fun h => absurd h hm, h4⟩
  rw [HE.out]
  have HL := Lib.hid (fun (X : World) (hd : DotsIn X a l) => vOf_no a cap l X hl hd hm)
  have hne : (marksErr l == 0) = false := beq_eq_false_iff_ne.2 hm
  generalize marksErr l = r at *
  clear hm HE
  go_enter Tryz.func152, Tryz.ntmps152
  go_upto_region 2 with (first
   | (go_at_call 32; (with_reducible refine HC.out.mono ?_); rintro x w1 ⟨x1, rfl, hown, hb1⟩; obtain ⟨aC, cC, rfl, hdc⟩ := own_marks hown)
   | (go_at_call 97; (with_reducible refine (HO.out _ _ _ hdc).mono ?_); rintro x w2 ⟨v, vb, rfl, hv, hb2, _, _⟩))
  have hbt : Below w.heap.size w w2 := hb1.trans (hb2.mono hb1.size)
  have hd2 := hd.kept hbt
  clear hown hdc hb1 hb2 HC HO h hd
  go_wp2_with (go_at_call 97; (with_reducible refine (HL.out _ hd2).mono ?_); rintro x w3 ⟨rfl, hb3⟩)
  go_ret3
  exact ⟨v, vb, none, rfl, hv.kept hb3, hbt.trans (hb3.mono hbt.size)⟩
theorem dNeeds_any {m : Nat} {b : MB} {s : MS} (a : Option Addr) (cap : Nat) (l : List Dot) (w : World) (h : MpIn w m b s) (hi : MInv s) (hc : s.ctx.length ≤ 4096) (hl : l.length ≤ 1073741824) (hd : DotsIn w a l) :
 Calls Tryz.prog 98 #[.pointer (some ⟨m, 0, none⟩), .slice a l.length cap] w fun e w' => e = .returned (.bool (decide (marksErr l = 0) && !coversM l s.ctx)) ∧ Below w.heap.size w w' := by
 have HB0 := both_any a cap l w h hi hc hl hd
 unfold RetBoth at HB0
 by_cases hm : marksErr l = 0
 ·rw [decide_eq_true hm] at HB0 ⊢
  obtain ⟨_, hok, hsr⟩ := marksErr_ok hm
  have HB := Lib.hid HB0
  have HV := Lib.hid (fun (X : World) (v vb u ub : Nat) (hv : VecIn X v vb s.ctx) (hu : VecIn X u ub l) => vCovers_any X hu hv hi.ctx (by omega) hi.ctxOk)
  have HM := Lib.hid hm
  rw [Bool.true_and]
  clear HB0 hm hok hsr hi hd h
  go_enter Tryz.func98, Tryz.ntmps98
  go_wp2_with (first
   | (go_at_call 152; (with_reducible refine HB.out.mono ?_); rintro x w1 ⟨v, vb, p, rfl, hv, hu0, hb1⟩; obtain ⟨u, ub, rfl, hu⟩ := hu0 HM.out)
   | (go_at_call 144; (with_reducible refine (HV.out _ _ _ _ _ hv hu).mono ?_); rintro x w2 ⟨rfl, hb2⟩))
  go_ret
  exact ⟨rfl, hb1.trans (hb2.mono hb1.size)⟩
 ·rw [decide_eq_false hm] at HB0 ⊢
  have HB := Lib.hid HB0
  rw [Bool.false_and]
  clear HB0 hm hi hd h
  go_enter Tryz.func98, Tryz.ntmps98
  go_wp2_with (go_at_call 152; (with_reducible refine HB.out.mono ?_); rintro x w1 ⟨v, vb, p, rfl, hv, hu0, hb1⟩)
  go_ret
  exact ⟨rfl, hb1⟩
theorem dBehind_any {m : Nat} {b : MB} {s : MS} (a : Option Addr) (cap : Nat) (l : List Dot) (w : World) (h : MpIn w m b s) (hi : MInv s) (hc : s.ctx.length ≤ 4096) (hl : l.length ≤ 1073741824) (hd : DotsIn w a l) :
 Calls Tryz.prog 99 #[.pointer (some ⟨m, 0, none⟩), .slice a l.length cap] w fun e w' => e = .returned (.bool (decide (marksErr l = 0) && !coversM s.ctx l)) ∧ Below w.heap.size w w' := by
 have HB0 := both_any a cap l w h hi hc hl hd
 unfold RetBoth at HB0
 by_cases hm : marksErr l = 0
 ·rw [decide_eq_true hm] at HB0 ⊢
  obtain ⟨_, hok, hsr⟩ := marksErr_ok hm
  have HB := Lib.hid HB0
  have HV := Lib.hid (fun (X : World) (v vb u ub : Nat) (hv : VecIn X v vb s.ctx) (hu : VecIn X u ub l) => vCovers_any X hv hu hsr hl hok)
  have HM := Lib.hid hm
  rw [Bool.true_and]
  clear HB0 hm hok hsr hi hd h
  go_enter Tryz.func99, Tryz.ntmps99
  go_wp2_with (first
   | (go_at_call 152; (with_reducible refine HB.out.mono ?_); rintro x w1 ⟨v, vb, p, rfl, hv, hu0, hb1⟩; obtain ⟨u, ub, rfl, hu⟩ := hu0 HM.out)
   | (go_at_call 144; (with_reducible refine (HV.out _ _ _ _ _ hv hu).mono ?_); rintro x w2 ⟨rfl, hb2⟩))
  go_ret
  exact ⟨rfl, hb1.trans (hb2.mono hb1.size)⟩
 ·rw [decide_eq_false hm] at HB0 ⊢
  have HB := Lib.hid HB0
  rw [Bool.false_and]
  clear HB0 hm hi hd h
  go_enter Tryz.func99, Tryz.ntmps99
  go_wp2_with (go_at_call 152; (with_reducible refine HB.out.mono ?_); rintro x w1 ⟨v, vb, p, rfl, hv, hu0, hb1⟩)
  go_ret
  exact ⟨rfl, hb1⟩
/-! ### a nil map -/
/-- what lies beyond marks, at most so many -/
def ofFrom (mk : List Dot) (most : Int) : List Ev → List Ev → List Ev
 | out, [] => out
 | out, x :: r => if (out.length : Int) = most then out else ofFrom mk most (if hasM mk x.dot = true then out else out ++ [x]) r
theorem own_sl {w : World} {base : Nat} {e : TypeId} {size : Nat} {v : Value} {n : Nat} {xs : List Value} (h : w.ownsRow base e size v n xs) : ∃ a c, v = .slice a n c := by
 rcases h.2 with ⟨rfl, rfl⟩ | ⟨g, cap, cur, rfl, _⟩
 ·exact ⟨none, 0, rfl⟩
 ·exact ⟨_, cap, rfl⟩
theorem MInv.overs {s : MS} (h : MInv s) : ∀ x ∈ s.K, x.1.over.length ≤ 64 := fun x hx => (evOk_parts (h.kept x hx).1).2.2.1
theorem MInv.dots {s : MS} (h : MInv s) : ∀ x ∈ s.K, DotW x.1.dot := fun x hx => dotOk_W (evOk_parts (h.kept x hx).1).1
def RetOf (L : List Ev) (w : World) (e : Ending) (w' : World) : Prop :=
 ∃ a ls cap, e = .returned (.tuple #[.slice a ls.length cap, .int .i64 0]) ∧ EvsIn w' a ls ∧ evsOf ls = L ∧ Below w.heap.size w w'
theorem dOf_any {m : Nat} {b : MB} {s : MS} (a : Option Addr) (cap : Nat) (l : List Dot) (most : Int) (w : World) (h : MpIn w m b s) (hi : MInv s) (hd : DotsIn w a l) (hok : marksErr l = 0) :
 Calls Tryz.prog 48 #[.pointer (some ⟨m, 0, none⟩), .slice a l.length cap, .int .i64 most] w (RetOf (ofFrom l most [] (eventsOf s)) w) := by
 obtain ⟨i0, hiE, hz0, hz1, hz2⟩ := info_parts Tryz.infoEv
 have HO := Lib.hid (vOf_yes a cap l w hd hok)
 have HE := Lib.hid (fun (X : World) (h : MpIn X m b s) => mEvents_any X h hi.len hi.overs hi.dots)
 have HI := Lib.hid hi
 clear hok hi hd
 go_enter Tryz.func48, Tryz.ntmps48
 go_wp2_with (first
  | (go_at_call 97; (with_reducible refine HO.out.mono ?_); rintro e w1 ⟨v, vb, rfl, hv, hb1, _, _⟩; have h1 := h.kept_w hb1)
  | (go_at_call 38; (with_reducible refine (HE.out _ h1).mono ?_); rintro e w2 ⟨aE, ls, cE, rfl, hE, ⟨hev, _⟩, hb2⟩))
 have hv2 := hv.kept hb2
 have HB := Lib.hid (hb1.trans (hb2.mono hb1.size))
 have hlen : ls.length ≤ 2048 := by
  have e1 := congrArg List.length hev
  rw [evsOf_length] at e1
  unfold eventsOf at e1
  rw [List.length_map] at e1
  have e2 := sortD_length (s.K.map (·.1.dot))
  rw [List.length_map] at e2
  have e3 := HI.out.len
  omega
 have HEV := Lib.hid hev
 clear h1 h hv HO HE hb1 hb2 hev
 go_loopw [26, 10] (fun i u wr => ∃ (k : Nat) (os : List EvIt), i = .int .i64 k ∧ k ≤ ls.length ∧ wr.ownsRow w2.heap.size 43 19 u os.length (evItCells os) ∧ (∀ x ∈ os, DotsIn w2 x.2.1 x.1.over) ∧ os.length ≤ k ∧ ofFrom l most [] (evsOf ls) = ofFrom l most (evsOf os) ((evsOf ls).drop k) ∧ Below w2.heap.size w2 wr) (fun i _ _ => ls.length - (intOf i).toNat)
 case atStart => exact ⟨0, [], rfl, Nat.zero_le _, World.ownsRow_nil _ _ _ _, fun x hx => (nomatch hx), Nat.zero_le _, rfl, Below.refl _ _⟩
 case round =>
  obtain ⟨k, os, rfl, hk, hown, hdo, hok2, hP, hbr⟩ := hrel
  obtain ⟨aO, cO, rfl⟩ := own_sl hown
  have HP := Lib.hid hP
  clear hP
  have hzr := hbr.size
  by_cases hlt : k < ls.length
  ·obtain ⟨A, off, rfl, hra, _⟩ := (hE.kept hbr).at hlt
   have hda := hE.dots _ (List.getElem_mem hlt)
   have r1 := hra k hlt
   have hvr := hv2.kept hbr
   have HS : Hid (ofFrom l most (evsOf os) ((evsOf ls).drop k) = if (os.length : Int) = most then evsOf os else ofFrom l most (if hasM l ls[k].1.dot = true then evsOf os else evsOf os ++ [ls[k].1]) ((evsOf ls).drop (k + 1))) := by
        unfold Hid
        rw [List.drop_eq_getElem_cons (by rw [evsOf_length]; exact hlt), evsOf_at hlt]
        show (if ((evsOf os).length : Int) = most then _ else _) = _
        rw [evsOf_length]
   have HLT := Lib.hid hlt
   have HOK := Lib.hid hok2
   have hkl : k ≤ 2048 := by omega
   generalize ls[k] = x at *
   obtain ⟨e, ax, cx⟩ := x
   simp only [itEv] at r1
   simp only at hda HS
   clear hra hlt
   go_upto_region 10 with (first
        | ((with_reducible refine wpList_load_evo _ A (off + k * 19) e ax cx r1 ?_ rfl ?_); exact rfl)
        | (refine wpList_store_new 43 _ _ _ (evCells e ax cx).toArray rfl rfl (by kernel_rfl) rfl (by kernel_rfl) ?_))
   refine wp_name (fun W1 hW1 => ?_)
   have hb1 : Below wr.heap.size wr W1 := by rw [hW1.out]; exact (Below.refl _ _).alloc (Nat.le_refl _) _
   have R1 : W1.rangeAt wr.heap.size 0 (evCells e ax cx) := by rw [hW1.out]; exact evCells_box e ax cx wr _
   have hown1 := ownsRow_below hown hb1
   have hv1 := hvr.kept hb1
   have hbT : Below w2.heap.size w2 W1 := hbr.trans (hb1.mono hzr)
   have HDO := Lib.hid (And.intro hdo hda)
   clear hW1 r1 hown hvr hb1 hdo hda
   by_cases hmost : (os.length : Int) = most
   ·have hbm : ((os.length : Int) == most) = true := beq_iff_eq.2 hmost
    rw [if_pos hmost] at HS
    clear hmost
    obtain ⟨aF, cF, hF0, hF⟩ := evsIn_own hown1 (fun x hx => (HDO.out.1 x hx).kept hbT)
    obtain ⟨rfl, rfl⟩ : aO = aF ∧ cO = cF := by cases hF0; exact ⟨rfl, rfl⟩
    go_wp2
    go_ret2
    exact ⟨aO, os, cO, rfl, hF, by rw [← HEV.out, HP.out, HS.out], HB.out.trans (hbT.mono HB.out.size)⟩
   ·have hbm : ((os.length : Int) == most) = false := beq_eq_false_iff_ne.2 hmost
    rw [if_neg hmost] at HS
    clear hmost
    have HH0 := fun (X : World) (h : VecIn X v vb l) => vHas_any e.dot X h
    have q0 := R1 0 _ rfl
    have q1 := R1 1 _ rfl
    have q2 := R1 2 _ rfl
    simp only [Nat.zero_add] at q0 q1 q2
    cases hh : hasM l e.dot with
    | true =>
      rw [hh] at HH0 HS
      have HH := Lib.hid HH0
      rw [if_pos rfl] at HS
      clear HH0 hh
      go_wp2_with (go_at_call 74; (with_reducible refine (HH.out _ hv1).mono ?_); rintro x w5 ⟨rfl, hb5⟩)
      have HZ := Lib.hid (And.intro (ownsRow_below hown1 hb5) (hbT.trans (hb5.mono hbT.size)))
      go_roundw
      case rel => exact ⟨k + 1, os, by go_num, HLT.out, HZ.out.1, HDO.out.1, Nat.le_succ_of_le HOK.out, by rw [HP.out, HS.out], HZ.out.2⟩
      case measure => have := HLT.out; simp [intOf] <;> omega
    | false =>
      rw [hh] at HH0 HS
      have HH := Lib.hid HH0
      rw [if_neg (by decide)] at HS
      clear HH0 hh
      have hLn : os.length ≤ 1073741824 := by have := HOK.out; omega
      go_upto_region 12 with (go_at_call 74; (with_reducible refine (HH.out _ hv1).mono ?_); rintro x w5 ⟨rfl, hb5⟩)
      have R5 := rangeAt_kept R1 hb5
      have hown5 := ownsRow_below hown1 hb5
      have hbT5 : Below w2.heap.size w2 w5 := hbT.trans (hb5.mono hbT.size)
      have hz5 := hbT5.size
      clear R1 hown1 hv1 hbT hb5 q0 q1 q2 HH
      go_wp2_with (first
       | ((with_reducible refine wpList_load_evo _ wr.heap.size 0 e ax cx R5 ?_ rfl ?_); exact rfl)
       | (refine wpList_buildOne rfl 28 43 _ rfl (evCells e ax cx).toArray 19 rfl rfl (by decide) (by decide) Tryz.underlying28 (by kernel_rfl) (by kernel_rfl) ?_)
       | (at_builtin; go_loud (refine wpList_append_own_at _ rfl _ _ 28 rfl w2.heap.size 43 i0 (.agg (evCells ev0 none 0).toArray) 19 176 Tryz.underlying28 hiE hz0 hz1 hz2 rfl (by decide) _ _ _ rfl (hown5.alloc _) ⟨w5.heap.size, 0, none⟩ 1 1 (evCells e ax cx) rfl rfl (evs_new w5 e ax cx _) (evCells_one _ _ _) (by unfold maxLen; omega) (by omega) (by simp; omega) ?_)))
      intro v' wf hownf hgrow _ hat
      have hal : Below w5.heap.size w5 (w5.alloc (Obj.cells (evCells e ax cx).toArray 43)) := (Below.refl _ _).alloc (Nat.le_refl _) _
      have hbF : Below w2.heap.size w2 wf := (hbT5.trans (hal.mono hz5)).grown hgrow (by have := hal.size; omega) (fun j hj => (hown5.lt j hj).1)
      have HZ : Hid (wf.ownsRow w2.heap.size 43 19 v' (os ++ [(e, ax, cx)]).length (evItCells (os ++ [(e, ax, cx)])) ∧ (∀ x ∈ os ++ [(e, ax, cx)], DotsIn w2 x.2.1 x.1.over) ∧ (os ++ [(e, ax, cx)]).length ≤ k + 1 ∧ evsOf (os ++ [(e, ax, cx)]) = evsOf os ++ [e] ∧ Below w2.heap.size w2 wf) := by
       refine ⟨by rw [evItCells_snoc, List.length_append]; exact hownf, fun x hx => ?_, by have := HOK.out; simp; exact this, by simp [evsOf], hbF⟩
       rcases List.mem_append.1 hx with hx | hx
       ·exact HDO.out.1 x hx
       ·simp only [List.mem_singleton] at hx
        subst hx
        exact HDO.out.2
      clear hownf hgrow hat hal hbF hown5 R5
      go_wp2
      go_roundw
      case rel => exact ⟨k + 1, os ++ [(e, ax, cx)], by go_num, HLT.out, HZ.out.1, HZ.out.2.1, HZ.out.2.2.1, by rw [HZ.out.2.2.2.1, HP.out, HS.out], HZ.out.2.2.2.2⟩
      case measure => have := HLT.out; simp [intOf] <;> omega
  ·obtain rfl : k = ls.length := by omega
   obtain ⟨aF, cF, hF0, hF⟩ := evsIn_own hown (fun x hx => (hdo x hx).kept hbr)
   obtain ⟨rfl, rfl⟩ : aO = aF ∧ cO = cF := by cases hF0; exact ⟨rfl, rfl⟩
   have hE2 : ofFrom l most [] (evsOf ls) = evsOf os := by rw [HP.out, List.drop_eq_nil_of_le (by rw [evsOf_length]; exact Nat.le_refl _)]; cases evsOf os <;> rfl
   have HE2 := Lib.hid hE2
   clear hE2
   go_wp2
   go_ret2
   exact ⟨aO, os, cO, rfl, hF, by rw [← HEV.out]; exact HE2.out.symm, HB.out.trans (hbr.mono HB.out.size)⟩
theorem one_set {w : World} {R : Nat} {x : Value} {t : TypeId} {f : Nat × Nat} (h : w.heap[R]? = some (.cells #[x] t f)) (v : Value) : (w.setCell ⟨R, 0, none⟩ v).heap[R]? = some (.cells #[v] t f) := by
 simp [World.setCell, Array.getElem?_modify, h]
theorem DotsIn.setOne {w : World} {Y : Nat} {x : Value} {t : TypeId} {f : Nat × Nat} {a : Option Addr} {l : List Dot} (h : DotsIn w a l) (hY : w.heap[Y]? = some (.cells #[x] t f)) (v : Value) : DotsIn (w.setCell ⟨Y, 0, none⟩ v) a l := by
 rcases h with h | ⟨A, off, h1, h2⟩
 ·exact Or.inl h
 ·by_cases hA : A = Y
  ·subst hA
   refine Or.inl ?_
   cases l with
   | nil => rfl
   | cons d l =>
     have h3 := h2.inc 0 (by simp)
     simp [World.cell?, hY] at h3
  ·have hk : ∀ o u, w.cell? ⟨A, o, none⟩ = some u → (w.setCell ⟨Y, 0, none⟩ v).cell? ⟨A, o, none⟩ = some u := fun o u hu => by
        rw [World.cell?_setCell_other _ _ _ _ (fun e => hA (by cases e; rfl))]
        exact hu
   exact Or.inr ⟨A, off, h1, ⟨fun i hi => hk _ _ (h2.dev i hi), fun i hi => hk _ _ (h2.inc i hi), fun i hi => hk _ _ (h2.seq i hi)⟩⟩
theorem MpIn.setOne {w : World} {m Y : Nat} {b : MB} {s : MS} {x : Value} {t : TypeId} (h : MpIn w m b s) (hY : w.heap[Y]? = Option.some (.cells #[x] t (0, 0))) (ht : t ≠ 170) (v : Value) : MpIn (w.setCell ⟨Y, 0, none⟩ v) m b s := by
 have hm : m ≠ Y := fun e => by
  have := h.cell
  rw [e, hY] at this
  simp at this
 have hv : b.v ≠ Y := fun e => by
  have := h.vec.cell
  rw [e, hY] at this
  simp only [Option.some.injEq, Obj.cells.injEq] at this
  exact ht this.2.1
 have hne : ∀ k, foot b s.A k → k ≠ Y := fun k hk e => by
  obtain ⟨es, cl, h1⟩ := h.maps hk
  rw [e, hY] at h1
  cases h1
 have hb : ∀ k, k ≠ Y → (w.setCell ⟨Y, 0, none⟩ v).heap[k]? = w.heap[k]? := fun k hk => heap_setCell_other _ _ _ _ (fun e => hk e.symm)
 exact ⟨(hb m hm).trans h.cell, h.vec.block (hb _ hv) (hb _ (hne _ (foot_vb b _))), h.kept.block (hb _ (hne _ (foot_kb b _))), fun y hy => (h.overs y hy).setOne hY v, h.dead.block (hb _ (hne _ (foot_db b _))), h.alive.block (hb _ (hne _ (foot_ab b _))), fun p hp => (h.inner p hp).block (hb _ (hne _ (foot_in b hp))), h.some, h.keys, h.nodup⟩
/-- what the closure holds: the map's address, how many, the first error -/
structure MgBox (w : World) (m X Y Z : Nat) (n f : Int) : Prop where
 x : w.heap[X]? = some (.cells #[.pointer (some ⟨m, 0, none⟩)] 25 (0, 0))
 y : w.heap[Y]? = some (.cells #[.int .i64 n] 3 (0, 0))
 z : w.heap[Z]? = some (.cells #[.int .i64 f] 46 (0, 0))
 ne : X ≠ Y ∧ X ≠ Z ∧ Y ≠ Z
theorem MgBox.blocks {w w' : World} {m X Y Z : Nat} {n f : Int} (h : MgBox w m X Y Z n f) (hx : w'.heap[X]? = w.heap[X]?) (hy : w'.heap[Y]? = w.heap[Y]?) (hz : w'.heap[Z]? = w.heap[Z]?) : MgBox w' m X Y Z n f := ⟨hx.trans h.x, hy.trans h.y, hz.trans h.z, h.ne⟩
theorem MgBox.keeps {w w' : World} {m X Y Z : Nat} {n f : Int} (h : MgBox w m X Y Z n f) (hk : KeepsC w w') : MgBox w' m X Y Z n f := ⟨hk _ _ _ _ h.x, hk _ _ _ _ h.y, hk _ _ _ _ h.z, h.ne⟩
theorem MgBox.setY {w : World} {m X Y Z : Nat} {n f : Int} (h : MgBox w m X Y Z n f) (k : Int) : MgBox (w.setCell ⟨Y, 0, none⟩ (.int .i64 k)) m X Y Z k f :=
 ⟨(heap_setCell_other _ _ _ _ h.ne.1.symm).trans h.x, one_set h.y _, (heap_setCell_other _ _ _ _ h.ne.2.2).trans h.z, h.ne⟩
theorem MgBox.setZ {w : World} {m X Y Z : Nat} {n f : Int} (h : MgBox w m X Y Z n f) (k : Int) : MgBox (w.setCell ⟨Z, 0, none⟩ (.int .i64 k)) m X Y Z n k :=
 ⟨(heap_setCell_other _ _ _ _ h.ne.2.1.symm).trans h.x, (heap_setCell_other _ _ _ _ h.ne.2.2.symm).trans h.y, one_set h.z _, h.ne⟩
def mgFoot (b : MB) (A : List (Key × Nat)) (Y Z : Nat) : Nat → Prop := fun k => foot b A k ∨ k = Y ∨ k = Z
def RetMg (m : Nat) (b : MB) (s : MS) (e : Ev) (X Y Z : Nat) (n f : Int) (w : World) (x : Ending) (w' : World) : Prop :=
 ∃ s', x = .returned (.tuple #[]) ∧ MpIn w' m b s' ∧ (∀ k, foot b s'.A k → foot b s.A k ∨ w.heap.size ≤ k) ∧ Fr (mgFoot b s.A Y Z) w w' ∧ (if apOk s e = true then Applied s e s' else s' = s) ∧ MgBox w' m X Y Z (if apOk s e = true then n + 1 else n) (if f = 0 then apErr s e else f)
theorem RetMg.mk' {m : Nat} {b : MB} {s s' : MS} {e : Ev} {X Y Z : Nat} {n f : Int} {w w1 w' : World} (h : MpIn w' m b s') (hft : ∀ k, foot b s'.A k → foot b s.A k ∨ w.heap.size ≤ k) (hf : Fr (foot b s.A) w w1) (hs : Fr (fun k => k = Y ∨ k = Z) w1 w') (hap : if apOk s e = true then Applied s e s' else s' = s)
 (hB : MgBox w' m X Y Z (if apOk s e = true then n + 1 else n) (if f = 0 then apErr s e else f)) : RetMg m b s e X Y Z n f w (.returned (.tuple #[])) w' :=
 ⟨s', rfl, h, hft, (hf.mono fun _ _ g => Or.inl g).again (hs.mono fun _ _ g => Or.inr g), hap, hB⟩
theorem fr_setY {w : World} {Y Z : Nat} (v : Value) : Fr (fun k => k = Y ∨ k = Z) w (w.setCell ⟨Y, 0, none⟩ v) := (fr_set v).mono fun _ _ g => Or.inl g
theorem fr_setZ {w : World} {Y Z : Nat} (v : Value) : Fr (fun k => k = Y ∨ k = Z) w (w.setCell ⟨Z, 0, none⟩ v) := (fr_set v).mono fun _ _ g => Or.inr g
theorem mergeOne_any {m : Nat} {b : MB} {s : MS} (e : Ev) (a : Option Addr) (cap X Y Z : Nat) (n f : Int) (w : World) (h : MpIn w m b s) (hi : MInv s) (hs : EvSmall e) (hin : DotsIn w a e.over) (hn0 : a = none → e.over = []) (hcl : s.ctx.length ≤ 536870912) (hdl : s.dead.length ≤ 536870912) (hB : MgBox w m X Y Z n f) (hn : 0 ≤ n ∧ n ≤ 1073741824) :
 Calls Tryz.prog 101 #[evVal e a cap, .pointer (some ⟨X, 0, none⟩), .pointer (some ⟨Y, 0, none⟩), .pointer (some ⟨Z, 0, none⟩)] w (RetMg m b s e X Y Z n f w) := by
 have HA := Lib.hid (fun (X : World) (h : MpIn X m b s) (hin : DotsIn X a e.over) => mApply_any e a cap X h hi hs hin hn0 hcl hdl)
 have hty1 : (3 : TypeId) ≠ 170 := by decide
 have hty2 : (46 : TypeId) ≠ 170 := by decide
 have HT := Lib.hid (And.intro hty1 hty2)
 have hwr : IntKind.i64.wrap (n + 1) = n + 1 := IntWalk.i64_in _ (by omega)
 clear hty1 hty2 hi hs hn0 hcl hdl
 go_enter Tryz.func101, Tryz.ntmps101
 go_upto_region 1 with fail
 refine wp_name (fun W hW => ?_)
 have hbt : Below w.heap.size w W := by rw [hW.out]; go_grown
 have hR : W.rangeAt w.heap.size 0 (evCells e a cap) := by rw [hW.out]; exact evCells_box e a cap w _
 clear hW
 have hBW := hB.keeps (KeepsC.of_below hbt)
 have hmW := h.kept_w hbt
 have hinW := hin.kept hbt
 have xX := (one_cell hBW.x).1
 clear hin h
 go_upto_region 2 with (first
  | ((with_reducible refine wpList_load_ev _ w.heap.size e a cap hR ?_ rfl ?_); exact rfl)
  | (go_at_call 17; (with_reducible refine (HA.out _ hmW hinW).mono ?_); rintro x w1 ⟨s', rfl, hm1, hf1, hft1, hap⟩))
 have hB1 := hBW.keeps (hmW.keeps hf1 (fun _ h => h))
 have hf : Fr (foot b s.A) w w1 := (Fr.of_below hbt).again hf1
 have hft : ∀ k, foot b s'.A k → foot b s.A k ∨ w.heap.size ≤ k := fun k hk => (hft1 k hk).imp id fun g => Nat.le_trans hbt.size g
 have yY := one_cell hB1.y
 have zZ := one_cell hB1.z
 have yf := yY.2
 have zf := zZ.2
 replace yY := yY.1
 replace zZ := zZ.1
 have yY2 := (one_cell (hB1.setY (n + 1)).z).1
 have yZ2 := (one_cell (hB1.setY (n + 1)).z).2
 have HM := Lib.hid hm1
 have HBo := Lib.hid hB1
 clear hBW hmW hinW xX hf1 hft1 hR hbt hB HA
 cases hok : apOk s e with
 | false =>
   have HQ : Hid (∀ w', MpIn w' m b s' → Fr (fun k => k = Y ∨ k = Z) w1 w' → MgBox w' m X Y Z n (if f = 0 then apErr s e else f) → RetMg m b s e X Y Z n f w (.returned (.tuple #[])) w') := fun w' g1 g2 g3 => RetMg.mk' g1 hft hf g2 hap (by rw [hok, if_neg (by decide)]; exact g3)
   clear hap hft hf hok
   by_cases h0 : f = 0
   ·have hb0 : (f == 0) = true := beq_iff_eq.2 h0
    rw [if_pos h0] at HQ
    generalize apErr s e = r at *
    clear h0
    go_wp2
    go_end0
    exact HQ.out _ (HM.out.setOne HBo.out.z HT.out.2 _) (fr_setZ _) (HBo.out.setZ _)
   ·have hb0 : (f == 0) = false := beq_eq_false_iff_ne.2 h0
    rw [if_neg h0] at HQ
    generalize apErr s e = r at *
    clear h0
    go_wp2
    go_end0
    exact HQ.out _ HM.out (Fr.refl _ _) HBo.out
 | true =>
   have HQ : Hid (∀ w', MpIn w' m b s' → Fr (fun k => k = Y ∨ k = Z) w1 w' → MgBox w' m X Y Z (n + 1) (if f = 0 then apErr s e else f) → RetMg m b s e X Y Z n f w (.returned (.tuple #[])) w') := fun w' g1 g2 g3 => RetMg.mk' g1 hft hf g2 hap (by rw [hok, if_pos rfl]; exact g3)
   clear hap hft hf hok
   by_cases h0 : f = 0
   ·have hb0 : (f == 0) = true := beq_iff_eq.2 h0
    rw [if_pos h0] at HQ
    generalize apErr s e = r at *
    clear h0
    go_wp2
    go_end0
    exact HQ.out _ ((HM.out.setOne HBo.out.y HT.out.1 _).setOne (HBo.out.setY _).z HT.out.2 _) ((fr_setY _).again (fr_setZ _)) ((HBo.out.setY _).setZ _)
   ·have hb0 : (f == 0) = false := beq_eq_false_iff_ne.2 h0
    rw [if_neg h0] at HQ
    generalize apErr s e = r at *
    clear h0
    go_wp2
    go_end0
    exact HQ.out _ (HM.out.setOne HBo.out.y HT.out.1 _) (fr_setY _) (HBo.out.setY _)
/-- events merged one after the other: the map behind them, how many were applied, the first error -/
inductive Merged (s : MS) : List Ev → MS → Nat → Int → Prop
 | nil : Merged s [] s 0 0
 | snoc {l : List Ev} {s1 s2 : MS} {n : Nat} {f : Int} {e : Ev} : Merged s l s1 n f → (if apOk s1 e = true then Applied s1 e s2 else s2 = s1) → Merged s (l ++ [e]) s2 (if apOk s1 e = true then n + 1 else n) (if f = 0 then apErr s1 e else f)
theorem Merged.facts {s : MS} {l : List Ev} {s' : MS} {n : Nat} {f : Int} (h : Merged s l s' n f) (hi : MInv s) : MInv s' ∧ s'.ctx.length ≤ s.ctx.length + l.length ∧ s'.dead.length ≤ s.dead.length + 64 * l.length ∧ n ≤ l.length := by
 induction h with
 | nil => exact ⟨hi, by simp, by simp, Nat.le_refl _⟩
 | snoc _ hap ih =>
   obtain ⟨i1, i2, i3, i4⟩ := ih
   obtain ⟨g1, g2⟩ := RetAp.sizes hap
   refine ⟨RetAp.inv (m := 0) (b := ⟨0, 0, 0, 0, 0⟩) i1 hap, ?_, ?_, ?_⟩
   ·simp only [List.length_append, List.length_cons, List.length_nil]; omega
   ·simp only [List.length_append, List.length_cons, List.length_nil]; omega
   ·simp only [List.length_append, List.length_cons, List.length_nil]; split <;> omega
def RetMerge (m : Nat) (b : MB) (s : MS) (l : List Ev) (w : World) (x : Ending) (w' : World) : Prop :=
 ∃ (s' : MS) (n : Nat) (f : Int), x = .returned (.tuple #[.int .i64 n, .int .i64 f]) ∧ Merged s l s' n f ∧ MpIn w' m b s' ∧ Fr (foot b s.A) w w' ∧ ∀ k, foot b s'.A k → foot b s.A k ∨ w.heap.size ≤ k
theorem dMerge_any {m : Nat} {b : MB} {s : MS} (a : Option Addr) (cap : Nat) (ls : List EvIt) (w : World) (h : MpIn w m b s) (hi : MInv s) (hE : EvsIn w a ls) (hsm : EvsSmall ls) (hll : ls.length ≤ 1048576) (hcl : s.ctx.length ≤ 1048576) (hdl : s.dead.length ≤ 67108864) :
 Calls Tryz.prog 49 #[.pointer (some ⟨m, 0, none⟩), .slice a ls.length cap] w (RetMerge m b s (evsOf ls) w) := by
 have hmf : ∀ (fn : Fn) (first cap : Array Value) (w : World), (Instr.makeFunc fn first cap).run Tryz.prog w = .ok (.func fn first cap) w := fun _ _ _ _ => rfl
 have HH := Lib.hid h
 have HI := Lib.hid hi
 go_enter Tryz.func49, Tryz.ntmps49
 go_upto_region 5 with fail
 refine wp_name (fun W hW => ?_)
 have hb0 : Below w.heap.size w W := by rw [hW.out]; go_grown
 have hB0 : MgBox W m w.heap.size (w.heap.size + 1) (w.heap.size + 2) 0 0 := by
  rw [hW.out]
  refine ⟨?_, ?_, ?_, by omega, by omega, by omega⟩
  ·refine (((Below.refl _ _).alloc (Nat.le_refl _) _).block _ (by simp <;> omega)).trans ?_
   refine (((Below.refl _ _).alloc (Nat.le_refl _) _).block _ (by simp <;> omega)).trans ?_
   exact heap_last0 _ _
  ·refine (((Below.refl _ _).alloc (Nat.le_refl _) _).block _ (by simp <;> omega)).trans ?_
   exact heap_last1 _ _ _
  ·have := heap_last0 ((w.alloc (.cells #[.pointer (some ⟨m, 0, none⟩)] 25)).alloc (.cells #[.int .i64 0] 3)) (.cells #[.int .i64 0] 46)
   simpa using this
 have hm0 := h.kept_w hb0
 have hzW : w.heap.size + 2 < W.heap.size := by rw [hW.out]; simp
 clear hW h hi
 go_wp2
 go_loopw [16] (fun i wr => ∃ (k : Nat) (s1 : MS) (n : Nat) (f : Int), i = .int .i64 k ∧ k ≤ ls.length ∧ MpIn wr m b s1 ∧ Merged s ((evsOf ls).take k) s1 n f ∧ (∀ q, foot b s1.A q → foot b s.A q ∨ w.heap.size ≤ q) ∧ Fr (foot b s.A) w wr ∧ MgBox wr m w.heap.size (w.heap.size + 1) (w.heap.size + 2) n f ∧ w.heap.size + 2 < wr.heap.size) (fun i _ => ls.length - (intOf i).toNat)
 case atStart => exact ⟨0, s, 0, 0, rfl, Nat.zero_le _, hm0, Merged.nil, fun q hq => Or.inl hq, Fr.of_below hb0, hB0, hzW⟩
 case round =>
  obtain ⟨k, s1, n, f, rfl, hk, hm1, hM, hft, hfr, hB, hzr⟩ := hrel
  have hEr := (HH.out.keeps hfr (fun _ h => h)).evs hE
  obtain ⟨hi1, g1, g2, g3⟩ := hM.facts HI.out
  rw [List.length_take, evsOf_length] at g1 g2 g3
  by_cases hlt : k < ls.length
  ·obtain ⟨A, off, rfl, hra, hda⟩ := hEr.at hlt
   have r1 := hra k hlt
   have hse := hsm _ (List.getElem_mem hlt)
   have HT : Hid ((evsOf ls).take (k + 1) = (evsOf ls).take k ++ [ls[k].1]) := by
        unfold Hid
        rw [List.take_add_one, List.getElem?_eq_getElem (by rw [evsOf_length]; exact hlt), evsOf_at hlt]
        rfl
   have HLT := Lib.hid hlt
   have hkl : k ≤ 1048576 := by omega
   have hc1 : s1.ctx.length ≤ 536870912 := by omega
   have hd1 : s1.dead.length ≤ 536870912 := by omega
   have hn1 : (0 : Int) ≤ n ∧ (n : Int) ≤ 1073741824 := by omega
   generalize ls[k] = x at *
   obtain ⟨e, ax, cx⟩ := x
   simp only [itEv] at r1
   simp only at hda hse HT
   have hn0 : ax = none → e.over = [] := fun hn => by rcases hda with h | ⟨A, off, h3, _⟩; exact h; rw [hn] at h3; cases h3
   clear hra hlt hEr
   go_upto_region 8 with (first
        | ((with_reducible refine wpList_load_evo _ A (off + k * 19) e ax cx r1 ?_ rfl ?_); exact rfl)
        | (refine wpList_store_new 43 _ _ _ (evCells e ax cx).toArray rfl rfl (by kernel_rfl) rfl (by kernel_rfl) ?_))
   refine wp_name (fun W1 hW1 => ?_)
   have hb1 : Below wr.heap.size wr W1 := by rw [hW1.out]; exact (Below.refl _ _).alloc (Nat.le_refl _) _
   have R1 : W1.rangeAt wr.heap.size 0 (evCells e ax cx) := by rw [hW1.out]; exact evCells_box e ax cx wr _
   have HC := Lib.hid (mergeOne_any e ax cx w.heap.size (w.heap.size + 1) (w.heap.size + 2) n f W1 (hm1.kept_w hb1) hi1 hse (hda.kept hb1) hn0 hc1 hd1 (hB.keeps (KeepsC.of_below hb1)) hn1)
   have hfr1 : Fr (foot b s.A) w W1 := hfr.again (Fr.of_below hb1)
   have HM := Lib.hid hM
   have hz1 := hb1.size
   have HFT := Lib.hid hft
   clear hW1 r1 hm1 hi1 hB hda hM hfr hft hse
   go_wp2_with (first
        | ((with_reducible refine wpList_load_evo _ wr.heap.size 0 e ax cx R1 ?_ rfl ?_); exact rfl)
        | (go_at_call 101; (with_reducible refine HC.out.mono ?_); rintro x w2 ⟨s2, rfl, hm2, hft2, hfr2, hap2, hB2⟩))
   have HZ : Hid (MpIn w2 m b s2 ∧ Merged s ((evsOf ls).take (k + 1)) s2 (if apOk s1 e = true then n + 1 else n) (if f = 0 then apErr s1 e else f) ∧ (∀ q, foot b s2.A q → foot b s.A q ∨ w.heap.size ≤ q) ∧ Fr (foot b s.A) w w2 ∧ MgBox w2 m w.heap.size (w.heap.size + 1) (w.heap.size + 2) ((if apOk s1 e = true then n + 1 else n : Nat) : Int) (if f = 0 then apErr s1 e else f) ∧ w.heap.size + 2 < w2.heap.size) := by
        refine ⟨hm2, by rw [HT.out]; exact Merged.snoc HM.out hap2, fun q hq => ?_, hfr1.trans (hfr2.mono fun q hq hs => ?_), ?_, Nat.lt_of_lt_of_le hzr (Nat.le_trans hz1 hfr2.size)⟩
        ·rcases hft2 q hq with h3 | h3
         ·exact HFT.out q h3
         ·exact Or.inr (Nat.le_trans hfr1.size h3)
        ·rcases hs with h3 | rfl | rfl
         ·exact (HFT.out q h3).imp id id
         ·exact Or.inr (by omega)
         ·exact Or.inr (by omega)
        ·have e1 : ((if apOk s1 e = true then n + 1 else n : Nat) : Int) = if apOk s1 e = true then (n : Int) + 1 else n := by split <;> simp
         rw [e1]
         exact hB2
   clear hm2 hft2 hfr2 hap2 hB2 hfr1 R1 HC
   go_roundw
   case rel => exact ⟨k + 1, s2, _, _, by go_num, HLT.out, HZ.out.1, HZ.out.2.1, HZ.out.2.2.1, HZ.out.2.2.2.1, HZ.out.2.2.2.2.1, HZ.out.2.2.2.2.2⟩
   case measure => have := HLT.out; simp [intOf] <;> omega
  ·obtain rfl : k = ls.length := by omega
   rw [List.take_of_length_le (by rw [evsOf_length]; exact Nat.le_refl _)] at hM
   have yY := (one_cell hB.y).1
   have zZ := (one_cell hB.z).1
   have HZ := Lib.hid (And.intro hm1 (And.intro hM (And.intro hft hfr)))
   clear hm1 hM hft hfr hi1 hB hEr
   go_wp2
   go_quiet (fail)
   go_wp2
   all_goals
        go_ret2
        exact ⟨s1, n, f, rfl, HZ.out.2.1, HZ.out.1.kept_w (below_drewN' nq), HZ.out.2.2.2.again (Fr.of_below (below_drewN' nq)), HZ.out.2.2.1⟩
theorem Merged.none {s s' : MS} {l : List Ev} {n : Nat} {f : Int} (h : Merged s l s' n f) (hl : l = []) : s' = s ∧ n = 0 ∧ f = 0 := by
 cases h with
 | nil => exact ⟨rfl, rfl, rfl⟩
 | snoc _ _ => simp at hl
theorem Merged.one {s s' : MS} {l : List Ev} {e : Ev} {n : Nat} {f : Int} (h : Merged s l s' n f) (hl : l = [e]) : (if apOk s e = true then Applied s e s' else s' = s) ∧ n = (if apOk s e = true then 1 else 0) ∧ f = apErr s e := by
 cases h with
 | nil => simp at hl
 | snoc h2 hap =>
   rename_i l2 s1 n2 f2 e2
   have h3 : l2 = [] ∧ e2 = e := by
    have h4 := congrArg List.length hl
    simp at h4
    subst h4
    simpa using hl
   obtain ⟨rfl, rfl⟩ := h3
   obtain ⟨rfl, rfl, rfl⟩ := h2.none rfl
   exact ⟨hap, by simp, by simp⟩
theorem apY0 : apOk MS.empty evY = true := by decide +kernel
theorem apY0e : apErr MS.empty evY = 0 := by decide +kernel
theorem behindY0 {s1 : MS} (h : Applied MS.empty evY s1) : s1.ctx = [dA] ∧ eventsOf s1 = [evY] := by
 obtain ⟨a, c, hk⟩ := h.kept
 have hK : s1.K = [(evY, a, c)] := List.perm_singleton.1 hk
 refine ⟨by rw [h.ctx]; decide +kernel, ?_⟩
 unfold eventsOf
 rw [hK]
 show (sortD [dA]).map _ = _
 rw [show sortD [dA] = [dA] by decide +kernel]
 show [evAt _ dA] = _
 unfold evAt
 rw [List.find?_cons_of_pos (by show decide (dA = dA) = true; exact decide_eq_true rfl)]
 rfl
theorem ofY : ofFrom [] (-1) [] [evY] = [evY] := by decide +kernel
theorem evY_in (w : World) (t : TypeId) : EvsIn (w.alloc (.cells #[.int .i64 0, .int .i64 1, .int .i64 1, .int .i64 0, .int .i64 0, .int .i64 0, .int .i64 1, .string ⟨#[110]⟩, .string ⟨#[100]⟩, .string ⟨#[47]⟩, .string ⟨#[]⟩, .bool false, .bool false, .bool false, .bool false, .int .i64 1099511627776, .int .i64 0, .int .i64 0, .slice none 0 0] t)) (some ⟨w.heap.size, 0, none⟩) [(evY, none, 0)] := by
 refine ⟨Or.inr ⟨w.heap.size, 0, rfl, fun i hi => ?_⟩, fun x hx => ?_⟩
 ·obtain rfl : i = 0 := by simpa using hi
  exact evCells_box evY none 0 w t
 ·simp only [List.mem_singleton] at hx
  subst hx
  exact Or.inl rfl
theorem awake22_any (w : World) : Calls Tryz.prog 45 #[] w fun x w' => x = .returned (.bool true) ∧ Below w.heap.size w w' := by
 have HN := Lib.hid (fun X => mNew_any X)
 go_enter Tryz.func45, Tryz.ntmps45
 go_upto_region 2 with (go_at_call 15; (with_reducible refine (HN.out _).mono ?_); rintro x w1 ⟨m, b, rfl, hm, hb, hlo, hfo⟩)
 have hb1 : Below w1.heap.size w1 (w1.alloc (.cells #[.int .i64 0, .int .i64 1, .int .i64 1, .int .i64 0, .int .i64 0, .int .i64 0, .int .i64 1, .string ⟨#[110]⟩, .string ⟨#[100]⟩, .string ⟨#[47]⟩, .string ⟨#[]⟩, .bool false, .bool false, .bool false, .bool false, .int .i64 1099511627776, .int .i64 0, .int .i64 0, .slice none 0 0] 43)) := (Below.refl _ _).alloc (Nat.le_refl _) _
 have HM := Lib.hid (show Calls Tryz.prog 49 #[.pointer (some ⟨m, 0, none⟩), .slice (some ⟨w1.heap.size, 0, none⟩) 1 1] _ _ from dMerge_any (m := m) (b := b) (s := MS.empty) (some ⟨w1.heap.size, 0, none⟩) 1 [(evY, none, 0)] _ (hm.kept_w hb1) MInv.empty (evY_in w1 43) (fun x hx => by simp only [List.mem_singleton] at hx; subst hx; exact evY_small) (by decide) (by decide) (by decide))
 go_upto_region 3 with (first
  | (refine Great.wpList_buildTo rfl 43 _ rfl _ rfl #[.int .i64 0, .int .i64 1, .int .i64 1, .int .i64 0, .int .i64 0, .int .i64 0, .int .i64 1, .string ⟨#[110]⟩, .string ⟨#[100]⟩, .string ⟨#[47]⟩, .string ⟨#[]⟩, .bool false, .bool false, .bool false, .bool false, .int .i64 1099511627776, .int .i64 0, .int .i64 0, .slice none 0 0] (by kernel_rfl) ?_)
  | (refine wpList_buildOne rfl 28 43 _ rfl #[.int .i64 0, .int .i64 1, .int .i64 1, .int .i64 0, .int .i64 0, .int .i64 0, .int .i64 1, .string ⟨#[110]⟩, .string ⟨#[100]⟩, .string ⟨#[47]⟩, .string ⟨#[]⟩, .bool false, .bool false, .bool false, .bool false, .int .i64 1099511627776, .int .i64 0, .int .i64 0, .slice none 0 0] 19 rfl rfl (by decide) (by decide) Tryz.underlying28 (by kernel_rfl) (by kernel_rfl) ?_)
  | (go_at_call 49; (with_reducible refine HM.out.mono ?_); rintro x w2 ⟨s1, n, f, rfl, hMg, hm2, hf2, hft2⟩))
 obtain ⟨hap, rfl, rfl⟩ := hMg.one rfl
 have hiM := (hMg.facts MInv.empty).1
 rw [if_pos apY0] at hap
 rw [if_pos apY0, apY0e]
 obtain ⟨hctx, hevs⟩ := behindY0 hap
 have hb2 : Below w.heap.size w w2 := (hb.trans (hb1.mono hb.size)).trans (hf2.below (Nat.le_trans hb.size hb1.size) hfo)
 have HO0 := dOf_any none 0 [] (-1) w2 hm2 hiM (Or.inl rfl) rfl
 rw [hevs, ofY] at HO0
 have HO := Lib.hid (show Calls Tryz.prog 48 #[.pointer (some ⟨m, 0, none⟩), .slice none 0 0, .int .i64 (-1)] w2 _ from HO0)
 have hc4 : s1.ctx.length ≤ 4096 := by rw [hctx]; decide
 have hX1 : (decide (marksErr [] = 0) && !coversM [] s1.ctx) = true := by rw [hctx]; decide +kernel
 have hX2 : (decide (marksErr [] = 0) && !coversM s1.ctx []) = false := Bool.and_false _
 have HNe := Lib.hid (fun (X : World) (h : MpIn X m b s1) => (show Calls Tryz.prog 98 #[.pointer (some ⟨m, 0, none⟩), .slice none 0 0] X fun e w' => e = .returned (.bool true) ∧ Below X.heap.size X w' from by have := dNeeds_any none 0 [] X h hiM hc4 (by decide) (Or.inl rfl); rw [hX1] at this; exact this))
 have HBe := Lib.hid (fun (X : World) (h : MpIn X m b s1) => (show Calls Tryz.prog 99 #[.pointer (some ⟨m, 0, none⟩), .slice none 0 0] X fun e w' => e = .returned (.bool false) ∧ Below X.heap.size X w' from by have := dBehind_any none 0 [] X h hiM hc4 (by decide) (Or.inl rfl); rw [hX2] at this; exact this))
 clear HO0 hevs hctx hap hMg hiM hX1 hX2 hc4 HM HN hb1 hm hf2 hft2 hlo hfo
 go_upto_region 4 with (go_at_call 48; (with_reducible refine HO.out.mono ?_); rintro x w3 ⟨a3, ls, c3, rfl, hE3, hev3, hb3⟩)
 have hl1 : ls.length = 1 := by have := congrArg List.length hev3; rwa [evsOf_length] at this
 have hm3 := hm2.kept_w hb3
 have hbt : Below w.heap.size w w3 := hb2.trans (hb3.mono hb2.size)
 rw [hl1]
 clear hE3 hev3 hb3 hb2 hm2 hl1 HO
 go_wp2_with (first
  | (go_at_call 98; (with_reducible refine (HNe.out _ hm3).mono ?_); rintro x w4 ⟨rfl, hb4⟩; have hm4 := hm3.kept_w hb4; have hbu := hbt.trans (hb4.mono hbt.size))
  | (go_at_call 99; (with_reducible refine (HBe.out _ hm4).mono ?_); rintro x w5 ⟨rfl, hb5⟩))
 go_ret
 exact ⟨rfl, hbu.trans (hb5.mono hbu.size)⟩
end Go.Proofs.YtpbobhfnglikmaaGreat
