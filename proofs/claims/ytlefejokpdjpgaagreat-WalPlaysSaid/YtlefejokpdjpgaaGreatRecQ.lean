/- Lists of records: are they the same, are they light, copied, their lines. Conditions: at most 2^30 records. -/
import Derived.Test.YtlefejokpdjpgaaGreatRest
import Derived.Test.YtlefejokpdjpgaaGreatRecP
import Derived.Test.YtlefejokpdjpgaaGreatFrameP
set_option linter.unusedSimpArgs false
set_option linter.unusedVariables false
set_option linter.unnecessarySimpa false
set_option maxHeartbeats 16000000
set_option maxRecDepth 100000
namespace Go.Proofs.YtlefejokpdjpgaaGreat
open Go.RowKit
def bD (ls : List aY) : List Rec := ls.map (·.1)
theorem aT (ls : List aY) : (bD ls).length = ls.length := by simp [bD]
theorem mF {ls : List aY} {k : Nat} (h : k < ls.length) : (bD ls)[k]'(by rw [aT]; exact h) = ls[k].1 := by simp [bD]
theorem dL {w : World} {base : Nat} {t : TypeId} {v : Value} {ls : List aY} (h : w.ownsRow base t 21 v ls.length (bJ ls)) (hd : ∀ x ∈ ls, DotsIn w x.2.1 x.1.e.over) : ∃ a cap, v = .slice a ls.length cap ∧ RecsIn w a ls ∧ ls.length ≤ cap := by
 rcases h.2 with ⟨rfl, hn⟩ | ⟨g, cap, cur, hv, _, _, hc, _⟩
 ·have : ls = [] := List.length_eq_zero_iff.1 hn
  subst this
  exact ⟨none, 0, rfl, ⟨Or.inl rfl, hd⟩, Nat.le_refl _⟩
 ·refine ⟨some ⟨g, 0, none⟩, cap, hv, ⟨Or.inr ⟨g, 0, rfl, fun i hi j u hu => ?_⟩, hd⟩, hc⟩
  have := World.ownsRow.cells (g := g) h (by rw [hv]; rfl) (i * 21 + j) u (lw ls i j u hi hu)
  rw [Addr.add_mid, Nat.zero_add] at this
  rwa [Nat.zero_add]
theorem y6 {p q : Prop} (k : q) (h : PLift q → p := by
 intro kk
 refine wp_region_after (by kernel_rfl) (by kernel_rfl) (fun W2 hW2 => ?_)
 have R1 : W2.rangeAt A (off + k * 21) (ah e ax cx) := by rw [hW2.out]; exact r1
 have R2 : W2.rangeAt B (ofb + k * 21) (ah f ay cy) := by rw [hW2.out]; exact r2
 have D1 : ∀ i : After W2, DotsIn i.w ax e.e.over := fun i => (show DotsIn W2 ax e.e.over by rw [hW2.out]; exact hda).kept i.h
 have D2 : ∀ i : After W2, DotsIn i.w ay f.e.over := fun i => (show DotsIn W2 ay f.e.over by rw [hW2.out]; exact hdb).kept i.h
 iterate 3 go_big_quiet_step (fail)
 revert W2 hW2 R1 R2 D1 D2
 exact kk.down) : p := h ⟨k⟩
theorem lV (a b : Option Addr) (ca cb : Nat) (l m : List aY) (w : World) (hl : l.length ≤ 1073741824) (hm : m.length ≤ 1073741824) (hsl : ∀ x ∈ l, x.1.e.over.length ≤ 1073741824) (hsm : ∀ x ∈ m, x.1.e.over.length ≤ 1073741824) (ha : RecsIn w a l) (hb : RecsIn w b m) :
 Calls Tryz.prog 15 #[.slice a l.length ca, .slice b m.length cb] w fun x w' => x = .returned (.bool (decide (bD l = bD m))) ∧ Below w.heap.size w w' := by
 by_cases hlen : l.length = m.length
 ·refine y21 ?_
  intro hb1 hb2 hl1 hl2
  clear hlen
  go_enter Tryz.func15, Tryz.ntmps15
  go_wp2
  go_loopw [5] (fun i wr => ∃ k : Nat, k ≤ l.length ∧ i = .int .i64 k ∧ (bD l).take k = (bD m).take k ∧ Below w.heap.size w wr) (fun i _ => l.length - (intOf i).toNat)
  case atStart => exact ⟨0, Nat.zero_le _, rfl, rfl, by go_grown⟩
  case round =>
   obtain ⟨k, hk, rfl, hpre, hbw⟩ := hrel
   have HP := Lib.hid hpre
   clear hpre
   have hzw := hbw.size
   by_cases hlt : k < l.length
   ·have hlm : k < m.length := by omega
    obtain ⟨A, off, rfl, hra, hda⟩ := (ha.kept hbw).at hlt
    obtain ⟨B, ofb, rfl, hrb, hdb⟩ := (hb.kept hbw).at hlm
    have r1 := hra k hlt
    have r2 := hrb k hlm
    have s1 := hsl _ (List.getElem_mem hlt)
    have s2 := hsm _ (List.getElem_mem hlm)
    have g1 := @mF l k hlt
    have g2 := @mF m k hlm
    have HN := fun he : l[k].1 = m[k].1 => take_next (k := k) (by rw [aT]; exact hlt) (by rw [aT]; exact hlm) HP.out (by rw [g1, g2]; exact he)
    have HD := fun he : ¬ l[k].1 = m[k].1 => decide_eq_false (take_ne (k := k) (l := bD l) (m := bD m) (by rw [aT]; exact hlt) (by rw [aT]; exact hlm) (by rw [g1, g2]; exact he))
    clear hra hrb g1 g2 HP
    generalize l[k] = x at *
    generalize m[k] = y at *
    obtain ⟨e, ax, cx⟩ := x
    obtain ⟨f, ay, cy⟩ := y
    simp only at *
    have hS0 := fun (W : World) (h1 : DotsIn W ax e.e.over) (h2 : DotsIn W ay f.e.over) => nP e f ax ay cx cy W s1 s2 h1 h2
    by_cases he : e = f
    ·have HE := Lib.hid (HN he)
     rw [decide_eq_true he] at hS0
     have HS := Lib.hid hS0
     clear hS0 he HN HD
     go_upto_region 6 with fail
     refine y6 ?_
     intro W2 hW2 R1 R2 D1 D2
     ((with_reducible refine wpQuiet_load_to 41 _ A (off + k * 21) (ah e ax cx) (aU e ax cx) rfl _ Tryz.underlying41 rfl (by kernel_rfl) R1 ?_ rfl ?_); exact rfl; go_simp)
     iterate 3 go_big_quiet_step (fail)
     ((with_reducible refine wpQuiet_load_to 41 _ B (ofb + k * 21) (ah f ay cy) (aU f ay cy) rfl _ Tryz.underlying41 rfl (by kernel_rfl) R2 ?_ rfl ?_); exact rfl; go_simp)
     go_big_quiet_step (exact Calls.after (HS.out _ (D1 _) (D2 _)))
     go_big_quiet_step (fail)
     refine wpQuiet_nil ?_
     first | (intro _ hi; obtain ⟨i, rfl⟩ := hi) | intro i
     have hib := i.h
     clear D1 D2 R1 R2
     generalize i.w = wi at hib ⊢
     rw [hW2.out] at hib
     go_wp2
     go_roundw
     case rel => exact ⟨k + 1, by omega, by go_num, HE.out, hbw.trans (hib.mono hzw)⟩
     case measure => exact z39
    ·have HE := Lib.hid (HD he)
     rw [decide_eq_false he] at hS0
     have HS := Lib.hid hS0
     clear hS0 he HN HD
     go_upto_region 6 with fail
     refine y6 ?_
     intro W2 hW2 R1 R2 D1 D2
     ((with_reducible refine wpQuiet_load_to 41 _ A (off + k * 21) (ah e ax cx) (aU e ax cx) rfl _ Tryz.underlying41 rfl (by kernel_rfl) R1 ?_ rfl ?_); exact rfl; go_simp)
     iterate 3 go_big_quiet_step (fail)
     ((with_reducible refine wpQuiet_load_to 41 _ B (ofb + k * 21) (ah f ay cy) (aU f ay cy) rfl _ Tryz.underlying41 rfl (by kernel_rfl) R2 ?_ rfl ?_); exact rfl; go_simp)
     go_big_quiet_step (exact Calls.after (HS.out _ (D1 _) (D2 _)))
     go_big_quiet_step (fail)
     refine wpQuiet_nil ?_
     first | (intro _ hi; obtain ⟨i, rfl⟩ := hi) | intro i
     have hib := i.h
     clear D1 D2 R1 R2
     generalize i.w = wi at hib ⊢
     rw [hW2.out] at hib
     go_wp2
     go_ret
     exact ⟨ret_bool HE.out.symm, hbw.trans (hib.mono hzw)⟩
   ·have hlm : ¬ k < m.length := by omega
    have HE : Hid (decide (bD l = bD m) = true) := decide_eq_true (take_all (k := k) (by rw [aT]; exact hlt) (by rw [aT]; exact hlm) HP.out)
    go_wp2
    go_ret
    exact ⟨ret_bool HE.out.symm, hbw⟩
 ·have HE : Hid (decide (bD l = bD m) = false) := decide_eq_false (len_ne (by rw [aT, aT]; exact hlen))
  have hb1 : ((l.length : Nat) != (m.length : Nat)) = true := by rw [bne_iff_ne]; exact hlen
  have hb2 : ((l.length : Int) != (m.length : Int)) = true := by rw [bne_iff_ne]; omega
  clear hlen
  go_enter Tryz.func15, Tryz.ntmps15
  go_wp2
  go_ret
  exact ⟨ret_bool HE.out.symm, by go_grown⟩
theorem tu {w : World} {b o : Nat} {x : Rec} {a : Option Addr} {cap : Nat} (h : w.rangeAt b o (ah x a cap)) : w.rangeAt b (o + 2) (evCells x.e a cap) := fun j v hv => by
 have := h (j + 2) v hv
 rwa [Nat.add_assoc, Nat.add_comm 2 j]
theorem Tryz.infoRec2 : (Tryz.prog.info? 41).map (fun i => (i.zero, i.size, i.bytes)) = some (some (.agg (ah cO none 0).toArray), 21, 192) := by kernel_rfl
def wO (t : TypeId) (ls : List aY) (w : World) (e : Ending) (w' : World) : Prop := ∃ v, e = .returned v ∧ w'.ownsRow w.heap.size t 21 v ls.length (bJ ls) ∧ Below w.heap.size w w'
theorem nX (l : List aY) (k : Nat) (h : k < l.length) : bJ (l.take k) ++ ah l[k].1 l[k].2.1 l[k].2.2 = bJ (l.take (k + 1)) := by
 rw [List.take_succ_eq_append_getElem h, gW]
theorem vU (a : Option Addr) (cap : Nat) (l : List aY) (w : World) (hl : l.length ≤ 1073741824) (h : RecsIn w a l) :
 Calls Tryz.prog 14 #[.slice a l.length cap] w (wO 41 l w) := by
 obtain ⟨i0, hi, hz0, hz1, hz2⟩ := info_parts Tryz.infoRec2
 go_enter Tryz.func14, Tryz.ntmps14
 go_wp2
 have hown0 : (w.alloc (Obj.cells #[] 41)).ownsRow w.heap.size 41 21 (.slice (some ⟨w.heap.size, 0, none⟩) 0 0) ([] : List aY).length (bJ []) := World.ownsRow_made _ _ _ (Nat.le_refl _) (by decide) rfl
 have hb0 : Below w.heap.size w (w.alloc (Obj.cells #[] 41)) := (Below.refl _ _).alloc (Nat.le_refl _) _
 go_loopw [3, 4] (fun out i wr => ∃ k : Nat, i = .int .i64 k ∧ k ≤ l.length ∧ wr.ownsRow w.heap.size 41 21 out k (bJ (l.take k)) ∧ Below w.heap.size w wr) (fun _ i _ => l.length - (intOf i).toNat)
 case atStart => exact ⟨0, rfl, Nat.zero_le _, hown0, hb0⟩
 case round =>
  obtain ⟨k, rfl, hk, hown, hbw⟩ := hrel
  have hzw := hbw.size
  by_cases hlt : k < l.length
  ·obtain ⟨A, off, rfl, hra, hda⟩ := (h.kept hbw).at hlt
   have r1 := hra k hlt
   have HT := Lib.hid (nX l k hlt)
   clear hra hda
   generalize l[k] = x at r1 HT
   obtain ⟨e, ax, cx⟩ := x
   simp only at r1 HT
   go_wp2_with (first
        | ((with_reducible refine wpList_load_to 44 _ A (off + k * 21) (ah e ax cx) (aU e ax cx) rfl _ Tryz.underlying44 rfl (by kernel_rfl) r1 ?_ rfl ?_); exact rfl)
        | (refine eH rfl 22 41 _ rfl (ah e ax cx).toArray 21 rfl rfl (by decide) (by decide) Tryz.underlying22 (by kernel_rfl) (by kernel_rfl) ?_)
        | (at_builtin; go_loud (refine wpList_append_own _ rfl _ _ 22 rfl w.heap.size 41 i0 (.agg (ah cO none 0).toArray) 21 192 Tryz.underlying22 hi hz0 hz1 hz2 rfl (by decide) _ _ _ rfl (hown.alloc _) ⟨wr.heap.size, 0, none⟩ 1 1 (ah e ax cx) rfl rfl (kP wr e ax cx _) (gI _ _ _) (by unfold maxLen; omega) (by omega) (by simp; omega) ?_); intro v' w2 hown3 hgrow _))
   have hb3 := (hbw.alloc hzw (Obj.cells (ah e ax cx).toArray 41)).grown hgrow (by simp; omega) (fun k hk => (hown.lt k hk).1)
   rw [HT.out] at hown3
   go_roundw
   case rel => exact ⟨k + 1, by go_num, by omega, hown3, hb3⟩
   case measure => exact z39
  ·have hke : k = l.length := by omega
   subst hke
   rw [List.take_length] at hown
   go_wp2
   go_ret
   exact ⟨_, rfl, hown, hbw⟩
/-- where each ends -/
def yx (rs : List Rec) (i : Nat) : Nat := (aj (rs.take i)).length
def wJ (rs : List Rec) : List Value := (List.range (rs.length + 1)).map fun i => .int .i64 ((yx rs i : Nat) : Int)
/-- through the loop over the records: rs those that may be -/
structure LinesInv (w0 W : World) (va vr ve : Value) (rs : List aY) : Prop where
 all : W.ownsRow w0.heap.size 5 1 va (aj (bD rs)).length (byteVals (aj (bD rs)))
 right : W.ownsRow w0.heap.size 41 21 vr rs.length (bJ rs)
 ends : W.ownsRow w0.heap.size 3 1 ve (rs.length + 1) (wJ (bD rs))
 bel : Below w0.heap.size w0 W
theorem LinesInv.step {w0 W W' : World} {va vr ve : Value} {rs : List aY} (h : LinesInv w0 W va vr ve rs) (hb : Below W.heap.size W W') : LinesInv w0 W' va vr ve rs :=
 ⟨ownsRow_below h.all hb, ownsRow_below h.right hb, ownsRow_below h.ends hb, h.bel.trans (hb.mono h.bel.size)⟩
end Go.Proofs.YtlefejokpdjpgaaGreat
/- Bytes of a frame with one byte changed are no frame: plain laws. Conditions: a body of at most 2^20 bytes. -/
namespace Go.Proofs.YtlefejokpdjpgaaGreat
/-- the bytes of a number are the only ones that are read as it -/
theorem jv : ∀ (l : Bytes) (j m n k : Nat), j ≤ 9 → getFrom j m l = (n, k, 0) → ∃ q, n = m + q * 128 ^ j ∧ k = j + (shortB q).length ∧ l.take (k - j) = shortB q ∧ (0 < j → 0 < q)
 | [], j, m, n, k, _, h => by simp [getFrom] at h
 | c :: r, j, m, n, k, hj, h => by
   unfold getFrom at h
   split at h
   ·simp at h
   ·rename_i h1
    have hc := c.toNat_lt
    split at h
    ·rename_i h2
     simp only [Prod.mk.injEq, and_true] at h
     obtain ⟨hn, hk⟩ := h
     refine ⟨c.toNat, ?_, ?_, ?_, fun h0 => ?_⟩
     ·rw [← hn, Nat.mod_eq_of_lt h2]
     ·rw [shortB_small _ h2, ← hk]; rfl
     ·rw [shortB_small _ h2, ← hk, show j + 1 - j = 1 by omega]; simp
     ·by_cases hz : c.toNat = 0
      ·exact absurd (Or.inl ⟨h0, hz⟩) h1
      ·omega
    ·rename_i h2
     have hj9 : j ≠ 9 := fun e => h1 (Or.inr ⟨e, by omega⟩)
     obtain ⟨q, hn, hk, ht, hq⟩ := jv r (j + 1) _ n k (by omega) h
     have hq0 := hq (by omega)
     have hb : ¬ (c.toNat % 128 + 128 * q) < 128 := by omega
     have e1 : (c.toNat % 128 + 128 * q) % 128 = c.toNat % 128 := by omega
     have e2 : (c.toNat % 128 + 128 * q) / 128 = q := by omega
     have e3 : UInt8.ofNat (c.toNat % 128 + 128) = c := by
      apply UInt8.toNat_inj.1
      rw [UInt8.toNat_ofNat']; omega
     refine ⟨c.toNat % 128 + 128 * q, ?_, ?_, ?_, fun _ => by omega⟩
     ·rw [hn, Nat.pow_succ, Nat.add_mul, ← Nat.add_assoc]
      congr 1
      rw [Nat.mul_comm 128 q, Nat.mul_assoc, Nat.mul_comm 128]
     ·rw [shortB_big _ hb, e2, List.length_cons, hk]; omega
     ·have e4 : k - j = (k - (j + 1)) + 1 := by omega
      rw [shortB_big _ hb, e1, e2, e3, e4, List.take_succ_cons, ht]
theorem ul {l : Bytes} {n k : Nat} (h : getS l = (n, k, 0)) : k = (shortB n).length ∧ l.take k = shortB n := by
 obtain ⟨q, hn, hk, ht, _⟩ := jv l 0 0 n k (by omega) h
 simp at hn hk ht
 subst hn
 exact ⟨hk, ht⟩
theorem jd {l b : Bytes} {n : Nat} (h : aS l = (b, n, 0)) : n = dY b.length ∧ n ≤ l.length := by
 have hf := gm l
 have hfit := getS_fit l
 unfold aS at h
 obtain ⟨m, k, e, hg⟩ : ∃ m k e, getS l = (m, k, e) := ⟨_, _, _, rfl⟩
 rw [hg] at h hfit
 simp only at h hfit
 by_cases he : e = 0
 ·subst he
  have hk := (ul hg).1
  rw [if_pos rfl] at h
  split at h
  ·simp at h
  ·split at h
   ·simp at h
   ·rename_i h1 h2
    split at h
    ·simp only [Prod.mk.injEq] at h
     obtain ⟨rfl, rfl, -⟩ := h
     have hl : ((l.drop k).take m).length = m := by simp; omega
     refine ⟨?_, by omega⟩
     unfold dY
     rw [hl, ← hk]
    ·simp at h
 ·rw [if_neg he] at h
  simp only [Prod.mk.injEq] at h
  exact absurd h.2.2 he
theorem kR {l b : Bytes} {n : Nat} {x : Rec} (h : aS l = (b, n, 0)) (hx : aK b = (x, 0)) : aC l = (x :: (aC (l.drop n)).1, n + (aC (l.drop n)).2) := by
 have hs := (jd h).1
 unfold aC
 rw [fV h]
 simp only [bC, hx, if_true, ← hs]
theorem jQ {l b : Bytes} {n : Nat} {x : Rec} {e : Int} (h : aS l = (b, n, 0)) (hx : aK b = (x, e)) (he : e ≠ 0) : aC l = ([], 0) := by
 unfold aC
 rw [fV h]
 simp only [bC, hx, if_neg he]
theorem gp : EvSmall ev0 := by constructor <;> exact Nat.zero_le _
theorem qI (r : Rd) : EvSmall (rEv r).2 := by
 unfold rEv evFin
 split
 ·split
  ·rename_i h; exact evOk_small h
  ·exact gp
 ·exact gp
theorem lN (l : Bytes) : EvSmall (aK l).1.e := by
 unfold aK bg
 split
 ·unfold dH
  split
  ·exact gp
  ·split
   ·exact qI _
   ·exact gp
 ·exact gp
theorem iL : ∀ (bs : List Bytes), (∀ x ∈ (bC bs).1, EvSmall x.e) ∧ (bC bs).1.length ≤ bs.length
 | [] => ⟨fun x hx => by simp [bC] at hx, Nat.le_refl _⟩
 | b :: r => by
   have ih := iL r
   unfold bC
   split
   ·refine ⟨fun x hx => ?_, by simp only [List.length_cons]; have := ih.2; omega⟩
    rcases List.mem_cons.1 hx with rfl | hx
    ·exact lN b
    ·exact ih.1 x hx
   ·exact ⟨fun x hx => by simp at hx, Nat.zero_le _⟩
theorem lM (l : Bytes) : (∀ x ∈ (aC l).1, EvSmall x.e) ∧ (aC l).1.length ≤ l.length := by
 have h := iL (bM l).1
 have h2 := lG _ l (Nat.le_refl _)
 unfold aC
 exact ⟨h.1, by have := h.2; omega⟩
theorem iK : ∀ (n : Nat) (l : Bytes), l.length ≤ n → (aC l).2 ≤ l.length
 | 0, l, h => by
   obtain rfl : l = [] := List.length_eq_zero_iff.1 (by omega)
   rw [dC fZ]; exact Nat.le_refl _
 | n + 1, l, h => by
   obtain ⟨b, k, e, hx⟩ : ∃ b k e, aS l = (b, k, e) := ⟨_, _, _, rfl⟩
   by_cases he : e = 0
   ·subst he
    obtain ⟨h1, h2⟩ := jd hx
    have h3 := sS b.length
    obtain ⟨x, f, hr⟩ : ∃ x f, aK b = (x, f) := ⟨_, _, rfl⟩
    by_cases hf : f = 0
    ·subst hf
     rw [kR hx hr]
     have h4 := iK n (l.drop k) (by rw [List.length_drop]; omega)
     rw [List.length_drop] at h4
     simp only
     omega
    ·rw [jQ hx hr hf]; exact Nat.zero_le _
   ·rw [dC (by rw [hx]; exact he)]; exact Nat.zero_le _
theorem RecsIn.take {w : World} {a : Option Addr} {ls : List aY} (h : RecsIn w a ls) (n : Nat) : RecsIn w a (ls.take n) := by
 refine ⟨?_, fun x hx => h.dots x (List.mem_of_mem_take hx)⟩
 rcases h.rows with h | ⟨A, off, rfl, hr⟩
 ·exact Or.inl (by rw [h]; simp)
 ·refine Or.inr ⟨A, off, rfl, fun i hi => ?_⟩
  have hi2 : i < ls.length := by simp at hi; omega
  rw [List.getElem_take]
  exact hr i hi2
end Go.Proofs.YtlefejokpdjpgaaGreat
