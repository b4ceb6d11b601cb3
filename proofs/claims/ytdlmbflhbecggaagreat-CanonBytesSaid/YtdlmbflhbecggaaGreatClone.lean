/- Slices of events: how they lie in memory; are they the same, do they rise. Conditions: at most 2^30 events, texts of at most 2^30 bytes. -/
import Derived.Test.YtdlmbflhbecggaaGreatLoad
import Derived.Test.YtdlmbflhbecggaaGreatMem
import Derived.Test.YtdlmbflhbecggaaGreatPack
import Derived.OneCell
import Derived.Test.YtdlmbflhbecggaaGreatKit
import Derived.Lib.AppendStr
import Derived.IntWalk
set_option linter.unusedSimpArgs false
set_option linter.unusedVariables false
set_option linter.unnecessarySimpa false
set_option maxHeartbeats 16000000
set_option maxRecDepth 100000
namespace Go.Proofs.YtdlmbflhbecggaaGreat
open Go.RowKit
abbrev bg := Ev × Option Addr × Nat
abbrev jP (x : bg) : List Value := ah x.1 x.2.1 x.2.2
structure EvsIn (w : World) (a : Option Addr) (ls : List bg) : Prop where
 rows : ls = [] ∨ ∃ A off, a = some ⟨A, off, none⟩ ∧ ∀ i (h : i < ls.length), w.rangeAt A (off + i * 19) (jP ls[i])
 dots : ∀ x ∈ ls, DotsIn w x.2.1 x.1.over
theorem EvsIn.kept {w w' : World} {a : Option Addr} {ls : List bg} (h : EvsIn w a ls) (hb : Below w.heap.size w w') : EvsIn w' a ls :=
 ⟨h.rows.imp id fun ⟨A, off, h1, h2⟩ => ⟨A, off, h1, fun i hi => aj (h2 i hi) hb⟩, fun x hx => (h.dots x hx).kept hb⟩
theorem EvsIn.at {w : World} {a : Option Addr} {ls : List bg} (h : EvsIn w a ls) {k : Nat} (hk : k < ls.length) :
 ∃ A off, a = some ⟨A, off, none⟩ ∧ (∀ i (h : i < ls.length), w.rangeAt A (off + i * 19) (jP ls[i])) ∧ DotsIn w ls[k].2.1 ls[k].1.over := by
 rcases h.rows with h1 | ⟨A, off, h1, h2⟩
 ·subst h1; simp at hk
 ·exact ⟨A, off, h1, h2, h.dots _ (List.getElem_mem hk)⟩
/-- the events alone -/
def aQ (ls : List bg) : List Ev := ls.map (·.1)
theorem aJ (ls : List bg) : (aQ ls).length = ls.length := by simp [aQ]
theorem oG {ls : List bg} {k : Nat} (h : k < ls.length) : (aQ ls)[k]'(by rw [aJ]; exact h) = ls[k].1 := by simp [aQ]
def iq (ls : List bg) : Prop := ∀ x ∈ ls, EvSmall x.1
/-! ### are they the same -/
theorem y31 {p q : Prop} (k : q) (h : PLift q → p := by
 intro kk
 refine aH (by kernel_rfl) (by kernel_rfl) (fun W2 hW2 => ?_)
 have R1 : W2.rangeAt A (off + k * 19) (ah e ax cx) := by rw [hW2.out]; exact r1
 have R2 : W2.rangeAt B (ofb + k * 19) (ah f ay cy) := by rw [hW2.out]; exact r2
 have D1 : ∀ i : After W2, DotsIn i.w ax e.over := fun i => (show DotsIn W2 ax e.over by rw [hW2.out]; exact hda).kept i.h
 have D2 : ∀ i : After W2, DotsIn i.w ay f.over := fun i => (show DotsIn W2 ay f.over by rw [hW2.out]; exact hdb).kept i.h
 iterate 3 go_big_quiet_step (fail)
 revert W2 hW2 R1 R2 D1 D2
 exact kk.down) : p := h ⟨k⟩
theorem oW (a b : Option Addr) (ca cb : Nat) (l m : List bg) (w : World) (hl : l.length ≤ 1073741824) (hm : m.length ≤ 1073741824) (hsl : iq l) (hsm : iq m) (ha : EvsIn w a l) (hb : EvsIn w b m) :
 Calls Tryz.prog 40 #[.slice a l.length ca, .slice b m.length cb] w fun x w' => x = .returned (.bool (decide (aQ l = aQ m))) ∧ Below w.heap.size w w' := by
 by_cases hlen : l.length = m.length
 ·refine y22 ?_
  intro hb1 hb2 hl1 hl2
  clear hlen
  go_enter Tryz.func40, Tryz.ntmps40
  go_wp2
  go_loopw [5] (fun i wr => ∃ k : Nat, k ≤ l.length ∧ i = .int .i64 k ∧ (aQ l).take k = (aQ m).take k ∧ Below w.heap.size w wr) (fun i _ => l.length - (intOf i).toNat)
  case atStart => exact z145
  case round =>
   obtain ⟨k, hk, rfl, hpre, hbw⟩ := hrel
   have HP := Lib.hid hpre
   clear hpre
   have hzw := hbw.size
   by_cases hlt : k < l.length
   ·have hlm : k < m.length := by omega
    obtain ⟨A, off, rfl, hra, hda⟩ := (ha.kept hbw).at hlt
    obtain ⟨B, ofb, rfl, hrb, hdb⟩ := (hb.kept hbw).at hlm
    have r1 := hra k hlt
    have r2 := hrb k hlm
    have s1 := (hsl _ (List.getElem_mem hlt)).over
    have s2 := (hsm _ (List.getElem_mem hlm)).over
    have g1 := @oG l k hlt
    have g2 := @oG m k hlm
    have HN := fun he : l[k].1 = m[k].1 => Bc (k := k) (by rw [aJ]; exact hlt) (by rw [aJ]; exact hlm) HP.out (by rw [g1, g2]; exact he)
    have HD := fun he : ¬ l[k].1 = m[k].1 => decide_eq_false (Cm (k := k) (l := aQ l) (m := aQ m) (by rw [aJ]; exact hlt) (by rw [aJ]; exact hlm) (by rw [g1, g2]; exact he))
    clear hra hrb g1 g2 HP
    generalize l[k] = x at *
    generalize m[k] = y at *
    obtain ⟨e, ax, cx⟩ := x
    obtain ⟨f, ay, cy⟩ := y
    simp only [jP] at *
    have hS0 := fun (W : World) (h1 : DotsIn W ax e.over) (h2 : DotsIn W ay f.over) => Ei e f ax ay cx cy W s1 s2 h1 h2
    by_cases he : e = f
    ·have HE := Lib.hid (HN he)
     rw [decide_eq_true he] at hS0
     have HS := Lib.hid hS0
     clear hS0 he HN HD
     go_upto_region 6 with fail
     refine y31 ?_
     intro W2 hW2 R1 R2 D1 D2
     ((with_reducible refine jB _ A (off + k * 19) e ax cx R1 ?_ rfl ?_); exact rfl; go_simp)
     iterate 3 go_big_quiet_step (fail)
     ((with_reducible refine jB _ B (ofb + k * 19) f ay cy R2 ?_ rfl ?_); exact rfl; go_simp)
     go_big_quiet_step (exact Calls.after (HS.out _ (D1 _) (D2 _)))
     go_big_quiet_step (fail)
     refine wpQuiet_nil ?_
     first | (intro _ hi; obtain ⟨i, rfl⟩ := hi) | intro i
     have hib := i.h
     clear D1 D2 R1 R2
     generalize i.w = wi at hib ⊢
     rw [hW2.out] at hib
     go_wp2
     go_roundw
     case rel => exact ⟨k + 1, by omega, by go_num, HE.out, hbw.trans (hib.mono hzw)⟩
     case measure => exact z67
    ·have HE := Lib.hid (HD he)
     rw [decide_eq_false he] at hS0
     have HS := Lib.hid hS0
     clear hS0 he HN HD
     go_upto_region 6 with fail
     refine y31 ?_
     intro W2 hW2 R1 R2 D1 D2
     ((with_reducible refine jB _ A (off + k * 19) e ax cx R1 ?_ rfl ?_); exact rfl; go_simp)
     iterate 3 go_big_quiet_step (fail)
     ((with_reducible refine jB _ B (ofb + k * 19) f ay cy R2 ?_ rfl ?_); exact rfl; go_simp)
     go_big_quiet_step (exact Calls.after (HS.out _ (D1 _) (D2 _)))
     go_big_quiet_step (fail)
     refine wpQuiet_nil ?_
     first | (intro _ hi; obtain ⟨i, rfl⟩ := hi) | intro i
     have hib := i.h
     clear D1 D2 R1 R2
     generalize i.w = wi at hib ⊢
     rw [hW2.out] at hib
     go_wp2
     go_ret
     exact ⟨aB HE.out.symm, hbw.trans (hib.mono hzw)⟩
   ·have hlm : ¬ k < m.length := by omega
    have HE : Hid (decide (aQ l = aQ m) = true) := decide_eq_true (D8 (k := k) (by rw [aJ]; exact hlt) (by rw [aJ]; exact hlm) HP.out)
    go_wp2
    go_ret
    exact ⟨aB HE.out.symm, hbw⟩
 ·have HE : Hid (decide (aQ l = aQ m) = false) := decide_eq_false (Du (by rw [aJ, aJ]; exact hlen))
  refine y35 ?_
  intro hb1 hb2
  clear hlen
  go_enter Tryz.func40, Tryz.ntmps40
  exact z49
/-- few and short -/
def ig (n : Nat) (ls : List Ev) : Bool := decide (ls.length ≤ n) && ls.all lu
theorem DZ (a : Option Addr) (cap n : Nat) (l : List bg) (w : World) (hn : n ≤ 1073741824) (hl : l.length ≤ maxLen) (h : EvsIn w a l)
 (hs : ∀ x ∈ l, x.1.over.length ≤ maxLen ∧ x.1.key.name.size ≤ maxLen ∧ x.1.key.domain.size ≤ maxLen ∧ x.1.key.path.size ≤ maxLen ∧ x.1.ck.value.size ≤ maxLen) :
 Calls Tryz.prog 11 #[.slice a l.length cap, .int .i64 n] w fun x w' => x = .returned (.bool (ig n (aQ l))) ∧ Below w.heap.size w w' := by
 unfold maxLen at hl
 by_cases hle : l.length ≤ n
 ·have hdn : decide (n < l.length) = false := decide_eq_false (by omega)
  have hdi : decide ((n : Int) < (l.length : Int)) = false := decide_eq_false (by omega)
  have HV : Hid (ig n (aQ l) = (aQ l).all lu) := by unfold Hid ig; rw [aJ, decide_eq_true hle]; rfl
  go_enter Tryz.func11, Tryz.ntmps11
  go_wp2
  go_loopw [5] (fun i wr => ∃ k : Nat, k ≤ l.length ∧ i = .int .i64 k ∧ ig n (aQ l) = ((aQ l).drop k).all lu ∧ Below w.heap.size w wr) (fun i _ => l.length - (intOf i).toNat)
  case atStart => exact ⟨0, Nat.zero_le _, rfl, HV.out, Below.refl _ _⟩
  case round =>
   obtain ⟨k, hk, rfl, hpre, hbw⟩ := hrel
   have HP := Lib.hid hpre
   clear hpre HV
   have hzw := hbw.size
   by_cases hlt : k < l.length
   ·obtain ⟨A, off, rfl, hra, hda⟩ := (h.kept hbw).at hlt
    have r1 := hra k hlt
    have g1 := @oG l k hlt
    have hd : (aQ l).drop k = l[k].1 :: (aQ l).drop (k + 1) := by rw [List.drop_eq_getElem_cons (by rw [aJ]; exact hlt), g1]
    obtain ⟨m1, m2, m3, m4, m5⟩ := hs _ (List.getElem_mem hlt)
    have HT : Hid (ig n (aQ l) = (lu l[k].1 && ((aQ l).drop (k + 1)).all lu)) := by rw [Hid, HP.out, hd, List.all_cons]
    clear hra g1 hd HP hda
    generalize l[k] = x at *
    obtain ⟨e, ax, cx⟩ := x
    simp only [jP] at *
    have hL0 := fun (W : World) => KZ e ax cx W m1 m2 m3 m4 m5
    cases hli : lu e with
    | true =>
      have HE : Hid (ig n (aQ l) = ((aQ l).drop (k + 1)).all lu) := by rw [Hid, HT.out, hli]; rfl
      rw [hli] at hL0
      have HL := Lib.hid hL0
      clear hL0 HT hli m1 m2 m3 m4 m5
      go_wp2_with (first
       | ((with_reducible refine aY _ A (off + k * 19) e ax cx r1 ?_ rfl ?_); exact rfl)
       | (go_at_call 47; (with_reducible refine (HL.out _).mono ?_); rintro v w1 ⟨rfl, hb⟩))
      go_roundw
      case rel => exact ⟨k + 1, by omega, by go_num, HE.out, hbw.trans (hb.mono hzw)⟩
      case measure => exact z67
    | false =>
      have HE : Hid (ig n (aQ l) = false) := by rw [Hid, HT.out, hli]; rfl
      rw [hli] at hL0
      have HL := Lib.hid hL0
      clear hL0 HT hli m1 m2 m3 m4 m5
      go_wp2_with (first
       | ((with_reducible refine aY _ A (off + k * 19) e ax cx r1 ?_ rfl ?_); exact rfl)
       | (go_at_call 47; (with_reducible refine (HL.out _).mono ?_); rintro v w1 ⟨rfl, hb⟩))
      go_ret
      exact ⟨aB HE.out.symm, hbw.trans (hb.mono hzw)⟩
   ·have HE : Hid (ig n (aQ l) = true) := by rw [Hid, HP.out, List.drop_eq_nil_of_le (by rw [aJ]; omega)]; rfl
    go_wp2
    go_ret
    exact ⟨aB HE.out.symm, hbw⟩
 ·have hdn : decide (n < l.length) = true := decide_eq_true (by omega)
  have hdi : decide ((n : Int) < (l.length : Int)) = true := decide_eq_true (by omega)
  have HE : Hid (ig n (aQ l) = false) := by unfold Hid ig; rw [aJ, decide_eq_false hle]; rfl
  go_enter Tryz.func11, Tryz.ntmps11
  exact z49
def aI (l : List Dot) : List Value := l.flatMap fun d => [.int .i64 d.a.dev, .int .i64 d.a.inc, .int .i64 d.seq]
theorem dQ : ∀ l : List Dot, (aI l).length = l.length * 3
 | [] => rfl
 | d :: l => by
   have := dQ l
   simp only [aI, List.flatMap_cons, List.length_append, List.length_cons, List.length_nil] at this ⊢
   omega
theorem dB (l : List Dot) : ∀ u ∈ aI l, u.oneCell' = true := by
 intro u hu
 simp only [aI, List.mem_flatMap, List.mem_cons, List.not_mem_nil, or_false] at hu
 obtain ⟨d, _, rfl | rfl | rfl⟩ := hu <;> rfl
theorem z59 {p : Prop} (h : p := by
 rw [e, List.getElem?_append_right (by simp; omega), List.getElem?_append_right (by simp; omega), List.getElem?_append_right (by simp; omega)]
 simp only [List.length_cons, List.length_nil, List.getElem_cons_succ]
 rw [show (i + 1) * 3 - (0 + 1 + 1 + 1) = i * 3 by omega, show (i + 1) * 3 + 1 - (0 + 1 + 1 + 1) = i * 3 + 1 by omega, show (i + 1) * 3 + 2 - (0 + 1 + 1 + 1) = i * 3 + 2 by omega]
 exact ih) : p := h
theorem gQ : ∀ (l : List Dot) (i : Nat) (h : i < l.length), (aI l)[i * 3]? = some (.int .i64 l[i].a.dev) ∧ (aI l)[i * 3 + 1]? = some (.int .i64 l[i].a.inc) ∧ (aI l)[i * 3 + 2]? = some (.int .i64 l[i].seq)
 | [], i, h => by simp at h
 | d :: l, 0, _ => by simp [aI]
 | d :: l, i + 1, h => by
   have ih := gQ l i (by simpa using h)
   have e : aI (d :: l) = [.int .i64 d.a.dev, .int .i64 d.a.inc, .int .i64 d.seq] ++ aI l := rfl
   exact z59
theorem DotsAt.news {w : World} {A off : Nat} {l : List Dot} (h : DotsAt w A off l) : ∀ j u, (aI l)[j]? = some u → w.cell? ((⟨A, off, none⟩ : Addr).add j) = some u := by
 intro j u hj
 have hlt : j < l.length * 3 := by
  have := (List.getElem?_eq_some_iff.1 hj).1
  rwa [dQ] at this
 obtain ⟨g0, g1, g2⟩ := gQ l (j / 3) (by omega)
 rw [Addr.add_mid]
 have h3 : j = j / 3 * 3 ∨ j = j / 3 * 3 + 1 ∨ j = j / 3 * 3 + 2 := by omega
 rcases h3 with e | e | e
 ·rw [← e, hj] at g0
  have := h.dev (j / 3) (by omega)
  rw [← e] at this
  rw [this, g0]
 ·rw [← e, hj] at g1
  have := h.inc (j / 3) (by omega)
  rw [Nat.add_assoc, ← e] at this
  rw [this, g1]
 ·rw [← e, hj] at g2
  have := h.seq (j / 3) (by omega)
  rw [Nat.add_assoc, ← e] at this
  rw [this, g2]
/-- what hands back dots in memory of its own -/
def OD (l : List Dot) (w : World) (e : Ending) (w' : World) : Prop :=
 ∃ v, e = .returned v ∧ w'.ownsRow w.heap.size 56 3 v l.length (aI l) ∧ Below w.heap.size w w'
theorem Tryz.infoDot : (Tryz.prog.info? 56).map (fun i => (i.zero, i.size, i.bytes)) = some (some (.agg #[.int .i64 0, .int .i64 0, .int .i64 0]), 3, 24) := by kernel_rfl
theorem z88 {p : Prop} (h : p := by
 intro j u hj
 rw [← htk, List.getElem?_take] at hj
 split at hj
 ·simp only [World.cell?, hg]
  simpa using hj
 ·cases hj) : p := h
theorem gy {w : World} {base : Nat} {v : Value} {l : List Dot} (h : w.ownsRow base 56 3 v l.length (aI l)) : ∃ a cap, v = .slice a l.length cap ∧ DotsIn w a l := by
 rcases h.2 with ⟨rfl, h0⟩ | ⟨g, cap, cur, rfl, _, hg, hn, _, hsz, htk⟩
 ·exact ⟨none, 0, by rw [h0], Or.inl (List.length_eq_zero_iff.1 h0)⟩
 ·have hcell : ∀ j u, (aI l)[j]? = some u → w.cell? ⟨g, j, none⟩ = some u := by
   exact z88
  refine ⟨_, cap, rfl, Or.inr ⟨g, 0, rfl, ⟨fun i hi => ?_, fun i hi => ?_, fun i hi => ?_⟩⟩⟩
  ·have := hcell _ _ (gQ l i hi).1; simpa using this
  ·have := hcell _ _ (gQ l i hi).2.1; simpa using this
  ·have := hcell _ _ (gQ l i hi).2.2; simpa using this
theorem Ba (a : Option Addr) (cap : Nat) (l : List Dot) (w : World) (hl : l.length ≤ 1073741824) (hn : a = none → l = []) (h : DotsIn w a l) :
 Calls Tryz.prog 118 #[.slice a l.length cap] w (OD l w) := by
 obtain ⟨i0, hi, hz0, hz1, hz2⟩ := info_parts Tryz.infoDot
 have hnil := fun (W : World) => Lib.run_eql_slice_nil (P := Tryz.prog) W 30 56 a l.length cap 0 0 Tryz.underlying30
 cases a with
 | none =>
   have hl0 : l = [] := hn rfl
   subst hl0
   simp only [List.length_nil] at hnil ⊢
   go_enter Tryz.func118, Tryz.ntmps118
   go_wp2
   go_ret
   exact ⟨_, rfl, World.ownsRow_nil _ _ _ _, Below.refl _ _⟩
 | some ad =>
   have hnews : ∀ j u, (aI l)[j]? = some u → w.cell? (ad.add j) = some u := by
    rcases h with rfl | ⟨A, off, h1, h2⟩
    ·intro j u hj; simp [aI] at hj
    ·obtain rfl : ad = ⟨A, off, none⟩ := by simpa using h1
     exact h2.news
   have HN : Hid (∀ j u, (aI l)[j]? = some u → (w.alloc (Obj.cells #[] 56)).cell? (ad.add j) = some u) := fun j u hj => kept ((Below.refl _ _).alloc (Nat.le_refl _) _) (hnews j u hj)
   have hown : (w.alloc (Obj.cells #[] 56)).ownsRow w.heap.size 56 3 (.slice (some ⟨w.heap.size, 0, none⟩) 0 0) 0 [] := World.ownsRow_made _ _ _ (Nat.le_refl _) (by decide) rfl
   have hbv := dQ l
   clear hnews h hn
   go_enter Tryz.func118, Tryz.ntmps118
   go_wp2_with (at_builtin; go_loud (refine wpList_append_own _ rfl _ _ 30 rfl w.heap.size 56 i0 (.agg #[.int .i64 0, .int .i64 0, .int .i64 0]) 3 24 Tryz.underlying30 hi hz0 hz1 hz2 rfl (by decide) _ _ _ rfl hown ad l.length cap (aI l) rfl hbv HN.out (dB l) (by unfold maxLen; omega) (by omega) (by simp) ?_))
   intro v' w2 hown2 hgrow _
   have hb2 := ((Below.refl w.heap.size w).alloc (Nat.le_refl _) (Obj.cells #[] 56)).grown hgrow (by simp) (fun k hk => (hown.lt k hk).1)
   go_wp2
   go_ret
   exact ⟨_, rfl, by simpa using hown2, hb2⟩
/-- behind event.Clone -/
def Ah (e : Ev) (w : World) (x : Ending) (w' : World) : Prop :=
 ∃ a cap, x = .returned (ja e a cap) ∧ w'.ownsRow w.heap.size 56 3 (.slice a e.over.length cap) e.over.length (aI e.over) ∧ Below w.heap.size w w'
theorem qF (e : Ev) (a : Option Addr) (cap : Nat) (w : World) (hl : e.over.length ≤ 1073741824) (hn : a = none → e.over = []) (h : DotsIn w a e.over) :
 Calls Tryz.prog 69 #[ja e a cap] w (Ah e w) := by
 have HC := Lib.hid (fun (W : World) (h : DotsIn W a e.over) => Ba a cap e.over W hl hn h)
 go_enter Tryz.func69, Tryz.ntmps69
 go_upto_region 1 with fail
 refine aX (fun W hW => ?_)
 have hbt : Below w.heap.size w W := by rw [hW.out]; go_grown
 have hz : W.heap.size = w.heap.size + 2 := by rw [hW.out]; simp
 have hR : W.rangeAt w.heap.size 0 (ah e a cap) := by rw [hW.out]; exact World.rangeAt_alloc (bY e a cap w _) _
 have hf : W.frozen? ⟨w.heap.size, 18, none⟩ = false := by rw [hW.out]; go_simp
 obtain ⟨C, hC, hCs⟩ : ∃ C : Array Value, W.heap[w.heap.size + 1]? = some (.cells C 64 (0, 0)) ∧ C.size = 19 := by rw [hW.out]; exact ⟨_, by simpa using heap_alloc_last (w.alloc _) _, rfl⟩
 have q18 := hR 18 _ rfl
 rw [Nat.zero_add] at q18
 have ho := h.kept hbt
 clear hW h hn
 go_upto_region 2 with (go_at_call 118; (with_reducible refine (HC.out _ ho).mono ?_); rintro x w1 ⟨v, rfl, hown, hb⟩; obtain ⟨a', cap', rfl, _⟩ := gy hown; replace q18 := kept hb q18; replace hR := aj hR hb; replace hf : w1.frozen? ⟨w.heap.size, 18, none⟩ = false := (hb.frozen (p := ⟨w.heap.size, 18, none⟩) (by simp only; omega)).trans hf; replace hC := (hb.block (w.heap.size + 1) (by omega)).trans hC; have hz1 := hb.size; replace hbt := below2 hbt hb; clear hb)
 refine aX (fun W2 hW2 => ?_)
 have hR2 : W2.rangeAt w.heap.size 0 (ah e a' cap') := by rw [hW2.out]; exact Jq hR
 have zH : Below w.heap.size w W2 := by rw [hW2.out]; exact hbt.setCell (by simp) _
 have hC2 : W2.heap[w.heap.size + 1]? = some (.cells C 64 (0, 0)) := by rw [hW2.out, heap_setCell_other _ _ _ _ (by simp)]; exact hC
 have hown2 : W2.ownsRow W.heap.size 56 3 (.slice a' e.over.length cap') e.over.length (aI e.over) := by rw [hW2.out]; exact Bv hown (fun k hk => heap_setCell_other _ _ _ _ (by simp only; omega))
 clear hW2 hR hbt hC hown hf q18
 go_wp2_with (first
  | ((with_reducible refine bi _ w.heap.size e a' cap' hR2 ?_ rfl ?_); exact rfl)
  | (refine wpList_store_row rfl 64 _ _ rfl (w.heap.size + 1) (ah e a' cap').toArray rfl rfl 64 C hC2 (by kernel_rfl) hCs (by kernel_rfl) ?_))
 refine fK 2 64 64 (w.heap.size + 1) (ah e a' cap').toArray _ rfl rfl (setRow_heap _ _ _ _ _ _ hC2) Tryz.underlying64 rfl (by kernel_rfl) rfl ?_
 exact ⟨a', cap', rfl, fH (Bv hown2 (fun k hk => bz _ _ _ _ (by omega))) (by omega), below_setRow zH (by omega) _⟩
/-- slices of events of one's own -/
def aU (l : List bg) : List Value := l.flatMap jP
theorem nK (x : Ev) (a : Option Addr) (cap : Nat) : (ah x a cap).length = 19 := rfl
theorem kQ (l : List bg) (x : bg) : aU (l ++ [x]) = aU l ++ jP x := by simp [aU]
theorem dn (x : Ev) (a : Option Addr) (cap : Nat) : ∀ u ∈ ah x a cap, u.oneCell' = true := by
 intro u hu
 simp only [ah, List.mem_cons, List.not_mem_nil, or_false] at hu
 rcases hu with rfl | rfl | rfl | rfl | rfl | rfl | rfl | rfl | rfl | rfl | rfl | rfl | rfl | rfl | rfl | rfl | rfl | rfl | rfl <;> rfl
theorem uz : ∀ (l : List bg) (i j : Nat) (u : Value) (hi : i < l.length), (jP l[i])[j]? = some u → (aU l)[i * 19 + j]? = some u
 | [], i, _, _, hi, _ => by simp at hi
 | x :: r, i, j, u, hi, h => by
   have e : aU (x :: r) = jP x ++ aU r := by simp [aU]
   have hj : j < 19 := by
     have := (List.getElem?_eq_some_iff.1 h).1
     rwa [nK] at this
   rw [e]
   cases i with
   | zero =>
     rw [List.getElem?_append_left (by rw [nK]; omega)]
     simpa using h
   | succ i =>
     rw [List.getElem?_append_right (by rw [nK]; omega), nK, show (i + 1) * 19 + j - 19 = i * 19 + j by omega]
     exact uz r i j u (by simpa using hi) (by simpa using h)
theorem iK {w : World} {base : Nat} {t : TypeId} {v : Value} {ls : List bg} (h : w.ownsRow base t 19 v ls.length (aU ls)) (hd : ∀ x ∈ ls, DotsIn w x.2.1 x.1.over) : ∃ a cap, v = .slice a ls.length cap ∧ EvsIn w a ls := by
 rcases h.2 with ⟨rfl, hn⟩ | ⟨g, cap, cur, hv, rest⟩
 ·have : ls = [] := List.length_eq_zero_iff.1 hn
  subst this
  exact ⟨none, 0, rfl, ⟨Or.inl rfl, hd⟩⟩
 ·refine ⟨some ⟨g, 0, none⟩, cap, hv, ⟨Or.inr ⟨g, 0, rfl, fun i hi j u hu => ?_⟩, hd⟩⟩
  have := World.ownsRow.cells (g := g) h (by rw [hv]; rfl) (i * 19 + j) u (uz ls i j u hi hu)
  rw [Addr.add_mid, Nat.zero_add] at this
  rwa [Nat.zero_add]
theorem z118 {p : Prop} (h : p := by
 intro j u hj
 rw [Addr.add_mid, Nat.zero_add, World.cell?_alloc_new]
 simpa using hj) : p := h
theorem uw (w : World) (x : Ev) (a : Option Addr) (c : Nat) (t : TypeId) : ∀ j u, (ah x a c)[j]? = some u → (w.alloc (Obj.cells (ah x a c).toArray t)).cell? ((⟨w.heap.size, 0, none⟩ : Addr).add j) = some u := by
 exact z118
theorem Tryz.infoEv : (Tryz.prog.info? 64).map (fun i => (i.zero, i.size, i.bytes)) = some (some (.agg (ah ev0 none 0).toArray), 19, 176) := by kernel_rfl
/-- events that grow in a row of one's own, each one's dots in a row of dots -/
structure EvsGr (base : Nat) (v : Value) (ls : List bg) (W : World) : Prop where
 own : W.ownsRow base 64 19 v ls.length (aU ls)
 dots : ∀ x ∈ ls, DotsIn W x.2.1 x.1.over
 typ : ∀ x ∈ ls, x.1.over = [] ∨ ∃ A off cs f, x.2.1 = some ⟨A, off, none⟩ ∧ W.heap[A]? = some (.cells cs 56 f)
theorem EvsGr.nil (base : Nat) (W : World) : EvsGr base (.slice none 0 0) [] W := ⟨World.ownsRow_nil _ _ _ _, fun x hx => (nomatch hx), fun x hx => (nomatch hx)⟩
theorem EvsGr.kept {base : Nat} {v : Value} {ls : List bg} {w w' : World} (h : EvsGr base v ls w) (hb : Below w.heap.size w w') : EvsGr base v ls w' :=
 ⟨ownsRow_below h.own hb, fun x hx => (h.dots x hx).kept hb, fun x hx => (h.typ x hx).imp id fun ⟨A, off, cs, f, h1, h2⟩ => ⟨A, off, cs, f, h1, (hb.block A (lt_of_block h2)).trans h2⟩⟩
theorem EvsGr.app {base : Nat} {v v2 : Value} {ls : List bg} {x : bg} {w w2 : World} (h : EvsGr base v ls w) (hown : w2.ownsRow base 64 19 v2 (ls.length + 1) (aU ls ++ jP x)) (hg : w.grownBy w2 v.ownBlock)
 (hd : DotsIn w x.2.1 x.1.over) (ht : x.1.over = [] ∨ ∃ A off cs f, x.2.1 = some ⟨A, off, none⟩ ∧ w.heap[A]? = some (.cells cs 56 f)) : EvsGr base v2 (ls ++ [x]) w2 := by
 have hne : ∀ (A : Nat) (cs : Array Value) (f : Nat × Nat), w.heap[A]? = some (Obj.cells cs 56 f) → w2.heap[A]? = w.heap[A]? := fun A cs f hA => hg.block A (lt_of_block hA) (fun e => by
  rcases h.own.2 with ⟨rfl, _⟩ | ⟨g, cap, cur, rfl, _, hgb, _⟩
  ·simp [Value.ownBlock] at e
  ·obtain rfl : A = g := by simpa [Value.ownBlock] using e
   rw [hA] at hgb
   simp only [Option.some.injEq, Obj.cells.injEq] at hgb
   exact absurd hgb.2.1 (by decide))
 have key : ∀ y : bg, DotsIn w y.2.1 y.1.over → (y.1.over = [] ∨ ∃ A off cs f, y.2.1 = some ⟨A, off, none⟩ ∧ w.heap[A]? = some (.cells cs 56 f)) → DotsIn w2 y.2.1 y.1.over ∧ (y.1.over = [] ∨ ∃ A off cs f, y.2.1 = some ⟨A, off, none⟩ ∧ w2.heap[A]? = some (.cells cs 56 f)) := by
  intro y h1 h2
  rcases h2 with h2 | ⟨A, off, cs, f, h3, h4⟩
  ·exact ⟨Or.inl h2, Or.inl h2⟩
  ·have hE := hne A cs f h4
   refine ⟨?_, Or.inr ⟨A, off, cs, f, h3, hE.trans h4⟩⟩
   rcases h1 with h1 | ⟨A', off', h5, h6⟩
   ·exact Or.inl h1
   ·rw [h3] at h5
    simp only [Option.some.injEq, Addr.mk.injEq, and_true] at h5
    obtain ⟨rfl, rfl⟩ := h5
    exact Or.inr ⟨A, off, h3, ⟨fun i hi => (World.cell?_of_block hE).trans (h6.dev i hi), fun i hi => (World.cell?_of_block hE).trans (h6.inc i hi), fun i hi => (World.cell?_of_block hE).trans (h6.seq i hi)⟩⟩
 have hall : ∀ y ∈ ls ++ [x], _ := fun y hy => key y (by
  rcases List.mem_append.1 hy with hy | hy
  ·exact h.dots y hy
  ·simp only [List.mem_singleton] at hy; subst hy; exact hd) (by
  rcases List.mem_append.1 hy with hy | hy
  ·exact h.typ y hy
  ·simp only [List.mem_singleton] at hy; subst hy; exact ht)
 exact ⟨by rw [kQ, List.length_append]; exact hown, fun y hy => (hall y hy).1, fun y hy => (hall y hy).2⟩
theorem EvsGr.evs {base : Nat} {v : Value} {ls : List bg} {w : World} (h : EvsGr base v ls w) : ∃ a cap, v = .slice a ls.length cap ∧ EvsIn w a ls := iK h.own h.dots
/-- a row of dots of one's own: its block's type -/
theorem IL {w : World} {base c n : Nat} {a : Option Addr} {l : List Dot} (h : w.ownsRow base 56 3 (.slice a n c) n (aI l)) (hn : n = l.length) : DotsIn w a l ∧ (l = [] ∨ ∃ A off cs f, a = some ⟨A, off, none⟩ ∧ w.heap[A]? = some (.cells cs 56 f)) := by
 subst hn
 obtain ⟨a', c', he, hd⟩ := gy h
 simp only [Value.slice.injEq] at he
 refine ⟨by rw [he.1]; exact hd, ?_⟩
 rcases h.2 with ⟨_, h0⟩ | ⟨g, cap, cur, hv, _, hg, _⟩
 ·exact Or.inl (List.length_eq_zero_iff.1 h0)
 ·simp only [Value.slice.injEq] at hv
  exact Or.inr ⟨g, 0, cur, _, hv.1, hg⟩
end Go.Proofs.YtdlmbflhbecggaaGreat
