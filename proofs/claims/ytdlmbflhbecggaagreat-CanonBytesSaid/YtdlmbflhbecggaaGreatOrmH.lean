/- The map of events: Apply. Conditions: as in the text. -/
import Derived.Test.YtdlmbflhbecggaaGreatOrmD
import Derived.Test.YtdlmbflhbecggaaGreatLoad
import Derived.Test.YtdlmbflhbecggaaGreatClone
import Derived.Great.BuildSlice
set_option linter.unusedSimpArgs false
set_option linter.unusedVariables false
set_option linter.unnecessarySimpa false
set_option maxHeartbeats 16000000
set_option maxRecDepth 100000
namespace Go.Proofs.YtdlmbflhbecggaaGreat
open Go.RowKit
def jJ (s : MS) (e : Ev) : Bool := cu e && (!iw s.ctx e.dot && (decide (eY s.ctx e.dot.a + 1 = e.dot.seq) && decide (s.K.length < 2048)))
def kR (s : MS) (e : Ev) : Int := if cu e = true then (if iw s.ctx e.dot = true then 0 else if eY s.ctx e.dot.a + 1 = e.dot.seq then (if s.K.length < 2048 then 0 else 9) else 6) else 1
/-- the alive dots as soon as an event is kept -/
def o5 (s : MS) (e : Ev) : List (Key × Dot) := if e.kind = 1 ∧ e.dot ∉ s.dead then (e.key, e.dot) :: s.pairs else s.pairs
theorem zM {l : List Dot} (h : ∀ d ∈ l, bu d = true) (a : Actor) : 0 ≤ eY l a ∧ eY l a ≤ 4294967296 := by
 cases hf : l.find? fun d => decide (d.a = a) with
 | none => rw [(vJ hf).1]; omega
 | some d =>
   obtain ⟨h1, h2, _⟩ := vH hf
   have := h d h2
   simp only [bu, Bool.and_eq_true, decide_eq_true_eq] at this
   omega
structure Applied (s : MS) (e : Ev) (s' : MS) : Prop where
 ctx : s'.ctx = setM s.ctx e.dot.a e.dot.seq
 kept : ∃ a c, s'.K.Perm ((e, a, c) :: s.K)
 dead : s'.dead = e.over.foldl (fun l d => lK d l) s.dead
 pairs : s'.pairs = e.over.foldl strike (o5 s e)
/-- what holds of every map -/
structure MInv (s : MS) : Prop where
 ctx : nY s.ctx
 ctxOk : ∀ d ∈ s.ctx, bu d = true
 kept : ∀ x ∈ s.K, cu x.1 = true ∧ iw s.ctx x.1.dot = true
 pairs : ∀ k d, (k, d) ∈ s.pairs ↔ ∃ x ∈ s.K, x.1.kind = 1 ∧ x.1.dot = d ∧ x.1.key = k ∧ d ∉ s.dead
 pnd : s.pairs.Nodup
 dead : ∀ d ∈ s.dead, bu d = true
 len : s.K.length ≤ 2048
/-- an event's dots lie in a block of dots -/
def TypD (w : World) (e : Ev) (a : Option Addr) : Prop := e.over = [] ∨ ∃ A off cs f, a = some ⟨A, off, none⟩ ∧ w.heap[A]? = some (.cells cs 56 f)
theorem TypD.kept {w w' : World} {e : Ev} {a : Option Addr} (h : TypD w e a) (hb : Below w.heap.size w w') : TypD w' e a := h.imp id fun ⟨A, off, cs, f, h1, h2⟩ => ⟨A, off, cs, f, h1, (hb.block A (lt_of_block h2)).trans h2⟩
theorem TypD.keepC {w w' : World} {e : Ev} {a : Option Addr} (h : TypD w e a) (hk : KeepsC w w') : TypD w' e a := h.imp id fun ⟨A, off, cs, f, h1, h2⟩ => ⟨A, off, cs, f, h1, hk _ _ _ _ h2⟩
def RetAp (m : Nat) (b : MB) (s : MS) (e : Ev) (w : World) (x : Ending) (w' : World) : Prop :=
 ∃ s', x = .returned (.tuple #[.bool (jJ s e), .int .i64 (kR s e)]) ∧ MpIn w' m b s' ∧ Fr (foot b s.A) w w' ∧ (∀ k, foot b s'.A k → foot b s.A k ∨ w.heap.size ≤ k) ∧ (if jJ s e = true then Applied s e s' else s' = s)
/-- and a new kept event's dots lie in a block of dots -/
def Qe (m : Nat) (b : MB) (s : MS) (e : Ev) (w : World) (x : Ending) (w' : World) : Prop :=
 ∃ s', x = .returned (.tuple #[.bool (jJ s e), .int .i64 (kR s e)]) ∧ MpIn w' m b s' ∧ Fr (foot b s.A) w w' ∧ (∀ k, foot b s'.A k → foot b s.A k ∨ w.heap.size ≤ k) ∧ (if jJ s e = true then Applied s e s' else s' = s) ∧ ∀ x ∈ s'.K, x ∈ s.K ∨ TypD w' x.1 x.2.1
theorem EE {d : Dot} : ∀ {l : List Dot} {p : Option Dot}, di d p l = true → ∀ x ∈ l, bu x = true
 | [], _, _, x, hx => by simp at hx
 | y :: l, p, h, x, hx => by
   unfold di at h
   rw [Bool.and_eq_true] at h
   rcases List.mem_cons.1 hx with rfl | hx
   ·have := h.1
    unfold jS at this
    rw [Bool.and_eq_true] at this
    exact this.1
   ·exact EE h.2 x hx
theorem dN {e : Ev} (h : cu e = true) : bu e.dot = true ∧ (∀ d ∈ e.over, bu d = true) ∧ e.over.length ≤ 64 ∧ KeyW e.key ∧ (e.kind = 1 ∨ e.kind = 2) := by
 unfold cu at h
 simp only [Bool.and_eq_true, decide_eq_true_eq] at h
 obtain ⟨h1, _, _, h4, h5⟩ := h
 unfold overOk at h4
 simp only [Bool.and_eq_true, decide_eq_true_eq] at h4
 refine ⟨h1, EE h4.2, h4.1, ?_⟩
 unfold kindOk at h5
 by_cases hk2 : e.kind = 2
 ·rw [if_pos hk2] at h5
  simp only [Bool.and_eq_true, decide_eq_true_eq] at h5
  obtain ⟨⟨h6, _⟩, _⟩ := h5
  rw [h6]
  exact ⟨⟨Nat.zero_le _, Nat.zero_le _, Nat.zero_le _⟩, Or.inr hk2⟩
 ·rw [if_neg hk2] at h5
  by_cases hk1 : e.kind = 1
  ·rw [if_pos hk1] at h5
   unfold gp kH fC fZ at h5
   simp only [Bool.and_eq_true, decide_eq_true_eq, au] at h5
   obtain ⟨_, ⟨hn, _⟩, ⟨hv, _⟩, ⟨hd, _⟩, ⟨_, _, hp⟩, _⟩ := h5
   exact ⟨⟨by unfold maxLen; omega, by unfold maxLen; omega, by unfold maxLen; omega⟩, Or.inl hk1⟩
  ·rw [if_neg hk1] at h5
   cases h5
theorem oh {α : Type} : ∀ {l m : List α}, l.Nodup → (∀ x ∈ l, x ∈ m) → l.length ≤ m.length
 | [], _, _, _ => Nat.zero_le _
 | x :: l, m, hn, hs => by
   obtain ⟨h1, h2⟩ := List.nodup_cons.1 hn
   obtain ⟨r, hr⟩ := jV (hs x List.mem_cons_self)
   have h3 : ∀ y ∈ l, y ∈ r := fun y hy => by
     rcases List.mem_cons.1 (hr.mem_iff.1 (hs y (List.mem_cons_of_mem _ hy))) with rfl | h
     ·exact absurd hy h1
     ·exact h
   have h4 := oh h2 h3
   have h5 := hr.length_eq
   simp only [List.length_cons] at h5 ⊢
   omega
theorem MInv.bounds {w : World} {m : Nat} {b : MB} {s : MS} (hi : MInv s) (h : MpIn w m b s) : s.A.length ≤ 2048 ∧ ∀ k, (atK s.pairs k).length ≤ 2048 := by
 have hp : s.pairs.length ≤ 2048 := by
  have h1 : (s.pairs.map (·.2)).Nodup := by
   rw [List.Nodup, List.pairwise_map]
   refine hi.pnd.imp_of_mem fun {x y} hx hy hne e => hne ?_
   obtain ⟨z, hz, _, hz2, hz3, _⟩ := (hi.pairs x.1 x.2).1 hx
   obtain ⟨z', hz', _, hz2', Sm, _⟩ := (hi.pairs y.1 y.2).1 hy
   have : z = z' := by
        have hap := List.pairwise_map.1 h.kept.apart
        obtain ⟨i, hi2, rfl⟩ := List.getElem_of_mem hz
        obtain ⟨j, hj2, rfl⟩ := List.getElem_of_mem hz'
        have hh := List.pairwise_iff_getElem.1 hap
        have e1 : s.K[i].1.dot = s.K[j].1.dot := by rw [hz2, hz2', e]
        rcases Nat.lt_trichotomy i j with hij | hij | hij
        ·exact absurd e1 (hh i j hi2 hj2 hij)
        ·subst hij; rfl
        ·exact absurd e1.symm (hh j i hj2 hi2 hij)
   subst this
   exact Prod.ext (by rw [← hz3, ← Sm]) e
  have h2 := oh h1 (m := s.K.map (·.1.dot)) fun d hd => by
   obtain ⟨q, hq, rfl⟩ := List.mem_map.1 hd
   obtain ⟨z, hz, _, hz2, _⟩ := (hi.pairs q.1 q.2).1 hq
   exact List.mem_map.2 ⟨z, hz, hz2⟩
  rw [List.length_map, List.length_map] at h2
  exact Nat.le_trans h2 hi.len
 refine ⟨?_, fun k => ?_⟩
 ·have h1 : (s.A.map (·.1)).Nodup := List.pairwise_map.2 h.alive.apart
  have h2 := oh h1 (m := s.pairs.map (·.1)) fun k hk => by
   obtain ⟨p, hp, rfl⟩ := List.mem_map.1 hk
   obtain ⟨d, hd⟩ := List.exists_mem_of_ne_nil _ (h.some p hp)
   exact List.mem_map.2 ⟨(p.1, d), gX.1 hd, rfl⟩
  rw [List.length_map, List.length_map] at h2
  omega
 ·unfold atK
  rw [List.length_map]
  exact Nat.le_trans (List.length_filter_le _ _) hp
theorem MpIn.setCtx {w w' : World} {m : Nat} {b : MB} {s : MS} {l : List Dot} (h : MpIn w m b s) (ht : VecIn w' b.v b.vb l) (hf : Fr (isR b.vb) w w') : MpIn w' m b { s with ctx := l } := by
 obtain ⟨n1, n2, n3, n4, n5, n6, n7, n8⟩ := jd h.nodup
 have hK := h.keeps hf (fun i hi => by subst hi; exact uo b _)
 exact ⟨hK _ _ _ _ h.cell, ht, h.kept.fr hf n3, fun x hx => hK.dots (h.overs x hx), h.dead.fr hf n6, h.alive.fr hf n5, fun p hp => (h.inner p hp).fr hf (n7 p hp).2.2.2.symm, h.some, h.keys, h.nodup⟩
theorem MpIn.setKept {w w' : World} {m : Nat} {b : MB} {s : MS} {K : List bg} (h : MpIn w m b s) (ht : KTab w' b.kb K) (ho : ∀ x ∈ K, DotsIn w' x.2.1 x.1.over) (hf : Fr (isR b.kb) w w') : MpIn w' m b { s with K := K } := by
 obtain ⟨n1, n2, n3, n4, n5, n6, n7, n8⟩ := jd h.nodup
 have hK := h.keeps hf (fun i hi => by subst hi; exact kL b _)
 exact ⟨hK _ _ _ _ h.cell, ⟨hK _ _ _ _ h.vec.cell, h.vec.tab.fr hf (Ne.symm n3)⟩, ht, ho, h.dead.fr hf (Ne.symm n2), h.alive.fr hf (Ne.symm n1), fun p hp => (h.inner p hp).fr hf (n7 p hp).1.symm, h.some, h.keys, h.nodup⟩
theorem kC : ∀ (l dead : List Dot), (l.foldl (fun l d => lK d l) dead).length ≤ dead.length + l.length
 | [], dead => by simp
 | d :: l, dead => by
   have h1 := kC l (lK d dead)
   have h2 : (lK d dead).length ≤ dead.length + 1 := by unfold lK; split <;> simp
   simp only [List.foldl_cons, List.length_cons]
   omega
theorem qy : ∀ (l : List Dot) {P : List (Key × Dot)} {q : Key × Dot}, q ∈ l.foldl strike P → q ∈ P
 | [], _, _, h => h
 | _ :: l, _, _, h => pY (qy l h)
theorem z15 {p : Prop} (h : p := by (rintro w hSw; have s0 := kept hSw z0; have s1 := kept hSw z1; have s2 := kept hSw z2; have s3 := kept hSw z3; go_simp; try with_reducible rfl)) : p := h
theorem z78 {p : Prop} (h : p := by
 unfold Hid
 rw [List.take_add_one, List.getElem?_eq_getElem hlt]
 rfl) : p := h
theorem z65 {p : Prop} (h : p := by
 obtain ⟨q1, q2, q3⟩ := HZ.out
 obtain ⟨p1, p2, p3⟩ := HKK.out
 have hX1 : Fr (foot b s.A) w Wx := p2.again (Fr.of_below hbx)
 refine ⟨k + 1, A3, by go_num, HLT.out, ?_, ?_, hX1.trans (q2.mono fun i _ hi => (p3 i hi)), fun i hi => ?_⟩
 ·rw [HT.out, List.foldl_append, List.foldl_append]
  exact q1
 ·exact (p1.trans (KeepsC.of_below hbx)).trans ((HMK.out.kept_w hbx).keeps q2 (fun _ h => h))
 ·rcases q3 i hi with h | h
  ·exact p3 i h
  ·exact Or.inr (by have := hbx.size; omega)) : p := h
theorem z64 {p : Prop} (h : p := by have := HLT.out; simp [intOf] <;> omega) : p := h
theorem y42 {p q : Prop} (k : q) (h : PLift q → p := by
 intro kk
 refine aX (fun Wx hWx => ?_)
 have hbx : Below wr.heap.size wr Wx := by rw [hWx.out]; go_grown
 have y0 : Wx.cell? ⟨wr.heap.size, 0, none⟩ = some (.int .i64 d.a.dev) := by rw [hWx.out]; go_simp
 have y1 : Wx.cell? ⟨wr.heap.size, 1, none⟩ = some (.int .i64 d.a.inc) := by rw [hWx.out]; go_simp
 have y2 : Wx.cell? ⟨wr.heap.size, 2, none⟩ = some (.int .i64 d.seq) := by rw [hWx.out]; go_simp
 revert Wx hWx hbx y0 y1 y2
 exact kk.down) : p := h ⟨k⟩
theorem y75 {p q : Prop} (k : q) (h : PLift q → p := by
 intro kk
 have HKL := Lib.hid (fun (X : World) (hX : Below wr.heap.size wr X) => Md d hdw X (hMk.kept_w hX) Tc.out (fun k' hk' => by obtain ⟨x, h1, h2, h3, h4⟩ := HP0.out _ (qy _ hk'); exact ⟨x, h1, h2, h3, h4⟩) Hu)
 revert HKL
 exact kk.down) : p := h ⟨k⟩
theorem z9 {p : Prop} (h : p := by
 obtain ⟨k, A1, rfl, hk, hMk, hKk, hfk, Hm⟩ := hrel
 have HKK := Lib.hid (And.intro hKk (And.intro hfk Hm))
 have HMK := Lib.hid hMk
 by_cases hlt : k < e.over.length
 ·have hzw : w.heap.size ≤ wr.heap.size := hfk.size
  obtain ⟨A2, off, rfl, c0, c1, c2⟩ := (hKk.dots HN7.out.2.1).at hlt
  have hdw : DotW e.over[k] := gW (HOV.out _ (List.getElem_mem hlt))
  have HT : Hid (e.over.take (k + 1) = e.over.take k ++ [e.over[k]]) := by
   exact z78
  have Hu : ((e.over.take k).foldl (fun l d => lK d l) s.dead).length ≤ 1073741824 := by
   have h1 := kC (e.over.take k) s.dead
   rw [List.length_take] at h1
   omega
  have HLT := Lib.hid hlt
  generalize e.over[k] = d at c0 c1 c2 hdw HT
  refine y75 ?_
  intro HKL
  clear hMk hKk hfk Hm hlt
  go_upto_region 18 with fail
  refine y42 ?_
  intro Wx hWx hbx y0 y1 y2
  clear hWx c0 c1 c2
  go_wp2_with (go_at_call 104; (with_reducible refine (HKL.out _ hbx).mono ?_); rintro x wk ⟨rfl, A3, hM3, hf3, MP⟩)
  have HZ := Lib.hid (And.intro hM3 (And.intro hf3 MP))
  clear hM3 hf3 MP y0 y1 y2
  go_roundw
  case rel =>
   exact z65
  case measure => exact z64
 ·obtain rfl : k = e.over.length := by omega
  clear hKk hfk Hm hMk
  go_wp2
  all_goals
   go_ret2
   obtain ⟨p1, p2, p3⟩ := HKK.out
   exact ⟨⟨setM s.ctx e.dot.a e.dot.seq, (e, a5, c5) :: s.K, e.over.foldl (fun l d => lK d l) s.dead, A1, e.over.foldl strike (s.pairs)⟩, by rw [HE1.out, HE2.out]; rfl, by have := HMK.out; rw [List.take_length] at this; exact this, p2, p3, by rw [HE1.out, if_pos rfl]; exact ⟨rfl, ⟨a5, c5, List.Perm.refl _⟩, rfl, by rw [HP.out]⟩, fun x hx => (List.mem_cons.1 hx).elim (fun h => Or.inr (by rw [h]; exact HTY.out.keepC p1)) Or.inl⟩) : p := h
theorem EK {m : Nat} {b : MB} {s : MS} (e : Ev) (a : Option Addr) (cap : Nat) (w : World) (h : MpIn w m b s) (hi : MInv s) (hs : EvSmall e) (hin : DotsIn w a e.over) (hn0 : a = none → e.over = []) (hcl : s.ctx.length ≤ 536870912) (hdl : s.dead.length ≤ 536870912) :
 Calls Tryz.prog 48 #[.pointer (some ⟨m, 0, none⟩), ja e a cap] w (Qe m b s e w) := by
 have HH := Lib.hid h
 have HI := Lib.hid hi
 have hbd := hi.bounds h
 have HR0 := fun (X : World) (h : DotsIn X a e.over) => fP e a cap X hs h
 go_enter Tryz.func48, Tryz.ntmps48
 go_upto_region 3 with fail
 refine aX (fun W hW => ?_)
 have hbw : Below w.heap.size w W := by rw [hW.out]; go_grown
 have hR : W.rangeAt w.heap.size 0 (ah e a cap) := by rw [hW.out]; exact bY e a cap w _
 have hin1 := hin.kept hbw
 have HRR := Lib.hid hR
 clear hW
 cases hok : cu e with
 | false =>
   have HE1 : Hid (jJ s e = false) := by unfold Hid jJ; rw [hok]; rfl
   have HE2 : Hid (kR s e = 1) := by unfold Hid kR; rw [hok]; rfl
   rw [hok] at HR0
   have HR := Lib.hid HR0
   clear HR0 hok h hi hs hn0
   go_upto_region 4 with (first
    | ((with_reducible refine bi _ w.heap.size e a cap hR ?_ rfl ?_); exact rfl)
    | (go_at_call 64; (with_reducible refine (HR.out _ hin1).mono ?_); rintro x w1 ⟨rfl, hb1⟩))
   have hbt := below2 hbw hb1
   clear hR hin hin1
   go_wp2
   all_goals
    go_ret2
    exact ⟨s, by rw [HE1.out, HE2.out]; rfl, HH.out.kept_w hbt, Fr.of_below hbt, fun k hk => Or.inl hk, by rw [HE1.out]; rfl, fun x hx => Or.inl hx⟩
 | true =>
   obtain ⟨hdo, hov, hol, hkw, hkd⟩ := dN hok
   rw [hok] at HR0
   have HR := Lib.hid HR0
   have HV := Lib.hid (fun (X : World) (h : VecIn X b.v b.vb s.ctx) => yc e.dot X h)
   clear HR0
   go_upto_region 5 with (first
    | ((with_reducible refine bi _ w.heap.size e a cap hR ?_ rfl ?_); exact rfl)
    | (go_at_call 64; (with_reducible refine (HR.out _ hin1).mono ?_); rintro x w1 ⟨rfl, hb1⟩))
   have PT := below2 hbw hb1
   have hR1 := aj hR hb1
   have h1 := h.kept_w PT
   have v0 : w1.cell? ⟨w.heap.size, 0, none⟩ = some (.int .i64 e.dot.a.dev) := by have := hR1 0 _ rfl; rwa [Nat.zero_add] at this
   have v1 : w1.cell? ⟨w.heap.size, 1, none⟩ = some (.int .i64 e.dot.a.inc) := by have := hR1 1 _ rfl; rwa [Nat.zero_add] at this
   have v2 : w1.cell? ⟨w.heap.size, 2, none⟩ = some (.int .i64 e.dot.seq) := by have := hR1 2 _ rfl; rwa [Nat.zero_add] at this
   have v6 : w1.cell? ⟨w.heap.size, 6, none⟩ = some (.int .i64 e.kind) := by have := hR1 6 _ rfl; rwa [Nat.zero_add] at this
   have v7 : w1.cell? ⟨w.heap.size, 7, none⟩ = some (.string e.key.name) := by have := hR1 7 _ rfl; rwa [Nat.zero_add] at this
   have v8 : w1.cell? ⟨w.heap.size, 8, none⟩ = some (.string e.key.domain) := by have := hR1 8 _ rfl; rwa [Nat.zero_add] at this
   have v9 : w1.cell? ⟨w.heap.size, 9, none⟩ = some (.string e.key.path) := by have := hR1 9 _ rfl; rwa [Nat.zero_add] at this
   have y3 := (bZ h1.cell).2.2.2
   have x0 := fun i : After w1 => i.cell v0
   have x1 := fun i : After w1 => i.cell v1
   have x2 := fun i : After w1 => i.cell v2
   have xm := fun i : After w1 => i.cell y3
   have hgb : 0 ≤ eY s.ctx e.dot.a ∧ eY s.ctx e.dot.a ≤ 4294967296 := zM HI.out.ctxOk _
   clear hR hin hR1 h hi
   cases hh : iw s.ctx e.dot with
   | true =>
     have HE1 : Hid (jJ s e = false) := by unfold Hid jJ; rw [hok, hh]; rfl
     have HE2 : Hid (kR s e = 0) := by unfold Hid kR; rw [if_pos hok, if_pos hh]
     rw [hh] at HV
     clear hok hh
     refine aH (by kernel_rfl) (by kernel_rfl) (fun W2 hW2 => ?_)
     rw [hW2.out]
     clear hW2
     iterate 6 go_big_quiet_step (fail)
     go_big_quiet_step (exact Calls.after (HV.out _ (h1.vec.kept (After.h _))))
     go_big_quiet_step (fail)
     refine wpQuiet_nil ?_
     rintro _ ⟨i, rfl⟩
     have hib := i.h
     generalize i.w = wi at hib ⊢
     have hbt := below2 PT hib
     go_wp2
     all_goals
        go_ret2
        exact ⟨s, by rw [HE1.out, HE2.out]; rfl, HH.out.kept_w hbt, Fr.of_below hbt, fun k hk => Or.inl hk, by rw [HE1.out]; rfl, fun x hx => Or.inl hx⟩
   | false =>
     rw [hh] at HV
     have HHH := Lib.hid hh
     clear hh
     refine aH (by kernel_rfl) (by kernel_rfl) (fun W2 hW2 => ?_)
     rw [hW2.out]
     clear hW2
     iterate 6 go_big_quiet_step (fail)
     go_big_quiet_step (exact Calls.after (HV.out _ (h1.vec.kept (After.h _))))
     go_big_quiet_step (fail)
     refine wpQuiet_nil ?_
     rintro _ ⟨i, rfl⟩
     have hib := i.h
     generalize i.w = wi at hib ⊢
     have zH := below2 PT hib
     have h2 := h1.kept_w hib
     have hin2 := (hin1.kept hb1).kept hib
     have hR2 := aj (aj (show W.rangeAt _ _ _ from HRR.out) hb1) hib
     have HG := Lib.hid (fun (X : World) (h : VecIn X b.v b.vb s.ctx) => yf e.dot.a (gW hdo).a X h)
     clear x0 x1 x2 xm v0 v1 v2 v6 v7 v8 v9 y3 h1 hin1
     generalize wi = w2 at *
     have v0 : w2.cell? ⟨w.heap.size, 0, none⟩ = some (.int .i64 e.dot.a.dev) := by have := hR2 0 _ rfl; rwa [Nat.zero_add] at this
     have v1 : w2.cell? ⟨w.heap.size, 1, none⟩ = some (.int .i64 e.dot.a.inc) := by have := hR2 1 _ rfl; rwa [Nat.zero_add] at this
     have v2 : w2.cell? ⟨w.heap.size, 2, none⟩ = some (.int .i64 e.dot.seq) := by have := hR2 2 _ rfl; rwa [Nat.zero_add] at this
     have v6 : w2.cell? ⟨w.heap.size, 6, none⟩ = some (.int .i64 e.kind) := by have := hR2 6 _ rfl; rwa [Nat.zero_add] at this
     have v7 : w2.cell? ⟨w.heap.size, 7, none⟩ = some (.string e.key.name) := by have := hR2 7 _ rfl; rwa [Nat.zero_add] at this
     have v8 : w2.cell? ⟨w.heap.size, 8, none⟩ = some (.string e.key.domain) := by have := hR2 8 _ rfl; rwa [Nat.zero_add] at this
     have v9 : w2.cell? ⟨w.heap.size, 9, none⟩ = some (.string e.key.path) := by have := hR2 9 _ rfl; rwa [Nat.zero_add] at this
     have y3 := (bZ h2.cell).2.2.2
     go_upto_region 7 with fail
     have x0 := fun i : After w2 => i.cell v0
     have x1 := fun i : After w2 => i.cell v1
     have x2 := fun i : After w2 => i.cell v2
     have xm := fun i : After w2 => i.cell y3
     have hwr : IntKind.i64.wrap (eY s.ctx e.dot.a + 1) = eY s.ctx e.dot.a + 1 := IntWalk.i64_in _ (by omega)
     by_cases hsq : eY s.ctx e.dot.a + 1 = e.dot.seq
     case neg =>
        have HE1 : Hid (jJ s e = false) := by unfold Hid jJ; rw [decide_eq_false hsq]; simp
        have HE2 : Hid (kR s e = 6) := by unfold Hid kR; rw [if_pos hok, if_neg (by rw [HHH.out]; decide), if_neg hsq]
        have hq1 : (e.dot.seq != eY s.ctx e.dot.a + 1) = true := by rw [bne_iff_ne]; omega
        clear hsq hok
        refine aH (by kernel_rfl) (by kernel_rfl) (fun W3 hW3 => ?_)
        rw [hW3.out]
        clear hW3
        iterate 10 go_big_quiet_step (fail)
        go_big_quiet_step (exact Calls.after (HG.out _ (h2.vec.kept (After.h _))))
        iterate 3 go_big_quiet_step (fail)
        refine wpQuiet_nil ?_
        rintro _ ⟨i, rfl⟩
        have hib := i.h
        generalize i.w = wi at hib ⊢
        have hbt := below2 zH hib
        go_wp2
        all_goals
         go_ret2
         exact ⟨s, by rw [HE1.out, HE2.out]; rfl, HH.out.kept_w hbt, Fr.of_below hbt, fun k hk => Or.inl hk, by rw [HE1.out]; rfl, fun x hx => Or.inl hx⟩
     have hq1 : (e.dot.seq != eY s.ctx e.dot.a + 1) = false := by rw [bne_eq_false_iff_eq]; omega
     refine aH (by kernel_rfl) (by kernel_rfl) (fun W3 hW3 => ?_)
     rw [hW3.out]
     clear hW3
     iterate 10 go_big_quiet_step (fail)
     go_big_quiet_step (exact Calls.after (HG.out _ (h2.vec.kept (After.h _))))
     iterate 3 go_big_quiet_step (fail)
     refine wpQuiet_nil ?_
     rintro _ ⟨i, rfl⟩
     have hib := i.h
     generalize i.w = wi at hib ⊢
     have rD := below2 zH hib
     have h3 := h2.kept_w hib
     have rC := hin2.kept hib
     have hR3 := aj hR2 hib
     have HRM := Lib.hid (GU wi h3 (by have := HI.out.len; omega))
     clear x0 x1 x2 xm v0 v1 v2 v6 v7 v8 v9 y3 h2 hin2 hR2 HG hwr
     generalize wi = w3 at *
     by_cases hfl : s.K.length < 2048
     case neg =>
        have HE1 : Hid (jJ s e = false) := by unfold Hid jJ; rw [decide_eq_false hfl]; simp
        have HE2 : Hid (kR s e = 9) := by unfold Hid kR; rw [if_pos hok, if_neg (by rw [HHH.out]; decide), if_pos hsq, if_neg hfl]
        rw [decide_eq_false hfl] at HRM
        clear hsq hok hfl
        go_wp2_with (go_at_call 102; (with_reducible refine HRM.out.mono ?_); rintro x wr ⟨rfl, rfl⟩)
        all_goals
         go_ret2
         exact ⟨s, by rw [HE1.out, HE2.out]; rfl, HH.out.kept_w rD, Fr.of_below rD, fun k hk => Or.inl hk, by rw [HE1.out]; rfl, fun x hx => Or.inl hx⟩
     rw [decide_eq_true hfl] at HRM
     have HE1 : Hid (jJ s e = true) := by unfold Hid jJ; rw [hok, HHH.out, decide_eq_true hsq, decide_eq_true hfl]; rfl
     have HE2 : Hid (kR s e = 0) := by unfold Hid kR; rw [if_pos hok, if_neg (by rw [HHH.out]; decide), if_pos hsq, if_pos hfl]
     have htk : nP s.ctx e.dot = true := by unfold nP; rw [hdo, decide_eq_true hsq]; rfl
     have Qg := fun (X : World) (h : VecIn X b.v b.vb s.ctx) => Jg e.dot X h HI.out.ctx (by omega)
     rw [htk, if_pos rfl] at Qg
     have HTK := Lib.hid Qg
     have HFL := Lib.hid hfl
     have HOK := Lib.hid hok
     clear Qg htk hsq hfl hok
     go_upto_region 11 with (go_at_call 102; (with_reducible refine HRM.out.mono ?_); rintro x wr ⟨rfl, rfl⟩)
     have z0 : w3.cell? ⟨w.heap.size, 0, none⟩ = some (.int .i64 e.dot.a.dev) := by have := hR3 0 _ rfl; rwa [Nat.zero_add] at this
     have z1 : w3.cell? ⟨w.heap.size, 1, none⟩ = some (.int .i64 e.dot.a.inc) := by have := hR3 1 _ rfl; rwa [Nat.zero_add] at this
     have z2 : w3.cell? ⟨w.heap.size, 2, none⟩ = some (.int .i64 e.dot.seq) := by have := hR3 2 _ rfl; rwa [Nat.zero_add] at this
     have z6 : w3.cell? ⟨w.heap.size, 6, none⟩ = some (.int .i64 e.kind) := by have := hR3 6 _ rfl; rwa [Nat.zero_add] at this
     have z7 : w3.cell? ⟨w.heap.size, 7, none⟩ = some (.string e.key.name) := by have := hR3 7 _ rfl; rwa [Nat.zero_add] at this
     have z8 : w3.cell? ⟨w.heap.size, 8, none⟩ = some (.string e.key.domain) := by have := hR3 8 _ rfl; rwa [Nat.zero_add] at this
     have z9 : w3.cell? ⟨w.heap.size, 9, none⟩ = some (.string e.key.path) := by have := hR3 9 _ rfl; rwa [Nat.zero_add] at this
     replace z0 : w3.drew.cell? _ = _ := z0
     replace z1 : w3.drew.cell? _ = _ := z1
     replace z2 : w3.drew.cell? _ = _ := z2
     replace h3 : MpIn w3.drew m b s := h3.kept_w (Below.refl _ _).drew
     replace hR3 : w3.drew.rangeAt w.heap.size 0 (ah e a cap) := hR3
     have z3 := (bZ h3.cell).2.2.2
     have rC : DotsIn w3.drew a e.over := rC.kept (Below.refl w3.heap.size w3).drew
     clear z6 z7 z8 z9
     have hb0 : Below w3.drew.heap.size w3.drew w3.drew := Below.refl _ _
     refine wp_region_noPanic ?_
     refine bH (fun X => Below w3.drew.heap.size w3.drew X) [6] (by kernel_rfl) ?_
     refine ag (i := 0) (oi := ⟨some 41, _, _, _, _, _⟩) (v := ?_) rfl (by kernel_rfl) (by kernel_rfl) (by kernel_rfl) (by kernel_rfl) (by kernel_rfl) (fun _ _ _ h => h) (Or.inl ⟨by rfl, ?_⟩) (by assumption) ?_
     case refine_2 => exact z15
     try simp only [pS]
     refine ag (i := 1) (oi := ⟨some 42, _, _, _, _, _⟩) (v := ?_) rfl (by kernel_rfl) (by kernel_rfl) (by kernel_rfl) (by kernel_rfl) (by kernel_rfl) (fun _ _ _ h => h) (Or.inl ⟨by rfl, ?_⟩) (by assumption) ?_
     case refine_2 => exact z15
     try simp only [pS]
     refine ag (i := 2) (oi := ⟨some 43, _, _, _, _, _⟩) (v := ?_) rfl (by kernel_rfl) (by kernel_rfl) (by kernel_rfl) (by kernel_rfl) (by kernel_rfl) (fun _ _ _ h => h) (Or.inl ⟨by rfl, ?_⟩) (by assumption) ?_
     case refine_2 => exact z15
     try simp only [pS]
     refine ag (i := 3) (oi := ⟨some 44, _, _, _, _, _⟩) (v := ?_) rfl (by kernel_rfl) (by kernel_rfl) (by kernel_rfl) (by kernel_rfl) (by kernel_rfl) (fun _ _ _ h => h) (Or.inl ⟨by rfl, ?_⟩) (by assumption) ?_
     case refine_2 => exact z15
     try simp only [pS]
     refine ag (i := 4) (oi := ⟨some 45, _, _, _, _, _⟩) (v := ?_) rfl (by kernel_rfl) (by kernel_rfl) (by kernel_rfl) (by kernel_rfl) (by kernel_rfl) (fun _ _ _ h => h) (Or.inl ⟨by rfl, ?_⟩) (by assumption) ?_
     case refine_2 => exact z15
     try simp only [pS]
     refine ag (i := 5) (oi := ⟨some 46, _, _, _, _, _⟩) (v := ?_) rfl (by kernel_rfl) (by kernel_rfl) (by kernel_rfl) (by kernel_rfl) (by kernel_rfl) (fun _ _ _ h => h) (Or.inl ⟨by rfl, ?_⟩) (by assumption) ?_
     case refine_2 => exact z15
     try simp only [pS]
     refine bD (i := 6) (o := ⟨some 47, _, _, _, _, _⟩) (by kernel_rfl) rfl ?_
     intro K hK
     go_simp
     go_at_call 103
     (with_reducible refine (HTK.out _ h3.vec).mono ?_)
     rintro x w4 ⟨rfl, hv4, hf4⟩
     go_simp
     refine hK.out _ _ (Or.inl (by kernel_rfl)) ?_
     clear hK K
     try simp only [pS]
     refine jk (by kernel_rfl) ?_ _
     refine NoPanic.normal ?_
     have hK4 := h3.keeps hf4 (fun i hi => by subst hi; exact uo b _)
     have h4 : MpIn w4.drew m b { s with ctx := setM s.ctx e.dot.a e.dot.seq } := (h3.setCtx hv4 hf4).kept_w (Below.refl _ _).drew
     have hR4 : w4.drew.rangeAt w.heap.size 0 (ah e a cap) := hK4.range hR3
     have DC : DotsIn w4.drew a e.over := (hK4.dots rC).kept (Below.refl w4.heap.size w4).drew
     have Rj : Fr (foot b s.A) w w4.drew := ((Fr.of_below rD).again (hf4.undrew.mono fun k _ hk => by rw [show k = b.vb from hk]; exact uo b _)).again (Fr.of_below (Below.refl w4.heap.size w4).drew)
     have HCL : Hid (∀ X : World, DotsIn X a e.over → Calls Tryz.prog 69 #[.agg (ah e a cap).toArray] X (Ah e X)) := Lib.hid (fun (X : World) (h : DotsIn X a e.over) => qF e a cap X (by omega) hn0 h)
     clear h3 hR3 rC z0 z1 z2 z3 hb0 hv4 hf4 hK4 rD
     go_upto_region 12 with fail
     have z0 : w4.drew.cell? ⟨w.heap.size, 0, none⟩ = some (.int .i64 e.dot.a.dev) := by have := hR4 0 _ rfl; rwa [Nat.zero_add] at this
     have z1 : w4.drew.cell? ⟨w.heap.size, 1, none⟩ = some (.int .i64 e.dot.a.inc) := by have := hR4 1 _ rfl; rwa [Nat.zero_add] at this
     have z2 : w4.drew.cell? ⟨w.heap.size, 2, none⟩ = some (.int .i64 e.dot.seq) := by have := hR4 2 _ rfl; rwa [Nat.zero_add] at this
     have z6 : w4.drew.cell? ⟨w.heap.size, 6, none⟩ = some (.int .i64 e.kind) := by have := hR4 6 _ rfl; rwa [Nat.zero_add] at this
     have z7 : w4.drew.cell? ⟨w.heap.size, 7, none⟩ = some (.string e.key.name) := by have := hR4 7 _ rfl; rwa [Nat.zero_add] at this
     have z8 : w4.drew.cell? ⟨w.heap.size, 8, none⟩ = some (.string e.key.domain) := by have := hR4 8 _ rfl; rwa [Nat.zero_add] at this
     have z9 : w4.drew.cell? ⟨w.heap.size, 9, none⟩ = some (.string e.key.path) := by have := hR4 9 _ rfl; rwa [Nat.zero_add] at this
     have z3 := (bZ h4.cell).1
     have hb0 : Below w4.drew.heap.size w4.drew w4.drew := Below.refl _ _
     clear z6 z7 z8 z9
     refine wp_region_noPanic ?_
     refine bH (fun X => Below w4.drew.heap.size w4.drew X) [8] (by kernel_rfl) ?_
     refine ag (i := 0) (oi := ⟨some 48, _, _, _, _, _⟩) (v := ?_) rfl (by kernel_rfl) (by kernel_rfl) (by kernel_rfl) (by kernel_rfl) (by kernel_rfl) (fun _ _ _ h => h) (Or.inl ⟨by rfl, ?_⟩) (by assumption) ?_
     case refine_2 => exact z15
     try simp only [pS]
     refine ag (i := 1) (oi := ⟨some 49, _, _, _, _, _⟩) (v := ?_) rfl (by kernel_rfl) (by kernel_rfl) (by kernel_rfl) (by kernel_rfl) (by kernel_rfl) (fun _ _ _ h => h) (Or.inl ⟨by rfl, ?_⟩) (by assumption) ?_
     case refine_2 => exact z15
     try simp only [pS]
     refine ag (i := 2) (oi := ⟨some 50, _, _, _, _, _⟩) (v := ?_) rfl (by kernel_rfl) (by kernel_rfl) (by kernel_rfl) (by kernel_rfl) (by kernel_rfl) (fun _ _ _ h => h) (Or.inl ⟨by rfl, ?_⟩) (by assumption) ?_
     case refine_2 => exact z15
     try simp only [pS]
     refine ag (i := 3) (oi := ⟨some 51, _, _, _, _, _⟩) (v := ?_) rfl (by kernel_rfl) (by kernel_rfl) (by kernel_rfl) (by kernel_rfl) (by kernel_rfl) (fun _ _ _ h => h) (Or.inl ⟨by rfl, ?_⟩) (by assumption) ?_
     case refine_2 => exact z15
     try simp only [pS]
     refine ag (i := 4) (oi := ⟨some 52, _, _, _, _, _⟩) (v := ?_) rfl (by kernel_rfl) (by kernel_rfl) (by kernel_rfl) (by kernel_rfl) (by kernel_rfl) (fun _ _ _ h => h) (Or.inl ⟨by rfl, ?_⟩) (by assumption) ?_
     case refine_2 => exact z15
     try simp only [pS]
     refine ag (i := 5) (oi := ⟨some 53, _, _, _, _, _⟩) (v := ?_) rfl (by kernel_rfl) (by kernel_rfl) (by kernel_rfl) (by kernel_rfl) (by kernel_rfl) (fun _ _ _ h => h) (Or.inl ⟨by rfl, ?_⟩) (by assumption) ?_
     case refine_2 => exact z15
     try simp only [pS]
     refine ag (i := 6) (oi := ⟨some 54, _, _, _, _, _⟩) rfl (by kernel_rfl) (by kernel_rfl) (by kernel_rfl) (by kernel_rfl) (by kernel_rfl) (fun _ _ _ h => h) (yieldsIf_load_mid (by rfl) 64 _ rfl w.heap.size 0 rfl (ah e a cap) _ (fun X hX => aj hR4 hX) Tryz.underlying64 rfl (by kernel_rfl)) (by assumption) ?_
     try simp only [pS]
     refine bD (i := 7) (o := ⟨some 55, _, _, _, _, _⟩) (by kernel_rfl) rfl ?_
     intro K hK
     go_simp
     go_at_call 69
     (with_reducible refine (HCL.out _ DC).mono ?_)
     rintro x w5 ⟨a5, c5, rfl, hown5, hb5⟩
     go_simp
     refine hK.out _ _ (Or.inr (hb5)) ?_
     clear hK K
     try simp only [pS]
     have h5 := h4.kept_w hb5
     have hnew : ∀ p ∈ kz s.K, p.1 ≠ e.dot := fun p hp e2 => by
        obtain ⟨x, hx, rfl⟩ := List.mem_map.1 hp
        have := (HI.out.kept x hx).2
        rw [show x.1.dot = e.dot from e2, HHH.out] at this
        cases this
     obtain ⟨w6, hrun6, EU, hf6⟩ := h5.kept.store_new iY Tryz.underlying103 (by show (kz s.K).length < _; unfold kz maxLen; rw [List.length_map]; have := HFL.out; omega) (gW hdo) hnew ((e, a5, c5) : bg)
     have hK6 := h5.keeps hf6 (fun i hi => by rw [show i = b.kb from hi]; exact kL b _)
     have ho5 := gy hown5
     obtain ⟨a5', c5', he5, hd5⟩ := ho5
     have hd6 : DotsIn w6 a5 e.over := by
        simp only [Value.slice.injEq] at he5
        rw [he5.1]
        exact hK6.dots hd5
     have h6 : MpIn w6 m b { s with ctx := setM s.ctx e.dot.a e.dot.seq, K := (e, a5, c5) :: s.K } := h5.setKept EU (fun x hx => by
        rcases List.mem_cons.1 hx with rfl | hx
        ·exact hd6
        ·exact hK6.dots (h5.overs x hx)) hf6
     have HT6 : Hid (TypD w6 e a5) := TypD.keepC (IL hown5 rfl).2 hK6
     have hR6 : w6.rangeAt w.heap.size 0 (ah e a cap) := hK6.range (aj hR4 hb5)
     have MO : DotsIn w6 a e.over := hK6.dots (DC.kept hb5)
     have MQ : Fr (foot b s.A) w w6 := (Rj.again (Fr.of_below hb5)).again (hf6.mono fun k _ hk => by rw [show k = b.kb from hk]; exact kL b _)
     clear hd6 hd5 he5 hown5 EU hf6 hK6 hb5 h5 hnew h4 hR4 DC z0 z1 z2 z3 Rj
     refine bD (i := 8) (o := ⟨none, _, _, _, _, _⟩) (by kernel_rfl) rfl ?_
     intro K hK
     go_simp
     refine hK.out _ _ (Or.inl (by kernel_rfl)) ?_
     clear hK K
     try simp only [pS]
     refine jk (by kernel_rfl) ?_ _
     refine NoPanic.normal ?_
     clear hrun6 hb0 HCL HTK HRM HV HR
     have z0 : w6.cell? ⟨w.heap.size, 0, none⟩ = some (.int .i64 e.dot.a.dev) := by have := hR6 0 _ rfl; rwa [Nat.zero_add] at this
     have z1 : w6.cell? ⟨w.heap.size, 1, none⟩ = some (.int .i64 e.dot.a.inc) := by have := hR6 1 _ rfl; rwa [Nat.zero_add] at this
     have z2 : w6.cell? ⟨w.heap.size, 2, none⟩ = some (.int .i64 e.dot.seq) := by have := hR6 2 _ rfl; rwa [Nat.zero_add] at this
     have z6 : w6.cell? ⟨w.heap.size, 6, none⟩ = some (.int .i64 e.kind) := by have := hR6 6 _ rfl; rwa [Nat.zero_add] at this
     have z7 : w6.cell? ⟨w.heap.size, 7, none⟩ = some (.string e.key.name) := by have := hR6 7 _ rfl; rwa [Nat.zero_add] at this
     have z8 : w6.cell? ⟨w.heap.size, 8, none⟩ = some (.string e.key.domain) := by have := hR6 8 _ rfl; rwa [Nat.zero_add] at this
     have z9 : w6.cell? ⟨w.heap.size, 9, none⟩ = some (.string e.key.path) := by have := hR6 9 _ rfl; rwa [Nat.zero_add] at this
     have TI : w.heap.size < w6.heap.size := World.block_lt_of_cell? w6 _ z0
     have Tc : Hid (∀ x ∈ ((e, a5, c5) : bg) :: s.K, KeyW x.1.key) := fun x hx => by
        rcases List.mem_cons.1 hx with rfl | hx
        ·exact hkw
        ·exact (dN (HI.out.kept x hx).1).2.2.2.1
     have hPS : Hid (∀ q ∈ s.pairs, ∃ x ∈ ((e, a5, c5) : bg) :: s.K, x.1.dot = q.2 ∧ x.1.kind = 1 ∧ x.1.key = q.1) := fun q hq => by
        obtain ⟨x, hx, h1, h2, h3, _⟩ := (HI.out.pairs q.1 q.2).1 hq
        exact ⟨x, List.mem_cons_of_mem _ hx, h2, h1, h3⟩
     have NZ : Hid (∀ k, (k, e.dot) ∉ s.pairs) := fun k hk => by
        obtain ⟨x, hx, h1, h2, h3, _⟩ := (HI.out.pairs k e.dot).1 hk
        have := (HI.out.kept x hx).2
        rw [h2, HHH.out] at this
        cases this
     have rE := Bz e.dot (gW hdo) w6 h6
     have HOV := Lib.hid hov
     have QY : ∀ q, foot b s.A q → foot b s.A q ∨ w.heap.size ≤ q := fun q hq => Or.inl hq
     clear z1 z2 z7 z8 z9
     by_cases hk1 : e.kind = 1
     case neg =>
        have PS : (e.kind == 1) = false := beq_eq_false_iff_ne.2 hk1
        have HP : Hid (o5 s e = s.pairs) := by unfold Hid o5; rw [if_neg (fun h => hk1 h.1)]
        have HP0 := hPS
        clear rE hk1
        have z18 : w6.cell? ⟨w.heap.size, 18, none⟩ = some (.slice a e.over.length cap) := by have := hR6 18 _ rfl; rwa [Nat.zero_add] at this
        have HM7 := Lib.hid h6
        have HTY := Lib.hid (show TypD w6 e a5 from HT6.out)
        have HN7 := Lib.hid (And.intro hR6 (And.intro MO (And.intro MQ QY)))
        go_wp2
        go_loopw [72] (fun i wr => ∃ (k : Nat) (A' : List (Key × Nat)), i = .int .i64 k ∧ k ≤ e.over.length ∧ MpIn wr m b ⟨setM s.ctx e.dot.a e.dot.seq, (e, a5, c5) :: s.K, (e.over.take k).foldl (fun l d => lK d l) s.dead, A', (e.over.take k).foldl strike (s.pairs)⟩ ∧ KeepsC w6 wr ∧ Fr (foot b s.A) w wr ∧ (∀ q, foot b A' q → foot b s.A q ∨ w.heap.size ≤ q)) (fun i _ => e.over.length - (intOf i).toNat)
        case atStart => exact ⟨0, s.A, rfl, Nat.zero_le _, HM7.out, fun _ _ _ _ h => h, HN7.out.2.2.1, HN7.out.2.2.2⟩
        case round =>
         exact z9
     have PS : (e.kind == 1) = true := beq_iff_eq.2 hk1
     have HK1 := Lib.hid hk1
     clear hk1
     by_cases hdd : e.dot ∈ s.dead
     case pos =>
        have HP : Hid (o5 s e = s.pairs) := by unfold Hid o5; rw [if_neg (fun h => h.2 hdd)]
        have HP0 := hPS
        have hD1 : decide (e.dot ∈ s.dead) = true := decide_eq_true hdd
        rw [hD1] at rE
        have HD := Lib.hid rE
        clear rE hdd hD1
        have z0 : w6.cell? ⟨w.heap.size, 0, none⟩ = some (.int .i64 e.dot.a.dev) := by have := hR6 0 _ rfl; rwa [Nat.zero_add] at this
        have z1 : w6.cell? ⟨w.heap.size, 1, none⟩ = some (.int .i64 e.dot.a.inc) := by have := hR6 1 _ rfl; rwa [Nat.zero_add] at this
        have z2 : w6.cell? ⟨w.heap.size, 2, none⟩ = some (.int .i64 e.dot.seq) := by have := hR6 2 _ rfl; rwa [Nat.zero_add] at this
        have z6 : w6.cell? ⟨w.heap.size, 6, none⟩ = some (.int .i64 e.kind) := by have := hR6 6 _ rfl; rwa [Nat.zero_add] at this
        have z7 : w6.cell? ⟨w.heap.size, 7, none⟩ = some (.string e.key.name) := by have := hR6 7 _ rfl; rwa [Nat.zero_add] at this
        have z8 : w6.cell? ⟨w.heap.size, 8, none⟩ = some (.string e.key.domain) := by have := hR6 8 _ rfl; rwa [Nat.zero_add] at this
        have z9 : w6.cell? ⟨w.heap.size, 9, none⟩ = some (.string e.key.path) := by have := hR6 9 _ rfl; rwa [Nat.zero_add] at this
        clear z7 z8 z9
        go_upto_region 15 with (go_at_call 70; (with_reducible refine HD.out.mono ?_); rintro x w7 ⟨rfl, hb7⟩)
        have h7 := h6.kept_w hb7
        have hR7 := aj hR6 hb7
        have Hl := MO.kept hb7
        have hf7 := MQ.again (Fr.of_below hb7)
        clear z0 z1 z2 z6 h6 hR6 MO MQ
        have z18 : w7.cell? ⟨w.heap.size, 18, none⟩ = some (.slice a e.over.length cap) := by have := hR7 18 _ rfl; rwa [Nat.zero_add] at this
        have HM7 := Lib.hid h7
        have HTY := Lib.hid (show TypD w7 e a5 from HT6.out.keepC (KeepsC.of_below hb7))
        have HN7 := Lib.hid (And.intro hR7 (And.intro Hl (And.intro hf7 QY)))
        go_wp2
        go_loopw [72] (fun i wr => ∃ (k : Nat) (A' : List (Key × Nat)), i = .int .i64 k ∧ k ≤ e.over.length ∧ MpIn wr m b ⟨setM s.ctx e.dot.a e.dot.seq, (e, a5, c5) :: s.K, (e.over.take k).foldl (fun l d => lK d l) s.dead, A', (e.over.take k).foldl strike (s.pairs)⟩ ∧ KeepsC w7 wr ∧ Fr (foot b s.A) w wr ∧ (∀ q, foot b A' q → foot b s.A q ∨ w.heap.size ≤ q)) (fun i _ => e.over.length - (intOf i).toNat)
        case atStart => exact ⟨0, s.A, rfl, Nat.zero_le _, HM7.out, fun _ _ _ _ h => h, HN7.out.2.2.1, HN7.out.2.2.2⟩
        case round =>
         exact z9
     have HP : Hid (o5 s e = (e.key, e.dot) :: s.pairs) := by unfold Hid o5; rw [if_pos ⟨HK1.out, hdd⟩]
     have HP0 : Hid (∀ q ∈ (e.key, e.dot) :: s.pairs, ∃ x ∈ ((e, a5, c5) : bg) :: s.K, x.1.dot = q.2 ∧ x.1.kind = 1 ∧ x.1.key = q.1) := fun q hq => by
        rcases List.mem_cons.1 hq with rfl | hq
        ·exact ⟨_, List.mem_cons_self, rfl, HK1.out, rfl⟩
        ·exact hPS.out q hq
     have hD1 : decide (e.dot ∈ s.dead) = false := decide_eq_false hdd
     rw [hD1] at rE
     have HD := Lib.hid rE
     clear rE hdd hD1
     have z0 : w6.cell? ⟨w.heap.size, 0, none⟩ = some (.int .i64 e.dot.a.dev) := by have := hR6 0 _ rfl; rwa [Nat.zero_add] at this
     have z1 : w6.cell? ⟨w.heap.size, 1, none⟩ = some (.int .i64 e.dot.a.inc) := by have := hR6 1 _ rfl; rwa [Nat.zero_add] at this
     have z2 : w6.cell? ⟨w.heap.size, 2, none⟩ = some (.int .i64 e.dot.seq) := by have := hR6 2 _ rfl; rwa [Nat.zero_add] at this
     have z6 : w6.cell? ⟨w.heap.size, 6, none⟩ = some (.int .i64 e.kind) := by have := hR6 6 _ rfl; rwa [Nat.zero_add] at this
     have z7 : w6.cell? ⟨w.heap.size, 7, none⟩ = some (.string e.key.name) := by have := hR6 7 _ rfl; rwa [Nat.zero_add] at this
     have z8 : w6.cell? ⟨w.heap.size, 8, none⟩ = some (.string e.key.domain) := by have := hR6 8 _ rfl; rwa [Nat.zero_add] at this
     have z9 : w6.cell? ⟨w.heap.size, 9, none⟩ = some (.string e.key.path) := by have := hR6 9 _ rfl; rwa [Nat.zero_add] at this
     clear z7 z8 z9
     go_upto_region 14 with (go_at_call 70; (with_reducible refine HD.out.mono ?_); rintro x w7 ⟨rfl, hb7⟩)
     have h7 := h6.kept_w hb7
     have hR7 := aj hR6 hb7
     have Hl := MO.kept hb7
     have hf7 := MQ.again (Fr.of_below hb7)
     clear z0 z1 z2 z6 h6 hR6 MO MQ
     have HT7 : Hid (TypD w7 e a5) := HT6.out.keepC (KeepsC.of_below hb7)
     have HLV := Lib.hid (EM e a cap w7 h7 hkw (gW hdo) (fun hm => NZ.out _ (gX.1 hm)) (Nat.le_trans (hbd.2 _) (by decide)) (Nat.le_trans hbd.1 (by decide)))
     go_upto_region 15 with (first
        | ((with_reducible refine bi _ w.heap.size e a cap hR7 ?_ rfl ?_); exact rfl)
        | (go_at_call 71; (with_reducible refine HLV.out.mono ?_); rintro x w8 ⟨rfl, A8, h8, Ko, EX⟩))
     have hK8 := h7.keeps Ko (fun _ h => h)
     have HK8 := Lib.hid hK8
     have hR8 := hK8.range hR7
     have SG := hK8.dots Hl
     have hf8 := hf7.again Ko
     have SH : ∀ q, foot b A8 q → foot b s.A q ∨ w.heap.size ≤ q := fun q hq => (EX q hq).imp id (fun h => by have := hf7.size; omega)
     clear h7 hR7 Hl hf7 Ko EX hK8
     have z18 : w8.cell? ⟨w.heap.size, 18, none⟩ = some (.slice a e.over.length cap) := by have := hR8 18 _ rfl; rwa [Nat.zero_add] at this
     have HM7 := Lib.hid h8
     have HTY := Lib.hid (show TypD w8 e a5 from HT7.out.keepC HK8.out)
     have HN7 := Lib.hid (And.intro hR8 (And.intro SG (And.intro hf8 SH)))
     go_wp2
     go_loopw [72] (fun i wr => ∃ (k : Nat) (A' : List (Key × Nat)), i = .int .i64 k ∧ k ≤ e.over.length ∧ MpIn wr m b ⟨setM s.ctx e.dot.a e.dot.seq, (e, a5, c5) :: s.K, (e.over.take k).foldl (fun l d => lK d l) s.dead, A', (e.over.take k).foldl strike ((e.key, e.dot) :: s.pairs)⟩ ∧ KeepsC w8 wr ∧ Fr (foot b s.A) w wr ∧ (∀ q, foot b A' q → foot b s.A q ∨ w.heap.size ≤ q)) (fun i _ => e.over.length - (intOf i).toNat)
     case atStart => exact ⟨0, A8, rfl, Nat.zero_le _, HM7.out, fun _ _ _ _ h => h, HN7.out.2.2.1, HN7.out.2.2.2⟩
     case round =>
        obtain ⟨k, A1, rfl, hk, hMk, hKk, hfk, Hm⟩ := hrel
        have HKK := Lib.hid (And.intro hKk (And.intro hfk Hm))
        have HMK := Lib.hid hMk
        by_cases hlt : k < e.over.length
        ·have hzw : w.heap.size ≤ wr.heap.size := hfk.size
         obtain ⟨A2, off, rfl, c0, c1, c2⟩ := (hKk.dots HN7.out.2.1).at hlt
         have hdw : DotW e.over[k] := gW (HOV.out _ (List.getElem_mem hlt))
         have HT : Hid (e.over.take (k + 1) = e.over.take k ++ [e.over[k]]) := by
           exact z78
         have Hu : ((e.over.take k).foldl (fun l d => lK d l) s.dead).length ≤ 1073741824 := by
           have h1 := kC (e.over.take k) s.dead
           rw [List.length_take] at h1
           omega
         have HLT := Lib.hid hlt
         generalize e.over[k] = d at c0 c1 c2 hdw HT
         refine y75 ?_
         intro HKL
         clear hMk hKk hfk Hm hlt
         go_upto_region 18 with fail
         refine y42 ?_
         intro Wx hWx hbx y0 y1 y2
         clear hWx c0 c1 c2
         go_wp2_with (go_at_call 104; (with_reducible refine (HKL.out _ hbx).mono ?_); rintro x wk ⟨rfl, A3, hM3, hf3, MP⟩)
         have HZ := Lib.hid (And.intro hM3 (And.intro hf3 MP))
         clear hM3 hf3 MP y0 y1 y2
         go_roundw
         case rel =>
           exact z65
         case measure => exact z64
        ·obtain rfl : k = e.over.length := by omega
         clear hKk hfk Hm hMk
         go_wp2
         all_goals
           go_ret2
           obtain ⟨p1, p2, p3⟩ := HKK.out
           exact ⟨⟨setM s.ctx e.dot.a e.dot.seq, (e, a5, c5) :: s.K, e.over.foldl (fun l d => lK d l) s.dead, A1, e.over.foldl strike ((e.key, e.dot) :: s.pairs)⟩, by rw [HE1.out, HE2.out]; rfl, by have := HMK.out; rw [List.take_length] at this; exact this, p2, p3, by rw [HE1.out, if_pos rfl]; exact ⟨rfl, ⟨a5, c5, List.Perm.refl _⟩, rfl, by rw [HP.out]⟩, fun x hx => (List.mem_cons.1 hx).elim (fun h => Or.inr (by rw [h]; exact HTY.out.keepC p1)) Or.inl⟩
theorem GX {m : Nat} {b : MB} {s : MS} (e : Ev) (a : Option Addr) (cap : Nat) (w : World) (h : MpIn w m b s) (hi : MInv s) (hs : EvSmall e) (hin : DotsIn w a e.over) (hn0 : a = none → e.over = []) (hcl : s.ctx.length ≤ 536870912) (hdl : s.dead.length ≤ 536870912) :
 Calls Tryz.prog 48 #[.pointer (some ⟨m, 0, none⟩), ja e a cap] w (RetAp m b s e w) := by
 refine (EK e a cap w h hi hs hin hn0 hcl hdl).mono ?_
 rintro x w' ⟨s', h1, h2, h3, h4, h5, _⟩
 exact ⟨s', h1, h2, h3, h4, h5⟩
theorem Ns {d x : Dot} {l : List Dot} : x ∈ lK d l ↔ x = d ∨ x ∈ l := by
 unfold lK
 split
 ·rename_i h
  constructor
  ·exact Or.inr
  ·rintro (rfl | h2)
   ·exact h
   ·exact h2
 ·exact List.mem_cons
theorem lw : ∀ {l dead : List Dot} {x : Dot}, x ∈ l.foldl (fun l d => lK d l) dead ↔ x ∈ l ∨ x ∈ dead
 | [], dead, x => by simp
 | d :: l, dead, x => by
   rw [List.foldl_cons, lw, Ns, List.mem_cons]
   constructor
   ·rintro (h | h | h)
    ·exact Or.inl (Or.inr h)
    ·exact Or.inl (Or.inl h)
    ·exact Or.inr h
   ·rintro ((h | h) | h)
    ·exact Or.inr (Or.inl h)
    ·exact Or.inl h
    ·exact Or.inr (Or.inr h)
theorem Gj {pairs : List (Key × Dot)} {d : Dot} {q : Key × Dot} : q ∈ strike pairs d ↔ q ∈ pairs ∧ q.2 ≠ d := by
 unfold strike
 rw [List.mem_filter, decide_eq_true_eq]
theorem qA : ∀ {l : List Dot} {P : List (Key × Dot)} {q : Key × Dot}, q ∈ l.foldl strike P ↔ q ∈ P ∧ q.2 ∉ l
 | [], P, q => by simp
 | d :: l, P, q => by
   rw [List.foldl_cons, qA, Gj, List.mem_cons]
   constructor
   ·rintro ⟨⟨h1, h2⟩, h3⟩
    exact ⟨h1, fun h => h.elim h2 h3⟩
   ·rintro ⟨h1, h2⟩
    exact ⟨⟨h1, fun h => h2 (Or.inl h)⟩, fun h => h2 (Or.inr h)⟩
theorem oz : ∀ (l : List Dot) {P : List (Key × Dot)}, P.Nodup → (l.foldl strike P).Nodup
 | [], _, h => h
 | _ :: l, _, h => oz l (h.filter _)
theorem jX {s : MS} {e : Ev} (h : jJ s e = true) : cu e = true ∧ iw s.ctx e.dot = false ∧ eY s.ctx e.dot.a + 1 = e.dot.seq ∧ s.K.length < 2048 := by
 unfold jJ at h
 simpa using h
theorem um {l : List Dot} {e d : Dot} (hd : bu d = true) (he : eY l e.a + 1 = e.seq) : iw (setM l e.a e.seq) d = (iw l d || decide (d = e)) := by
 unfold iw
 rw [hd, zL, Bool.true_and, Bool.true_and, Bool.eq_iff_iff]
 simp only [Bool.or_eq_true, decide_eq_true_eq]
 by_cases h : d.a = e.a
 ·rw [if_pos h]
  constructor
  ·intro h2
   by_cases h3 : d.seq = e.seq
   ·exact Or.inr (by cases d; cases e; simp_all)
   ·exact Or.inl (by rw [h]; omega)
  ·rintro (h2 | h2)
   ·rw [h] at h2; omega
   ·rw [h2]; omega
 ·rw [if_neg h]
  constructor
  ·exact Or.inl
  ·rintro (h2 | h2)
   ·exact h2
   ·exact absurd (by rw [h2]) h
theorem z120 {p : Prop} (h : p := by
 obtain ⟨x, hx, y1, y2, y3, y4⟩ := (hi.pairs _ _).1 hq
 exact ⟨x, hK.mem_iff.2 (List.mem_cons_of_mem _ hx), y1, y2, y3, fun h => h.elim hno y4⟩) : p := h
theorem MInv.applied {s s' : MS} {e : Ev} (hi : MInv s) (h : jJ s e = true) (ha : Applied s e s') : MInv s' := by
 obtain ⟨h1, h2, h3, h4⟩ := jX h
 obtain ⟨p1, p2, p3, p4, p5⟩ := dN h1
 obtain ⟨a, c, hK⟩ := ha.kept
 have hold : ∀ x ∈ s.K, x.1.dot ≠ e.dot := fun x hx e2 => by
  have := (hi.kept x hx).2
  rw [e2, h2] at this
  cases this
 have hpe : ∀ k, (k, e.dot) ∉ s.pairs := fun k hk => by
  obtain ⟨x, hx, _, q, _⟩ := (hi.pairs _ _).1 hk
  exact hold x hx q
 refine ⟨by rw [ha.ctx]; exact yw hi.ctx, fun d hd => ?_, fun x hx => ?_, fun k d => ?_, ?_, fun d hd => ?_, ?_⟩
 ·rw [ha.ctx] at hd
  rcases yx hd with rfl | hd
  ·exact p1
  ·exact hi.ctxOk d hd
 ·rcases List.mem_cons.1 (hK.mem_iff.1 hx) with rfl | hx
  ·refine ⟨h1, ?_⟩
   rw [ha.ctx, um p1 h3]
   simp
  ·obtain ⟨q1, q2⟩ := hi.kept x hx
   refine ⟨q1, ?_⟩
   rw [ha.ctx, um (dN q1).1 h3, q2]
   rfl
 ·rw [ha.pairs, qA, ha.dead, lw]
  unfold o5
  by_cases hp : e.kind = 1 ∧ e.dot ∉ s.dead
  ·rw [if_pos hp, List.mem_cons]
   constructor
   ·rintro ⟨hq | hq, hno⟩
    ·simp only [Prod.mk.injEq] at hq
     obtain ⟨rfl, rfl⟩ := hq
     exact ⟨(e, a, c), hK.mem_iff.2 List.mem_cons_self, hp.1, rfl, rfl, fun h => h.elim hno hp.2⟩
    ·exact z120
   ·rintro ⟨x, hx, y1, y2, y3, y4⟩
    refine ⟨?_, fun h => y4 (Or.inl h)⟩
    rcases List.mem_cons.1 (hK.mem_iff.1 hx) with rfl | hx
    ·exact Or.inl (by rw [← y2, ← y3])
    ·exact Or.inr ((hi.pairs _ _).2 ⟨x, hx, y1, y2, y3, fun h => y4 (Or.inr h)⟩)
  ·rw [if_neg hp]
   constructor
   ·rintro ⟨hq, hno⟩
    exact z120
   ·rintro ⟨x, hx, y1, y2, y3, y4⟩
    refine ⟨?_, fun h => y4 (Or.inl h)⟩
    rcases List.mem_cons.1 (hK.mem_iff.1 hx) with rfl | hx
    ·exact absurd ⟨y1, fun h => y4 (Or.inr (by rw [← y2]; exact h))⟩ hp
    ·exact (hi.pairs _ _).2 ⟨x, hx, y1, y2, y3, fun h => y4 (Or.inr h)⟩
 ·rw [ha.pairs]
  apply oz
  unfold o5
  split
  ·exact List.nodup_cons.2 ⟨hpe _, hi.pnd⟩
  ·exact hi.pnd
 ·rw [ha.dead, lw] at hd
  rcases hd with hd | hd
  ·exact p2 d hd
  ·exact hi.dead d hd
 ·rw [hK.length_eq]
  simp only [List.length_cons]
  omega
theorem MInv.empty : MInv MS.empty := ⟨List.Pairwise.nil, fun d hd => (nomatch hd), fun x hx => (nomatch hx), fun k d => ⟨fun h => (nomatch h), fun ⟨x, hx, _⟩ => (nomatch hx)⟩, List.nodup_nil, fun d hd => (nomatch hd), Nat.zero_le _⟩
/-- behind Apply, whatever was answered -/
theorem RetAp.inv {m : Nat} {b : MB} {s s' : MS} {e : Ev} (hi : MInv s) (h : if jJ s e = true then Applied s e s' else s' = s) : MInv s' := by
 split at h
 ·rename_i h1; exact hi.applied h1 h
 ·rw [h]; exact hi
theorem RetAp.sizes {s s' : MS} {e : Ev} (h : if jJ s e = true then Applied s e s' else s' = s) : s'.ctx.length ≤ s.ctx.length + 1 ∧ s'.dead.length ≤ s.dead.length + 64 := by
 split at h
 ·rename_i h1
  have h2 := (dN (jX h1).1).2.2.1
  rw [h.ctx, h.dead]
  have h3 := wF s.ctx e.dot.a e.dot.seq
  have h4 := kC e.over s.dead
  omega
 ·rw [h]; omega
/-- behind what hands back events -/
def Ag (L : List Ev) (w : World) (e : Ending) (w' : World) : Prop :=
 ∃ a ls cap, e = .returned (.slice a ls.length cap) ∧ EvsIn w' a ls ∧ (aQ ls = L ∧ ls.length ≤ cap ∧ ∀ x ∈ ls, TypD w' x.1 x.2.1) ∧ Below w.heap.size w w'
/-- the kept event of a dot -/
def evAt (K : List bg) (d : Dot) : Ev := ((K.find? fun x => decide (x.1.dot = d)).map (·.1)).getD ev0
theorem FB {w : World} {b : Nat} {K : List bg} (h : KTab w b K) {x : bg} (hx : x ∈ K) : evAt K x.1.dot = x.1 := by
 unfold evAt
 cases hf : K.find? fun y => decide (y.1.dot = x.1.dot) with
 | none =>
   have := List.find?_eq_none.1 hf x hx
   simp at this
 | some y =>
   have hy := List.mem_of_find?_eq_some hf
   have hd : y.1.dot = x.1.dot := by simpa using List.find?_some hf
   have hap := List.pairwise_map.1 h.apart
   obtain ⟨i, hi2, rfl⟩ := List.getElem_of_mem hy
   obtain ⟨j, hj2, rfl⟩ := List.getElem_of_mem hx
   have hh := List.pairwise_iff_getElem.1 hap
   rcases Nat.lt_trichotomy i j with hij | hij | hij
   ·exact absurd hd (hh i j hi2 hj2 hij)
   ·subst hij; rfl
   ·exact absurd hd.symm (hh j i hj2 hi2 hij)
theorem z29 {p : Prop} (h : p := by (rintro w hSw; have s0 := kept hSw y0; have s1 := kept hSw y1; have s2 := kept hSw y2; have sm := kept hSw ym; have sl := hlook w (h2.kept.kept hSw); go_simp; try with_reducible rfl)) : p := h
theorem z136 {p : Prop} (h : p := by
 have := congrArg List.length HEV.out
 rw [aJ, List.length_map, List.length_take] at this
 omega) : p := h
theorem nG {m : Nat} {b : MB} {s : MS} (a : Option Addr) (cap : Nat) (l : List Dot) (w : World) (h : MpIn w m b s) (hl : l.length ≤ 1073741824) (hov : ∀ x ∈ s.K, x.1.over.length ≤ 64) (hw : ∀ d ∈ l, DotW d) (hex : ∀ d ∈ l, ∃ x ∈ s.K, x.1.dot = d) (hin : DotsIn w a l) :
 Calls Tryz.prog 82 #[.pointer (some ⟨m, 0, none⟩), .slice a l.length cap] w (Ag ((sortD l).map (evAt s.K)) w) := by
 obtain ⟨i0, hi, hz0, hz1, hz2⟩ := info_parts Tryz.infoEv
 have HS := Lib.hid (xe a cap l w hl hw hin)
 have hsl := fG l
 have hmem : ∀ d ∈ sortD l, DotW d ∧ ∃ x ∈ s.K, x.1.dot = d := fun d hd => ⟨hw d (df.1 hd), hex d (df.1 hd)⟩
 generalize sortD l = L at HS hsl hmem ⊢
 clear hw hex hin
 go_enter Tryz.func82, Tryz.ntmps82
 go_wp2_with (go_at_call 88; (with_reducible refine HS.out.mono ?_); rintro e w1 ⟨v, rfl, hown, _, hb1⟩; obtain ⟨aL, cL, rfl, hinL⟩ := gy hown)
 have h1 := h.kept_w hb1
 clear hown HS h
 go_loopw [11, 5] (fun i v wr => ∃ (k : Nat) (ls : List bg), i = .int .i64 k ∧ k ≤ L.length ∧ EvsGr w1.heap.size v ls wr ∧ aQ ls = (L.take k).map (evAt s.K) ∧ Below w1.heap.size w1 wr) (fun i _ _ => L.length - (intOf i).toNat)
 case atStart => exact ⟨0, [], rfl, Nat.zero_le _, EvsGr.nil _ _, rfl, Below.refl _ _⟩
 case round =>
  obtain ⟨k, ls, rfl, hk, hgr, hev, hbr⟩ := hrel
  have HEV := Lib.hid hev
  clear hev
  by_cases hlt : k < L.length
  ·obtain ⟨A, off, rfl, c0, c1, c2⟩ := (hinL.kept hbr).at hlt
   obtain ⟨hdw, x, hx, hxd⟩ := hmem _ (List.getElem_mem hlt)
   have hzr := hbr.size
   have hr := h1.kept_w hbr
   have HT : Hid (L.take (k + 1) = L.take k ++ [L[k]]) := by
        exact z78
   have HEA : Hid (evAt s.K L[k] = x.1) := by unfold Hid; rw [← hxd]; exact FB hr.kept hx
   have HLT := Lib.hid hlt
   have hlk : ls.length = k := by
        exact z136
   have hkl : k ≤ 1073741824 := by omega
   generalize L[k] = d at *
   clear hlt
   have ho := hov x hx
   obtain ⟨e, ea, ec⟩ := x
   subst hxd
   simp only at ho
   go_upto_region 5 with fail
   refine aX (fun W hW => ?_)
   have hbW : Below wr.heap.size wr W.drew := by rw [hW.out]; go_grown
   have y0 : W.drew.cell? ⟨wr.heap.size, 0, none⟩ = some (.int .i64 e.dot.a.dev) := by rw [hW.out]; go_simp
   have y1 : W.drew.cell? ⟨wr.heap.size, 1, none⟩ = some (.int .i64 e.dot.a.inc) := by rw [hW.out]; go_simp
   have y2 : W.drew.cell? ⟨wr.heap.size, 2, none⟩ = some (.int .i64 e.dot.seq) := by rw [hW.out]; go_simp
   have h2 := hr.kept_w hbW
   have ym := (bZ h2.cell).1
   have J9 := hgr.kept hbW
   have hdo := h2.overs _ hx
   have hlook : ∀ X : World, KTab X b.kb s.K → (Instr.lookup 103 (.map (some b.kb)) (bT e.dot) false).run Tryz.prog X = .ok (evV (e, ea, ec)) X := fun X hX => hX.look_hit iY Tryz.underlying103 (F6 X) (p := (e.dot, (e, ea, ec))) (List.mem_map.2 ⟨_, hx, rfl⟩) false
   have HCL := Lib.hid (fun (X : World) (h : DotsIn X ea e.over) => qF e ea ec X (by omega) (fun hn => by rcases h with h | ⟨A, off, h3, _⟩; exact h; rw [hn] at h3; cases h3) h)
   have hbT : Below w1.heap.size w1 W.drew := hbr.trans (hbW.mono hzr)
   clear hW c0 c1 c2 hr hgr
   have hb0 : Below W.drew.heap.size W.drew W.drew := Below.refl _ _
   refine wp_region_noPanic ?_
   refine bH (fun X => Below W.drew.heap.size W.drew X) [9] (by kernel_rfl) ?_
   refine ag (i := 0) (oi := ⟨some 15, _, _, _, _, _⟩) (v := ?_) rfl (by kernel_rfl) (by kernel_rfl) (by kernel_rfl) (by kernel_rfl) (by kernel_rfl) (fun _ _ _ h => h) (Or.inl ⟨by rfl, ?_⟩) (by assumption) ?_
   case refine_2 => exact z29
   try simp only [pS]
   refine ag (i := 1) (oi := ⟨some 16, _, _, _, _, _⟩) (v := ?_) rfl (by kernel_rfl) (by kernel_rfl) (by kernel_rfl) (by kernel_rfl) (by kernel_rfl) (fun _ _ _ h => h) (Or.inl ⟨by rfl, ?_⟩) (by assumption) ?_
   case refine_2 => exact z29
   try simp only [pS]
   refine ag (i := 2) (oi := ⟨some 17, _, _, _, _, _⟩) (v := ?_) rfl (by kernel_rfl) (by kernel_rfl) (by kernel_rfl) (by kernel_rfl) (by kernel_rfl) (fun _ _ _ h => h) (Or.inl ⟨by rfl, ?_⟩) (by assumption) ?_
   case refine_2 => exact z29
   try simp only [pS]
   refine ag (i := 3) (oi := ⟨some 18, _, _, _, _, _⟩) (v := ?_) rfl (by kernel_rfl) (by kernel_rfl) (by kernel_rfl) (by kernel_rfl) (by kernel_rfl) (fun _ _ _ h => h) (Or.inl ⟨by rfl, ?_⟩) (by assumption) ?_
   case refine_2 => exact z29
   try simp only [pS]
   refine ag (i := 4) (oi := ⟨some 19, _, _, _, _, _⟩) (v := ?_) rfl (by kernel_rfl) (by kernel_rfl) (by kernel_rfl) (by kernel_rfl) (by kernel_rfl) (fun _ _ _ h => h) (Or.inl ⟨by rfl, ?_⟩) (by assumption) ?_
   case refine_2 => exact z29
   try simp only [pS]
   refine ag (i := 5) (oi := ⟨some 20, _, _, _, _, _⟩) (v := ?_) rfl (by kernel_rfl) (by kernel_rfl) (by kernel_rfl) (by kernel_rfl) (by kernel_rfl) (fun _ _ _ h => h) (Or.inl ⟨by rfl, ?_⟩) (by assumption) ?_
   case refine_2 => exact z29
   try simp only [pS]
   refine ag (i := 6) (oi := ⟨some 21, _, _, _, _, _⟩) (v := ?_) rfl (by kernel_rfl) (by kernel_rfl) (by kernel_rfl) (by kernel_rfl) (by kernel_rfl) (fun _ _ _ h => h) (Or.inl ⟨by rfl, ?_⟩) (by assumption) ?_
   case refine_2 => exact z29
   try simp only [pS]
   refine bD (i := 7) (o := ⟨some 22, _, _, _, _, _⟩) (by kernel_rfl) rfl ?_
   intro K hK
   go_simp
   go_at_call 69
   (with_reducible refine (HCL.out _ hdo).mono ?_)
   rintro x w5 ⟨a5, c5, rfl, hown5, hb5⟩
   go_simp
   refine hK.out _ _ (Or.inr (hb5)) ?_
   clear hK K
   try simp only [pS]
   obtain ⟨hd5, ht5⟩ := IL hown5 rfl
   have hg5 := (J9.kept hb5).kept ((Below.refl _ _).alloc (Nat.le_refl _) (.cells (ah e a5 c5).toArray 64))
   have hbA : Below W.drew.heap.size W.drew (w5.alloc (.cells (ah e a5 c5).toArray 64)) := hb5.alloc hb5.size _
   have MN : CellsIn (w5.alloc (.cells (ah e a5 c5).toArray 64)) (some ⟨w5.heap.size, 0, none⟩) (ah e a5 c5) := Or.inr ⟨_, _, rfl, fun j u hj => by have := uw w5 e a5 c5 64 j u hj; rw [Addr.add_mid] at this; exact this⟩
   refine bD (i := 8) (o := ⟨some 23, _, _, _, _, _⟩) (by kernel_rfl) rfl ?_
   intro K hK
   refine bF (by rfl) 29 64 _ rfl (ah e a5 c5).toArray 19 rfl rfl (by decide) (by decide) Tryz.underlying29 (by kernel_rfl) (by kernel_rfl) ?_
   refine hK.out _ _ (Or.inr (hbA)) ?_
   clear hK K
   try simp only [pS]
   refine bD (i := 9) (o := ⟨some 24, _, _, _, _, _⟩) (by kernel_rfl) rfl ?_
   intro K hK
   refine ak (by rfl) (.tmp 15) (.tmp 23) 29 rfl w1.heap.size 64 i0 _ 19 176 Tryz.underlying29 hi hz0 hz1 hz2 rfl (by decide) _ ls.length (aU ls) rfl hg5.own (some ⟨w5.heap.size, 0, none⟩) 1 1 (ah e a5 c5) rfl rfl MN (dn e a5 c5) (by unfold maxLen; omega) (by omega) (by have := hbT.size; have := hbA.size; omega) ?_
   intro v6 w6 hown6 hg6
   refine y71 ?_
   clear hK K
   refine bD (i := 10) (o := ⟨some 5, _, _, _, _, _⟩) (by kernel_rfl) rfl ?_
   refine y6 ?_
   have hgN := EvsGr.app (x := (e, a5, c5)) hg5 hown6 hg6 (hd5.kept ((Below.refl _ _).alloc (Nat.le_refl _) _)) (ht5.imp id fun ⟨A', o', cs', f', q1, q2⟩ => ⟨A', o', cs', f', q1, (((Below.refl w5.heap.size w5).alloc (Nat.le_refl _) _).block A' (lt_of_block q2)).trans q2⟩)
   have hzT := hbT.size
   have hb6 : Below w1.heap.size w1 w6 := (hbT.trans (hbA.mono hzT)).grown hg6 (by have := hbA.size; omega) (fun j hj => (hg5.own.lt j hj).1)
   have HZ := Lib.hid (And.intro hgN hb6)
   clear hgN hb6 hown6 hg6 MN hg5 hd5 ht5 hown5 hbA y0 y1 y2 ym hlook J9 hb0 HCL hdo h2
   go_wp2
   go_roundw
   case rel => exact ⟨k + 1, ls ++ [(e, a5, c5)], by go_num, HLT.out, HZ.out.1, by
        rw [HT.out, List.map_append, ← HEV.out]
        show (ls ++ [(e, a5, c5)]).map (·.1) = _
        rw [List.map_append]
        show aQ ls ++ [e] = aQ ls ++ [evAt s.K e.dot]
        rw [HEA.out], HZ.out.2⟩
   case measure => exact z64
  ·obtain rfl : k = L.length := by omega
   obtain ⟨aG, cG, hG, _, hcap⟩ := dX hgr.own
   obtain ⟨aF, cF, rfl, hF⟩ := hgr.evs
   have hE : aQ ls = L.map (evAt s.K) ∧ ls.length ≤ cF ∧ ∀ x ∈ ls, TypD wr x.1 x.2.1 := by
        have hE0 := HEV.out
        rw [List.take_length] at hE0
        simp only [Value.slice.injEq] at hG
        exact ⟨hE0, by rw [hG.2.2]; exact hcap, hgr.typ⟩
   have HE := Lib.hid hE
   clear hE hgr hG hcap
   go_wp2
   all_goals
        go_ret
        exact ⟨aF, ls, cF, rfl, hF, HE.out, hb1.trans (hbr.mono hb1.size)⟩
def bP (s : MS) : List Ev := (sortD (s.K.map fun x => x.1.dot)).map (evAt s.K)
theorem ku {l m : List Dot} (h : ∀ x, x ∈ l ↔ x ∈ m) : sortD l = sortD m := yl (iI l) (iI m) fun x => by rw [df, df, h]
theorem gK (l : List Dot) (d : Dot) : aI (l ++ [d]) = aI l ++ [.int .i64 d.a.dev, .int .i64 d.a.inc, .int .i64 d.seq] := by simp [aI]
theorem G5 (K : List bg) : (kz K).map (·.1) = K.map fun x => x.1.dot := by simp [kz]
theorem uY (l : List Dot) : (ones l).map (·.1) = l := by
 unfold ones
 rw [List.map_map]
 exact List.map_id l
theorem _root_.Go.World.ownsRow.kept2 {S : Nat → Prop} {w w' : World} {base : Nat} {e : TypeId} {size : Nat} {v : Value} {n : Nat} {xs : List Value} (h : w.ownsRow base e size v n xs) (hf : Fr S w w') (hn : ∀ g, v.ownBlock = some g → ¬ S g) : w'.ownsRow base e size v n xs := by
 refine ⟨h.1, ?_⟩
 rcases h.2 with hn2 | ⟨g, cap, cur, hv, hbs, hg, rest⟩
 ·exact .inl hn2
 ·exact .inr ⟨g, cap, cur, hv, hbs, (hf.block g (lt_of_block hg) (hn g (by rw [hv]; rfl))).trans hg, rest⟩
theorem z56 {p : Prop} (h : p := by exact h4.block (hgrow.block _ h4.tab.lt (fun e => by have := (hown3.lt _ e.symm).1; omega)) (hgrow.block _ h4.lt (fun e => by have := (hown3.lt _ e.symm).1; omega))) : p := h
theorem z43 {p : Prop} (h : p := by
 clear hown4 hrg4 hgrow hown3 hrg3 y0 y1 y2
 go_wp2
 go_roundw
 case rel => exact ⟨rest', cnt2, ks ++ [x], HZ.out.2.1, HC2.out, HZ.out.1, HZ.out.2.2⟩
 case measure => rw [HZ.out.2.1.left_eq, HLE.out]; exact hlt) : p := h
theorem z82 {p : Prop} (h : p := by
 have h1 := hC.length_eq
 have h2 := hperm.length_eq
 simp at h1 h2 ⊢
 omega) : p := h
theorem z76 {p : Prop} (h : p := by
 have HZ := Lib.hid (And.intro (show w4.ownsRow (w.heap.size + 1) 56 3 v2 (ks ++ [x]).length (aI (ks ++ [x])) by rw [gK, List.length_append]; exact hown4) (And.intro hrg4 ((hbw3.trans (hb4.mono hbw3.size)).grown hgrow (by simp; omega) (fun j hj => by have := (hown3.lt j hj).1; omega))))
 exact z43) : p := h
theorem y60 {p q : Prop} (k : q) (h : PLift q → p := by
 intro kk
 obtain ⟨rest, cnt, ks, hrg, hC, hown, hbw⟩ := hrel
 have hzw : w.heap.size + 1 ≤ wr.heap.size := by have := hrg.lt; omega
 have HLE := Lib.hid hrg.left_eq
 revert rest cnt ks hrg hC hown hbw hzw HLE
 exact kk.down) : p := h ⟨k⟩
theorem y38 {p q : Prop} (k : q) (h : PLift q → p := by
 intro kk
 have hb4 : Below W3.heap.size W3 (W3.alloc (.cells #[.int .i64 x.a.dev, .int .i64 x.a.inc, .int .i64 x.seq] 56)) := (Below.refl _ _).alloc (Nat.le_refl _) _
 revert hb4
 exact kk.down) : p := h ⟨k⟩
theorem y25 {p q : Prop} (k : q) (h : PLift q → p := by
 intro kk
 have hown2 := hown.kept2 hg2 (fun g hg => by have := (hown.lt g hg).1; show ¬ g = w.heap.size; omega)
 have hb2 : Below w.heap.size w w2 := hbw.trans (hg2.below hbw.size (fun k hk => by rw [show k = w.heap.size from hk]; exact Nat.le_refl _))
 revert hown2 hb2
 exact kk.down) : p := h ⟨k⟩
theorem y18 {p q : Prop} (k : q) (h : PLift q → p := by
 intro kk
 refine aX (fun W3 hW3 => ?_)
 have hb3 : Below w2.heap.size w2 W3 := by rw [hW3.out]; go_grown
 have y0 : W3.cell? ⟨w2.heap.size, 0, none⟩ = some (.int .i64 x.a.dev) := by rw [hW3.out]; go_simp
 have y1 : W3.cell? ⟨w2.heap.size, 1, none⟩ = some (.int .i64 x.a.inc) := by rw [hW3.out]; go_simp
 have y2 : W3.cell? ⟨w2.heap.size, 2, none⟩ = some (.int .i64 x.seq) := by rw [hW3.out]; go_simp
 clear hW3
 have hown3 := ownsRow_below hown2 hb3
 have hrg3 := hrg2.kept hb3
 have hsz3 := hb3.size
 revert W3 hb3 y0 y1 y2 hown3 hrg3 hsz3
 exact kk.down) : p := h ⟨k⟩
theorem wM {m : Nat} {b : MB} {s : MS} (w : World) (h : MpIn w m b s) (hK : s.K.length ≤ 2048) (hov : ∀ x ∈ s.K, x.1.over.length ≤ 64) (hdk : ∀ x ∈ s.K, DotW x.1.dot) :
 Calls Tryz.prog 31 #[.pointer (some ⟨m, 0, none⟩)] w (Ag (bP s) w) := by
 obtain ⟨i0, hi, hz0, hz1, hz2⟩ := info_parts Tryz.infoDot
 obtain ⟨c0, c1, c2, c3⟩ := bZ h.cell
 have htab := h.kept
 have HH := Lib.hid h
 have HBK := Lib.hid (h.low (kL b s.A))
 have hKl : (kz s.K).length ≤ 2048 := by unfold kz; rw [List.length_map]; exact hK
 clear c1 c2 c3 h
 go_enter Tryz.func31, Tryz.ntmps31
 go_wp2_with (at_range; refine iG iY _ rfl _ 103 rfl 64 Tryz.underlying103 b.kb rfl htab ?_; intro w0 KE hrg0 hb0 hs0)
 go_frame
 go_loopw [3] (fun v wr => ∃ rest cnt ks, TabIt Tryz.prog 56 bT DotW evV wr b.kb w.heap.size (kz s.K) rest cnt ∧ (ks ++ rest.map (·.1)).Perm ((kz s.K).map (·.1)) ∧ wr.ownsRow (w.heap.size + 1) 56 3 v ks.length (aI ks) ∧ Below w.heap.size w wr) (fun _ wr => wr.rangeLeft b.kb w.heap.size)
 case atStart => exact ⟨(kz s.K), _, [], hrg0, List.Perm.refl _, World.ownsRow_nil _ _ _ _, hb0⟩
 case round =>
  obtain ⟨rest, cnt, ks, hrg, hC, hown, hbw⟩ := hrel
  have hzw : w.heap.size + 1 ≤ wr.heap.size := by have := hrg.lt; omega
  have HLE := Lib.hid hrg.left_eq
  go_wp2_with (at_next; refine gY iY _ rfl _ rfl b.kb w.heap.size cnt rfl hrg ?_ ?_)
  rotate_left
  ·intro x e ea ec rest' w2 cnt2 hperm hpm hrg2 hlt hg2 hs2 hen
   have hlen : ks.length < (kz s.K).length := by
        have h1 := hC.length_eq
        have h2 := hperm.length_eq
        simp at h1 h2 ⊢
        omega
   have HC2 : Hid (((ks ++ [x]) ++ rest'.map (·.1)).Perm ((kz s.K).map (·.1))) := by
        have h3 : (ks ++ rest.map (·.1)).Perm ((ks ++ [x]) ++ rest'.map (·.1)) := by
         have := (hperm.map (·.1)).append_left ks
         simpa using this
        exact h3.symm.trans hC
   have hNlt := hrg.lt
   have hown2 := hown.kept2 hg2 (fun g hg => by have := (hown.lt g hg).1; show ¬ g = w.heap.size; omega)
   have hb2 : Below w.heap.size w w2 := hbw.trans (hg2.below hbw.size (fun k hk => by rw [show k = w.heap.size from hk]; exact Nat.le_refl _))
   have hsz2 := hg2.size
   clear hs2 hown hrg hg2
   go_upto_region 7 with fail
   refine aX (fun W3 hW3 => ?_)
   have hb3 : Below w2.heap.size w2 W3 := by rw [hW3.out]; go_grown
   have y0 : W3.cell? ⟨w2.heap.size, 0, none⟩ = some (.int .i64 x.a.dev) := by rw [hW3.out]; go_simp
   have y1 : W3.cell? ⟨w2.heap.size, 1, none⟩ = some (.int .i64 x.a.inc) := by rw [hW3.out]; go_simp
   have y2 : W3.cell? ⟨w2.heap.size, 2, none⟩ = some (.int .i64 x.seq) := by rw [hW3.out]; go_simp
   clear hW3
   have hown3 := ownsRow_below hown2 hb3
   have hrg3 := hrg2.kept hb3
   have hsz3 := hb3.size
   have hbw3 : Below w.heap.size w W3 := hb2.trans (hb3.mono hb2.size)
   clear hown2 hrg2 hb2
   go_wp2_with (at_builtin; refine wpList_append_own _ rfl _ _ 30 rfl (w.heap.size + 1) 56 i0 (.agg #[.int .i64 0, .int .i64 0, .int .i64 0]) 3 24 Tryz.underlying30 hi hz0 hz1 hz2 rfl (by decide) _ _ _ rfl (hown3.alloc _) ⟨W3.heap.size, 0, none⟩ 1 1 [.int .i64 x.a.dev, .int .i64 x.a.inc, .int .i64 x.seq] rfl rfl (gU _ _ _) (by simp [Value.oneCell']) (by unfold maxLen; omega) (by omega) (by simp; omega) ?_; intro v2 w4 hown4 hgrow _)
   have hb4 : Below W3.heap.size W3 (W3.alloc (.cells #[.int .i64 x.a.dev, .int .i64 x.a.inc, .int .i64 x.seq] 56)) := (Below.refl _ _).alloc (Nat.le_refl _) _
   have hrg4 : TabIt Tryz.prog 56 bT DotW evV w4 b.kb w.heap.size (kz s.K) rest' cnt2 := by
        have h4 := hrg3.kept hb4
        have hlo : b.kb < w.heap.size + 1 := by have := HBK.out; omega
        exact h4.block (hgrow.block _ h4.tab.lt (fun e => by have := (hown3.lt _ e.symm).1; omega)) (hgrow.block _ h4.lt (fun e => by have := (hown3.lt _ e.symm).1; omega))
   have HZ := Lib.hid (And.intro (show w4.ownsRow (w.heap.size + 1) 56 3 v2 (ks ++ [x]).length (aI (ks ++ [x])) by rw [gK, List.length_append]; exact hown4) (And.intro hrg4 ((hbw3.trans (hb4.mono hbw3.size)).grown hgrow (by simp; omega) (fun j hj => by have := (hown3.lt j hj).1; omega))))
   clear hown4 hrg4 hgrow hown3 hrg3 y0 y1 y2
   go_wp2
   go_roundw
   case rel => exact ⟨rest', cnt2, ks ++ [x], HZ.out.2.1, HC2.out, HZ.out.1, HZ.out.2.2⟩
   case measure => rw [HZ.out.2.1.left_eq, HLE.out]; exact hlt
  ·intro hr0
   subst hr0
   have hperm : ks.Perm ((kz s.K).map (·.1)) := by simpa using hC
   have hkl : ks.length ≤ 1073741824 := by have := hperm.length_eq; simp at this; omega
   obtain ⟨aL, cL, rfl, hinL⟩ := gy hown
   rw [G5] at hperm
   have HS := Lib.hid (nG aL cL ks wr (HH.out.kept_w hbw) hkl hov (fun d hd => by obtain ⟨x, hx, rfl⟩ := List.mem_map.1 (hperm.mem_iff.1 hd); exact hdk x hx) (fun d hd => by obtain ⟨x, hx, rfl⟩ := List.mem_map.1 (hperm.mem_iff.1 hd); exact ⟨x, hx, rfl⟩) hinL)
   have HE : Hid (bP s = (sortD ks).map (evAt s.K)) := by unfold Hid bP; rw [ku (fun x => hperm.mem_iff)]
   clear hperm hinL hown hrg hC
   go_wp2_with (go_at_call 82; (with_reducible refine HS.out.mono ?_); rintro x w5 ⟨a5, ls, c5, rfl, h1, h2, h3⟩)
   go_ret
   exact ⟨a5, ls, c5, rfl, h1, by rw [HE.out]; exact h2, hbw.trans (h3.mono hbw.size)⟩
theorem oU {P : Program} {fn : Func} {R : Ending → World → Prop} {a : Act} {w : World} (p u : Tmp) (ty t : TypeId) (g : Nat) (c : Array Value) (d : TypeDesc) (v : Value) (hr : fn.results = #[.cell p ty, .tmp u])
 (hp : a.tmps.getD p undef = .pointer (some ⟨g, 0, none⟩)) (hv : a.tmps.getD u undef = v) (hg : w.heap[g]? = some (.cells c t (0, 0))) (hu : P.underlying ty = some d) (hd : d.isRow = true) (hi : (P.info? ty).map (·.size) = some c.size)
 (hde : a.defers = []) (hR : R (.returned (.tuple #[.agg c, v])) w) : bodyPost P fn R .ret a w := by
 have h1 : w.rangeAt g 0 c.toList := fun j v hv => by
  exact z113
 have h2 := run_loadVar_mid (P := P) w g 0 ty c.toList d h1 hu hd (by simpa using hi)
 refine bodyPost_ret ?_ hde hR
 rw [results_cell_tmp hr, hp, hv]
 simp [asAddr, h2, Result.andThen]
/-- behind an Apply that was done -/
structure Done (m : Nat) (b : MB) (s : MS) (e : Ev) (w w' : World) (s' : MS) : Prop where
 map : MpIn w' m b s'
 inv : MInv s'
 keeps : KeepsC w w'
 below : ∀ n, n ≤ w.heap.size → (∀ k, foot b s.A k → n ≤ k) → Below n w w' ∧ ∀ k, foot b s'.A k → n ≤ k
 applied : Applied s e s'
theorem RetAp.done {m : Nat} {b : MB} {s : MS} {e : Ev} {w w' : World} {x : Ending} (h : RetAp m b s e w x w') (hm : MpIn w m b s) (hi : MInv s) (hok : jJ s e = true) :
 ∃ s', x = .returned (.tuple #[.bool true, .int .i64 0]) ∧ Done m b s e w w' s' := by
 obtain ⟨s', rfl, h1, h2, h3, h4⟩ := h
 rw [if_pos hok] at h4
 have he : kR s e = 0 := by
  obtain ⟨q1, q2, q3, q4⟩ := jX hok
  unfold kR
  rw [if_pos q1, q2, if_neg (by simp), if_pos q3, if_pos q4]
 refine ⟨s', by rw [hok, he], h1, hi.applied hok h4, hm.keeps h2 (fun _ h => h), fun n hn hf => ⟨h2.below hn hf, fun k hk => ?_⟩, h4⟩
 rcases h3 k hk with h5 | h5
 ·exact hf k h5
 ·omega
end Go.Proofs.YtdlmbflhbecggaaGreat
