/- Packages dot and clock, their tests and orders, and the references'. Conditions: none. -/
import Derived.Test.YtohcmljigcdmbaaGreatChecked
import Derived.Test.YtohcmljigcdmbaaGreatEq
set_option linter.unusedSimpArgs false
set_option linter.unusedVariables false
set_option linter.unnecessarySimpa false
set_option maxHeartbeats 16000000
set_option maxRecDepth 100000
namespace Go.Proofs.YtohcmljigcdmbaaGreat
open Go.RowKit
theorem isNaN_any (a : Int) (w : World) :
 Calls Tryz.prog 123 #[.int .i64 a] w fun e w' => e = .returned (.bool false) ∧ w = w' := by
 go_enter Tryz.func123, Tryz.ntmps123
 go_wp2
 go_ret
 exact ⟨ret_bool (by simp), rfl⟩
theorem compare_any (a b : Int) (w : World) :
 Calls Tryz.prog 85 #[.int .i64 a, .int .i64 b] w fun e w' => e = .returned (.int .i64 (cmpI a b)) ∧ w = w' := by
 go_enter Tryz.func85, Tryz.ntmps85
 go_wp2_with (go_at_call 123; refine (isNaN_any _ _).mono ?_; rintro e w1 ⟨rfl, rfl⟩)
 all_goals
  go_ret
  exact ⟨ret_int (by unfold cmpI; split <;> (try split) <;> omega), rfl⟩
theorem or_any (a b : Int) (A : Nat) (w : World) (h0 : w.cell? ⟨A, 0, none⟩ = some (.int .i64 a)) (h1 : w.cell? ⟨A, 1, none⟩ = some (.int .i64 b)) :
 Calls Tryz.prog 83 #[.slice (some ⟨A, 0, none⟩) 2 2] w fun e w' => e = .returned (.int .i64 (orI a b)) ∧ w = w' := by
 go_enter Tryz.func83, Tryz.ntmps83
 go_wp2
 go_rounds 3
 all_goals
  go_ret
  exact ⟨ret_int (by unfold orI; simp_all), rfl⟩
theorem actor_any (a : Actor) (w : World) :
 Calls Tryz.prog 108 #[.agg #[.int .i64 a.dev, .int .i64 a.inc]] w fun e w' => e = .returned (.bool (actorOk a)) ∧ Below w.heap.size w w' := by
 go_enter Tryz.func108, Tryz.ntmps108
 go_wp2
 all_goals
  go_ret
  exact ⟨ret_bool (by unfold actorOk; rw [Bool.eq_iff_iff]; simp <;> omega), by go_grown⟩
theorem dotRight_any (d : Dot) (w : World) :
 Calls Tryz.prog 70 #[.agg #[.int .i64 d.a.dev, .int .i64 d.a.inc, .int .i64 d.seq]] w fun e w' => e = .returned (.bool (dotOk d)) ∧ Below w.heap.size w w' := by
 have HD : Hid (dotOk d = (actorOk d.a && (decide (1 ≤ d.seq) && decide (d.seq ≤ 4294967296)))) := rfl
 go_enter Tryz.func70, Tryz.ntmps70
 go_wp2_with (go_at_call 108; refine (actor_any _ _).mono ?_; rintro e w1 ⟨rfl, hb⟩; obtain ⟨hc, hf⟩ := bcell hb)
 all_goals
  go_ret
  exact ⟨ret_bool (by rw [HD.out]; simp [*] <;> omega), below2 ((Below.refl _ _).alloc (Nat.le_refl _) _) hb⟩
theorem cmpActor_any (a b : Actor) (w : World) :
 Calls Tryz.prog 104 #[.agg #[.int .i64 a.dev, .int .i64 a.inc], .agg #[.int .i64 b.dev, .int .i64 b.inc]] w fun e w' => e = .returned (.int .i64 (cmpActor a b)) ∧ Below w.heap.size w w' := by
 go_enter Tryz.func104, Tryz.ntmps104
 go_wp2
 go_region_held3 (fun w' => w'.cell? ⟨w.heap.size, 0, none⟩ = some (.int .i64 a.dev) ∧ w'.cell? ⟨w.heap.size, 1, none⟩ = some (.int .i64 a.inc) ∧ w'.cell? ⟨w.heap.size+1, 0, none⟩ = some (.int .i64 b.dev) ∧ w'.cell? ⟨w.heap.size+1, 1, none⟩ = some (.int .i64 b.inc)) (go_keep)
  (first
   | (go_at_call 85; refine (compare_any _ _ _).mono ?_; rintro e w1 ⟨rfl, rfl⟩)
   | (go_at_call 83; go_call or_any (cmpI a.dev b.dev) (cmpI a.inc b.inc) as e w1 ⟨rfl, rfl⟩))
 go_wp2
 go_ret
 exact ⟨rfl, by go_grown⟩
theorem order_any (a b : Dot) (w : World) :
 Calls Tryz.prog 127 #[.agg #[.int .i64 a.a.dev, .int .i64 a.a.inc, .int .i64 a.seq], .agg #[.int .i64 b.a.dev, .int .i64 b.a.inc, .int .i64 b.seq]] w fun e w' => e = .returned (.int .i64 (cmpDot a b)) ∧ Below w.heap.size w w' := by
 go_enter Tryz.func127, Tryz.ntmps127
 go_wp2
 go_region_held3 (fun w' => w'.cell? ⟨w.heap.size, 0, none⟩ = some (.int .i64 a.a.dev) ∧ w'.cell? ⟨w.heap.size, 1, none⟩ = some (.int .i64 a.a.inc) ∧ w'.cell? ⟨w.heap.size, 2, none⟩ = some (.int .i64 a.seq) ∧ w'.cell? ⟨w.heap.size+1, 0, none⟩ = some (.int .i64 b.a.dev) ∧ w'.cell? ⟨w.heap.size+1, 1, none⟩ = some (.int .i64 b.a.inc) ∧ w'.cell? ⟨w.heap.size+1, 2, none⟩ = some (.int .i64 b.seq)) (first | (refine ⟨?_, ?_, ?_, ?_, ?_, ?_⟩ <;> ((with_reducible refine kept hb ?_); simp [*]; done)) | go_keep)
  (first
   | (go_at_call 85; refine (compare_any _ _ _).mono ?_; rintro e w1 ⟨rfl, rfl⟩)
   | (go_at_call 104; refine (cmpActor_any a.a b.a _).mono ?_; rintro e w1 ⟨rfl, hb⟩)
   | (go_at_call 83; go_call or_any (cmpActor a.a b.a) (cmpI a.seq b.seq) as e w2 ⟨rfl, rfl⟩))
 go_wp2
 go_ret
 refine ⟨rfl, ?_⟩
 have h0 : Below w.heap.size w ((w.alloc (Obj.cells #[.int .i64 a.a.dev, .int .i64 a.a.inc, .int .i64 a.seq] 25)).alloc (Obj.cells #[.int .i64 b.a.dev, .int .i64 b.a.inc, .int .i64 b.seq] 25)).drew := by go_grown
 exact ((h0.trans (hb.mono h0.size)).alloc (by have := (below2 h0 hb).size; omega) _)
theorem less_any (a b : Dot) (w : World) :
 Calls Tryz.prog 110 #[.agg #[.int .i64 a.a.dev, .int .i64 a.a.inc, .int .i64 a.seq], .agg #[.int .i64 b.a.dev, .int .i64 b.a.inc, .int .i64 b.seq]] w fun e w' => e = .returned (.bool (dotLt a b)) ∧ Below w.heap.size w w' := by
 have HD := Lib.hid (cmpDot_lt a b)
 go_enter Tryz.func110, Tryz.ntmps110
 go_wp2_with (go_at_call 127; refine (order_any a b _).mono ?_; rintro e w1 ⟨rfl, hb⟩)
 go_ret
 exact ⟨ret_bool (by rw [← HD.out]), below2 (by go_grown) hb⟩
theorem clockWithin_any (n m : Int) (w : World) :
 Calls Tryz.prog 109 #[.int .i64 n, .int .i64 m] w fun e w' => e = .returned (.bool (decide (0 ≤ n) && decide (n ≤ m))) ∧ w = w' := by
 go_enter Tryz.func109, Tryz.ntmps109
 go_wp2
 all_goals
  go_ret
  exact ⟨ret_bool (by rw [Bool.eq_iff_iff]; simp <;> omega), rfl⟩
theorem clockRight_any (s : Stamp) (w : World) :
 Calls Tryz.prog 71 #[.agg #[.int .i64 s.wall, .int .i64 s.count, .int .i64 s.dev]] w fun e w' => e = .returned (.bool (stampOk s)) ∧ Below w.heap.size w w' := by
 go_enter Tryz.func71, Tryz.ntmps71
 go_wp2_with (go_at_call 109; refine (clockWithin_any _ _ _).mono ?_; rintro e w1 ⟨rfl, rfl⟩)
 all_goals
  go_ret
  exact ⟨ret_bool (by unfold stampOk; rw [Bool.eq_iff_iff]; simp [*] <;> omega), by go_grown⟩
/-- dots in memory, three cells each -/
structure DotsAt (w : World) (A off : Nat) (l : List Dot) : Prop where
 dev : ∀ i (h : i < l.length), w.cell? ⟨A, off + i * 3, none⟩ = some (.int .i64 l[i].a.dev)
 inc : ∀ i (h : i < l.length), w.cell? ⟨A, off + i * 3 + 1, none⟩ = some (.int .i64 l[i].a.inc)
 seq : ∀ i (h : i < l.length), w.cell? ⟨A, off + i * 3 + 2, none⟩ = some (.int .i64 l[i].seq)
theorem DotsAt.kept {w w' : World} {A off : Nat} {l : List Dot} (h : DotsAt w A off l) (hb : Below w.heap.size w w') : DotsAt w' A off l :=
 ⟨fun i hi => YtohcmljigcdmbaaGreat.kept hb (h.dev i hi), fun i hi => YtohcmljigcdmbaaGreat.kept hb (h.inc i hi), fun i hi => YtohcmljigcdmbaaGreat.kept hb (h.seq i hi)⟩
/-- a slice of dots -/
def DotsIn (w : World) (a : Option Addr) (l : List Dot) : Prop := l = [] ∨ ∃ A off, a = some ⟨A, off, none⟩ ∧ DotsAt w A off l
theorem DotsIn.kept {w w' : World} {a : Option Addr} {l : List Dot} (h : DotsIn w a l) (hb : Below w.heap.size w w') : DotsIn w' a l := by
 rcases h with h | ⟨A, off, h1, h2⟩
 ·exact Or.inl h
 ·exact Or.inr ⟨A, off, h1, h2.kept hb⟩
def overOne (d : Dot) (p : Option Dot) (x : Dot) : Bool := dotOk x && ((match p with | none => true | some y => dotLt y x) && !(decide (x.a = d.a) && decide (d.seq ≤ x.seq)))
def overFrom (d : Dot) : Option Dot → List Dot → Bool
 | _, [] => true
 | p, x :: r => overOne d p x && overFrom d (some x) r
def overOk (d : Dot) (l : List Dot) : Bool := decide (l.length ≤ 64) && overFrom d none l
/-- the dot ahead of place k -/
def prevAt (l : List Dot) : Nat → Option Dot
 | 0 => none
 | k + 1 => l[k]?
theorem overFrom_step (d : Dot) (l : List Dot) (k : Nat) (h : k < l.length) : overFrom d (prevAt l k) (l.drop k) = (overOne d (prevAt l k) l[k] && overFrom d (prevAt l (k + 1)) (l.drop (k + 1))) := by
 rw [List.drop_eq_getElem_cons h, overFrom]
 congr 1
 simp [prevAt, h]
theorem below2' {B : Nat} {W0 wr W1 wi : World} (h : Below B W0 wr) (h1 : Below wr.heap.size wr W1) (h2 : Below W1.heap.size W1 wi) (hB : B ≤ W0.heap.size := by omega) : Below B W0 wi :=
 h.trans ((below2 h1 h2).mono (Nat.le_trans hB h.size))
theorem over_some (d : Dot) (v3 v4 v5 v6 v7 v8 v9 v10 v11 v12 v13 v14 v15 v16 v17 : Value) (A off cap : Nat) (l : List Dot) (w : World) (hd : DotsAt w A off l) (hl : l.length ≤ 1073741824) :
 Calls Tryz.prog 72 #[.agg #[.int .i64 d.a.dev, .int .i64 d.a.inc, .int .i64 d.seq, v3, v4, v5, v6, v7, v8, v9, v10, v11, v12, v13, v14, v15, v16, v17, .slice (some ⟨A, off, none⟩) l.length cap]] w fun e w' => e = .returned (.bool (overOk d l)) ∧ Below w.heap.size w w' := by
 by_cases h64 : l.length ≤ 64
 ·have HO : Hid (overOk d l = overFrom d (prevAt l 0) (l.drop 0)) := by unfold Hid overOk; simp [h64, prevAt]
  go_enter Tryz.func72, Tryz.ntmps72
  go_upto_block 0 with fail
  refine wp_name (fun W0 hW0 => ?_)
  have hb0 : Below w.heap.size w W0 := by rw [hW0.out]; go_grown
  have hz0 : W0.heap.size = w.heap.size + 1 := by rw [hW0.out]; simp
  have c0 : W0.cell? ⟨w.heap.size, 0, none⟩ = some (.int .i64 d.a.dev) := by rw [hW0.out]; go_simp
  have c1 : W0.cell? ⟨w.heap.size, 1, none⟩ = some (.int .i64 d.a.inc) := by rw [hW0.out]; go_simp
  have c2 : W0.cell? ⟨w.heap.size, 2, none⟩ = some (.int .i64 d.seq) := by rw [hW0.out]; go_simp
  have c18 : W0.cell? ⟨w.heap.size, 18, none⟩ = some (.slice (some ⟨A, off, none⟩) l.length cap) := by rw [hW0.out]; go_simp
  have hd0 := hd.kept hb0
  clear hW0 hd
  go_wp2
  go_loopw [12] (fun i wr => ∃ k : Nat, k ≤ l.length ∧ i = .int .i64 k ∧ overOk d l = overFrom d (prevAt l k) (l.drop k) ∧ Below (w.heap.size + 1) W0 wr) (fun i _ => l.length - (intOf i).toNat)
  case atStart => exact ⟨0, Nat.zero_le _, rfl, HO.out, Below.refl _ _⟩
  case round =>
   obtain ⟨k, hk, rfl, hpre, hbw⟩ := hrel
   have HP := Lib.hid hpre
   clear hpre
   have hbw' : Below W0.heap.size W0 wr := hbw.mono (by omega)
   by_cases hlt : k < l.length
   ·have hdr := hd0.kept hbw'
    have e0 := hdr.dev k hlt
    have e1 := hdr.inc k hlt
    have e2 := hdr.seq k hlt
    have hst := overFrom_step d l k hlt
    have HT : Hid (overOk d l = (overOne d (prevAt l k) l[k] && overFrom d (prevAt l (k + 1)) (l.drop (k + 1)))) := by rw [Hid, HP.out, hst]
    clear hst HP
    generalize l[k] = x at e0 e1 e2 HT
    have hw0 := kept hbw' c0
    have hw1 := kept hbw' c1
    have hw2 := kept hbw' c2
    have hw18 := kept hbw' c18
    go_wp2
    refine wp_name (fun W1 hW1 => ?_)
    have hB1 : Below wr.heap.size wr W1 := by rw [hW1.out]; go_grown
    have x0 : W1.cell? ⟨wr.heap.size, 0, none⟩ = some (.int .i64 x.a.dev) := by rw [hW1.out]; go_simp
    have x1 : W1.cell? ⟨wr.heap.size, 1, none⟩ = some (.int .i64 x.a.inc) := by rw [hW1.out]; go_simp
    have x2 : W1.cell? ⟨wr.heap.size, 2, none⟩ = some (.int .i64 x.seq) := by rw [hW1.out]; go_simp
    replace hw0 := kept hB1 hw0
    replace hw1 := kept hB1 hw1
    replace hw2 := kept hB1 hw2
    replace hw18 := kept hB1 hw18
    replace hdr := hdr.kept hB1
    clear hW1 e0 e1 e2 c0 c1 c2 c18
    have hR0 := fun (W : World) => dotRight_any x W
    have hEq0 := fun (W : World) => eqActor W 9998 x.a d.a
    have hm := noGuardActor
    cases h1 : dotOk x with
    | false =>
      have HE : Hid (overOk d l = false) := by rw [Hid, HT.out]; unfold overOne; rw [h1]; simp
      rw [h1] at hR0
      have HR := Lib.hid hR0
      clear hR0 hEq0 h1
      refine wp_region_after (by kernel_rfl) (by kernel_rfl) (fun W2 hW2 => ?_)
      have a0 : ∀ i : After W2, i.w.cell? ⟨wr.heap.size, 0, none⟩ = some (.int .i64 x.a.dev) := fun i => i.cell (by rw [hW2.out]; exact x0)
      have a1 : ∀ i : After W2, i.w.cell? ⟨wr.heap.size, 1, none⟩ = some (.int .i64 x.a.inc) := fun i => i.cell (by rw [hW2.out]; exact x1)
      have a2 : ∀ i : After W2, i.w.cell? ⟨wr.heap.size, 2, none⟩ = some (.int .i64 x.seq) := fun i => i.cell (by rw [hW2.out]; exact x2)
      have b0 : ∀ i : After W2, i.w.cell? ⟨w.heap.size, 0, none⟩ = some (.int .i64 d.a.dev) := fun i => i.cell (by rw [hW2.out]; exact hw0)
      have b1 : ∀ i : After W2, i.w.cell? ⟨w.heap.size, 1, none⟩ = some (.int .i64 d.a.inc) := fun i => i.cell (by rw [hW2.out]; exact hw1)
      have b2 : ∀ i : After W2, i.w.cell? ⟨w.heap.size, 2, none⟩ = some (.int .i64 d.seq) := fun i => i.cell (by rw [hW2.out]; exact hw2)
      have b18 : ∀ i : After W2, i.w.cell? ⟨w.heap.size, 18, none⟩ = some (.slice (some ⟨A, off, none⟩) l.length cap) := fun i => i.cell (by rw [hW2.out]; exact hw18)
      skip
      go_big_quiet_step (fail)
      go_big_quiet_step (exact Calls.after (HR.out _))
      iterate 12 go_big_quiet_step (fail)
      go_big_quiet_step (exact Calls.after (HLT.out _))
      iterate 19 go_big_quiet_step (fail)
      refine wpQuiet_nil ?_
      rintro _ ⟨i, rfl⟩
      have hib := i.h
      clear a0 a1 a2 b0 b1 b2 b18
      skip
      generalize i.w = wi at hib ⊢
      rw [hW2.out] at hib
      go_wp2
      go_ret
      exact ⟨ret_bool HE.out.symm, hb0.trans ((below2' hbw hB1 hib).mono (by omega))⟩
    | true =>
      rw [h1] at hR0
      have HR := Lib.hid hR0
      clear hR0
      rcases Nat.eq_zero_or_pos k with hk0 | hk0
      ·have hk00 : ¬ 0 < k := by omega
       have hdk : decide (0 < k) = false := by simp; omega
       have hT2 : Hid (overOk d l = (!(decide (x.a = d.a) && decide (d.seq ≤ x.seq)) && overFrom d (prevAt l (k + 1)) (l.drop (k + 1)))) := by
            rw [Hid, HT.out]; unfold overOne; rw [h1]; subst hk0; simp [prevAt]
       clear HT h1 hk0
       by_cases h4 : x.a = d.a
       ·rw [decide_eq_true h4] at hEq0
        by_cases h5 : d.seq ≤ x.seq
        ·have HE : Hid (overOk d l = false) := by rw [Hid, hT2.out]; simp [h4, h5]
         clear h4 hT2
         refine wp_region_after (by kernel_rfl) (by kernel_rfl) (fun W2 hW2 => ?_)
         have a0 : ∀ i : After W2, i.w.cell? ⟨wr.heap.size, 0, none⟩ = some (.int .i64 x.a.dev) := fun i => i.cell (by rw [hW2.out]; exact x0)
         have a1 : ∀ i : After W2, i.w.cell? ⟨wr.heap.size, 1, none⟩ = some (.int .i64 x.a.inc) := fun i => i.cell (by rw [hW2.out]; exact x1)
         have a2 : ∀ i : After W2, i.w.cell? ⟨wr.heap.size, 2, none⟩ = some (.int .i64 x.seq) := fun i => i.cell (by rw [hW2.out]; exact x2)
         have b0 : ∀ i : After W2, i.w.cell? ⟨w.heap.size, 0, none⟩ = some (.int .i64 d.a.dev) := fun i => i.cell (by rw [hW2.out]; exact hw0)
         have b1 : ∀ i : After W2, i.w.cell? ⟨w.heap.size, 1, none⟩ = some (.int .i64 d.a.inc) := fun i => i.cell (by rw [hW2.out]; exact hw1)
         have b2 : ∀ i : After W2, i.w.cell? ⟨w.heap.size, 2, none⟩ = some (.int .i64 d.seq) := fun i => i.cell (by rw [hW2.out]; exact hw2)
         have b18 : ∀ i : After W2, i.w.cell? ⟨w.heap.size, 18, none⟩ = some (.slice (some ⟨A, off, none⟩) l.length cap) := fun i => i.cell (by rw [hW2.out]; exact hw18)
         skip
         go_big_quiet_step (fail)
         go_big_quiet_step (exact Calls.after (HR.out _))
         iterate 12 go_big_quiet_step (fail)
         go_big_quiet_step (exact Calls.after (HLT.out _))
         iterate 19 go_big_quiet_step (fail)
         refine wpQuiet_nil ?_
         rintro _ ⟨i, rfl⟩
         have hib := i.h
         clear a0 a1 a2 b0 b1 b2 b18
         skip
         generalize i.w = wi at hib ⊢
         rw [hW2.out] at hib
         go_wp2
         go_ret
         exact ⟨ret_bool HE.out.symm, hb0.trans ((below2' hbw hB1 hib).mono (by omega))⟩
        ·have HE : Hid (overOk d l = overFrom d (prevAt l (k + 1)) (l.drop (k + 1))) := by rw [Hid, hT2.out]; simp [h5]
         clear h4 hT2
         refine wp_region_after (by kernel_rfl) (by kernel_rfl) (fun W2 hW2 => ?_)
         have a0 : ∀ i : After W2, i.w.cell? ⟨wr.heap.size, 0, none⟩ = some (.int .i64 x.a.dev) := fun i => i.cell (by rw [hW2.out]; exact x0)
         have a1 : ∀ i : After W2, i.w.cell? ⟨wr.heap.size, 1, none⟩ = some (.int .i64 x.a.inc) := fun i => i.cell (by rw [hW2.out]; exact x1)
         have a2 : ∀ i : After W2, i.w.cell? ⟨wr.heap.size, 2, none⟩ = some (.int .i64 x.seq) := fun i => i.cell (by rw [hW2.out]; exact x2)
         have b0 : ∀ i : After W2, i.w.cell? ⟨w.heap.size, 0, none⟩ = some (.int .i64 d.a.dev) := fun i => i.cell (by rw [hW2.out]; exact hw0)
         have b1 : ∀ i : After W2, i.w.cell? ⟨w.heap.size, 1, none⟩ = some (.int .i64 d.a.inc) := fun i => i.cell (by rw [hW2.out]; exact hw1)
         have b2 : ∀ i : After W2, i.w.cell? ⟨w.heap.size, 2, none⟩ = some (.int .i64 d.seq) := fun i => i.cell (by rw [hW2.out]; exact hw2)
         have b18 : ∀ i : After W2, i.w.cell? ⟨w.heap.size, 18, none⟩ = some (.slice (some ⟨A, off, none⟩) l.length cap) := fun i => i.cell (by rw [hW2.out]; exact hw18)
         skip
         go_big_quiet_step (fail)
         go_big_quiet_step (exact Calls.after (HR.out _))
         iterate 12 go_big_quiet_step (fail)
         go_big_quiet_step (exact Calls.after (HLT.out _))
         iterate 19 go_big_quiet_step (fail)
         refine wpQuiet_nil ?_
         rintro _ ⟨i, rfl⟩
         have hib := i.h
         clear a0 a1 a2 b0 b1 b2 b18
         skip
         generalize i.w = wi at hib ⊢
         rw [hW2.out] at hib
         go_wp2
         go_roundw
         case rel => exact ⟨k + 1, by omega, by go_num, HE.out, below2' hbw hB1 hib⟩
         case measure => simp [intOf] <;> omega
       ·rw [decide_eq_false h4] at hEq0
        have HE : Hid (overOk d l = overFrom d (prevAt l (k + 1)) (l.drop (k + 1))) := by rw [Hid, hT2.out]; simp [h4]
        clear h4 hT2
        refine wp_region_after (by kernel_rfl) (by kernel_rfl) (fun W2 hW2 => ?_)
        have a0 : ∀ i : After W2, i.w.cell? ⟨wr.heap.size, 0, none⟩ = some (.int .i64 x.a.dev) := fun i => i.cell (by rw [hW2.out]; exact x0)
        have a1 : ∀ i : After W2, i.w.cell? ⟨wr.heap.size, 1, none⟩ = some (.int .i64 x.a.inc) := fun i => i.cell (by rw [hW2.out]; exact x1)
        have a2 : ∀ i : After W2, i.w.cell? ⟨wr.heap.size, 2, none⟩ = some (.int .i64 x.seq) := fun i => i.cell (by rw [hW2.out]; exact x2)
        have b0 : ∀ i : After W2, i.w.cell? ⟨w.heap.size, 0, none⟩ = some (.int .i64 d.a.dev) := fun i => i.cell (by rw [hW2.out]; exact hw0)
        have b1 : ∀ i : After W2, i.w.cell? ⟨w.heap.size, 1, none⟩ = some (.int .i64 d.a.inc) := fun i => i.cell (by rw [hW2.out]; exact hw1)
        have b2 : ∀ i : After W2, i.w.cell? ⟨w.heap.size, 2, none⟩ = some (.int .i64 d.seq) := fun i => i.cell (by rw [hW2.out]; exact hw2)
        have b18 : ∀ i : After W2, i.w.cell? ⟨w.heap.size, 18, none⟩ = some (.slice (some ⟨A, off, none⟩) l.length cap) := fun i => i.cell (by rw [hW2.out]; exact hw18)
        skip
        go_big_quiet_step (fail)
        go_big_quiet_step (exact Calls.after (HR.out _))
        iterate 12 go_big_quiet_step (fail)
        go_big_quiet_step (exact Calls.after (HLT.out _))
        iterate 19 go_big_quiet_step (fail)
        refine wpQuiet_nil ?_
        rintro _ ⟨i, rfl⟩
        have hib := i.h
        clear a0 a1 a2 b0 b1 b2 b18
        skip
        generalize i.w = wi at hib ⊢
        rw [hW2.out] at hib
        go_wp2
        go_roundw
        case rel => exact ⟨k + 1, by omega, by go_num, HE.out, below2' hbw hB1 hib⟩
        case measure => simp [intOf] <;> omega
      ·obtain ⟨j, rfl⟩ : ∃ j, k = j + 1 := ⟨k - 1, by omega⟩
       have hj : j < l.length := by omega
       have f0 := hdr.dev j hj
       have f1 := hdr.inc j hj
       have f2 := hdr.seq j hj
       have hpv : prevAt l (j + 1) = some l[j] := by simp [prevAt, hj]
       have hT1 : Hid (overOk d l = (dotLt l[j] x && (!(decide (x.a = d.a) && decide (d.seq ≤ x.seq)) && overFrom d (prevAt l (j + 1 + 1)) (l.drop (j + 1 + 1))))) := by
            rw [Hid, HT.out, hpv]; unfold overOne; rw [h1]; simp [Bool.and_assoc]
       have hLT0 := fun (W : World) => less_any l[j] x W
       generalize l[j] = y at *
       have hdk : decide ((0 : Int) < (j : Int) + 1) = true := by simp <;> omega
       have hww : IntKind.i64.wrap ((j : Int) + 1 - 1) = (j : Int) := by rw [show (j : Int) + 1 - 1 = j by omega]; exact IntWalk.i64_in _ (by omega)
       clear HT h1 hpv hdr hd0
       cases h2 : dotLt y x with
       | false =>
         have HE : Hid (overOk d l = false) := by rw [Hid, hT1.out, h2]; rfl
         rw [h2] at hLT0
         have HLT := Lib.hid hLT0
         clear hLT0 hEq0 h2 hT1
         refine wp_region_after (by kernel_rfl) (by kernel_rfl) (fun W2 hW2 => ?_)
         have a0 : ∀ i : After W2, i.w.cell? ⟨wr.heap.size, 0, none⟩ = some (.int .i64 x.a.dev) := fun i => i.cell (by rw [hW2.out]; exact x0)
         have a1 : ∀ i : After W2, i.w.cell? ⟨wr.heap.size, 1, none⟩ = some (.int .i64 x.a.inc) := fun i => i.cell (by rw [hW2.out]; exact x1)
         have a2 : ∀ i : After W2, i.w.cell? ⟨wr.heap.size, 2, none⟩ = some (.int .i64 x.seq) := fun i => i.cell (by rw [hW2.out]; exact x2)
         have b0 : ∀ i : After W2, i.w.cell? ⟨w.heap.size, 0, none⟩ = some (.int .i64 d.a.dev) := fun i => i.cell (by rw [hW2.out]; exact hw0)
         have b1 : ∀ i : After W2, i.w.cell? ⟨w.heap.size, 1, none⟩ = some (.int .i64 d.a.inc) := fun i => i.cell (by rw [hW2.out]; exact hw1)
         have b2 : ∀ i : After W2, i.w.cell? ⟨w.heap.size, 2, none⟩ = some (.int .i64 d.seq) := fun i => i.cell (by rw [hW2.out]; exact hw2)
         have b18 : ∀ i : After W2, i.w.cell? ⟨w.heap.size, 18, none⟩ = some (.slice (some ⟨A, off, none⟩) l.length cap) := fun i => i.cell (by rw [hW2.out]; exact hw18)
         have g0 : ∀ i : After W2, i.w.cell? ⟨A, off + j * 3, none⟩ = some (.int .i64 y.a.dev) := fun i => i.cell (by rw [hW2.out]; exact f0)
         have g1 : ∀ i : After W2, i.w.cell? ⟨A, off + j * 3 + 1, none⟩ = some (.int .i64 y.a.inc) := fun i => i.cell (by rw [hW2.out]; exact f1)
         have g2 : ∀ i : After W2, i.w.cell? ⟨A, off + j * 3 + 2, none⟩ = some (.int .i64 y.seq) := fun i => i.cell (by rw [hW2.out]; exact f2)
         go_big_quiet_step (fail)
         go_big_quiet_step (exact Calls.after (HR.out _))
         iterate 12 go_big_quiet_step (fail)
         go_big_quiet_step (exact Calls.after (HLT.out _))
         iterate 19 go_big_quiet_step (fail)
         refine wpQuiet_nil ?_
         rintro _ ⟨i, rfl⟩
         have hib := i.h
         clear a0 a1 a2 b0 b1 b2 b18
         clear g0 g1 g2 hww
         generalize i.w = wi at hib ⊢
         rw [hW2.out] at hib
         go_wp2
         go_ret
         exact ⟨ret_bool HE.out.symm, hb0.trans ((below2' hbw hB1 hib).mono (by omega))⟩
       | true =>
         have hT2 : Hid (overOk d l = (!(decide (x.a = d.a) && decide (d.seq ≤ x.seq)) && overFrom d (prevAt l (j + 1 + 1)) (l.drop (j + 1 + 1)))) := by
          rw [Hid, hT1.out, h2]; rfl
         rw [h2] at hLT0
         have HLT := Lib.hid hLT0
         clear hLT0 h2 hT1
         by_cases h4 : x.a = d.a
         ·rw [decide_eq_true h4] at hEq0
          by_cases h5 : d.seq ≤ x.seq
          ·have HE : Hid (overOk d l = false) := by rw [Hid, hT2.out]; simp [h4, h5]
           clear h4 hT2
           refine wp_region_after (by kernel_rfl) (by kernel_rfl) (fun W2 hW2 => ?_)
           have a0 : ∀ i : After W2, i.w.cell? ⟨wr.heap.size, 0, none⟩ = some (.int .i64 x.a.dev) := fun i => i.cell (by rw [hW2.out]; exact x0)
           have a1 : ∀ i : After W2, i.w.cell? ⟨wr.heap.size, 1, none⟩ = some (.int .i64 x.a.inc) := fun i => i.cell (by rw [hW2.out]; exact x1)
           have a2 : ∀ i : After W2, i.w.cell? ⟨wr.heap.size, 2, none⟩ = some (.int .i64 x.seq) := fun i => i.cell (by rw [hW2.out]; exact x2)
           have b0 : ∀ i : After W2, i.w.cell? ⟨w.heap.size, 0, none⟩ = some (.int .i64 d.a.dev) := fun i => i.cell (by rw [hW2.out]; exact hw0)
           have b1 : ∀ i : After W2, i.w.cell? ⟨w.heap.size, 1, none⟩ = some (.int .i64 d.a.inc) := fun i => i.cell (by rw [hW2.out]; exact hw1)
           have b2 : ∀ i : After W2, i.w.cell? ⟨w.heap.size, 2, none⟩ = some (.int .i64 d.seq) := fun i => i.cell (by rw [hW2.out]; exact hw2)
           have b18 : ∀ i : After W2, i.w.cell? ⟨w.heap.size, 18, none⟩ = some (.slice (some ⟨A, off, none⟩) l.length cap) := fun i => i.cell (by rw [hW2.out]; exact hw18)
           have g0 : ∀ i : After W2, i.w.cell? ⟨A, off + j * 3, none⟩ = some (.int .i64 y.a.dev) := fun i => i.cell (by rw [hW2.out]; exact f0)
           have g1 : ∀ i : After W2, i.w.cell? ⟨A, off + j * 3 + 1, none⟩ = some (.int .i64 y.a.inc) := fun i => i.cell (by rw [hW2.out]; exact f1)
           have g2 : ∀ i : After W2, i.w.cell? ⟨A, off + j * 3 + 2, none⟩ = some (.int .i64 y.seq) := fun i => i.cell (by rw [hW2.out]; exact f2)
           go_big_quiet_step (fail)
           go_big_quiet_step (exact Calls.after (HR.out _))
           iterate 12 go_big_quiet_step (fail)
           go_big_quiet_step (exact Calls.after (HLT.out _))
           iterate 19 go_big_quiet_step (fail)
           refine wpQuiet_nil ?_
           rintro _ ⟨i, rfl⟩
           have hib := i.h
           clear a0 a1 a2 b0 b1 b2 b18
           clear g0 g1 g2 hww
           generalize i.w = wi at hib ⊢
           rw [hW2.out] at hib
           go_wp2
           go_ret
           exact ⟨ret_bool HE.out.symm, hb0.trans ((below2' hbw hB1 hib).mono (by omega))⟩
          ·have HE : Hid (overOk d l = overFrom d (prevAt l (j + 1 + 1)) (l.drop (j + 1 + 1))) := by rw [Hid, hT2.out]; simp [h5]
           clear h4 hT2
           refine wp_region_after (by kernel_rfl) (by kernel_rfl) (fun W2 hW2 => ?_)
           have a0 : ∀ i : After W2, i.w.cell? ⟨wr.heap.size, 0, none⟩ = some (.int .i64 x.a.dev) := fun i => i.cell (by rw [hW2.out]; exact x0)
           have a1 : ∀ i : After W2, i.w.cell? ⟨wr.heap.size, 1, none⟩ = some (.int .i64 x.a.inc) := fun i => i.cell (by rw [hW2.out]; exact x1)
           have a2 : ∀ i : After W2, i.w.cell? ⟨wr.heap.size, 2, none⟩ = some (.int .i64 x.seq) := fun i => i.cell (by rw [hW2.out]; exact x2)
           have b0 : ∀ i : After W2, i.w.cell? ⟨w.heap.size, 0, none⟩ = some (.int .i64 d.a.dev) := fun i => i.cell (by rw [hW2.out]; exact hw0)
           have b1 : ∀ i : After W2, i.w.cell? ⟨w.heap.size, 1, none⟩ = some (.int .i64 d.a.inc) := fun i => i.cell (by rw [hW2.out]; exact hw1)
           have b2 : ∀ i : After W2, i.w.cell? ⟨w.heap.size, 2, none⟩ = some (.int .i64 d.seq) := fun i => i.cell (by rw [hW2.out]; exact hw2)
           have b18 : ∀ i : After W2, i.w.cell? ⟨w.heap.size, 18, none⟩ = some (.slice (some ⟨A, off, none⟩) l.length cap) := fun i => i.cell (by rw [hW2.out]; exact hw18)
           have g0 : ∀ i : After W2, i.w.cell? ⟨A, off + j * 3, none⟩ = some (.int .i64 y.a.dev) := fun i => i.cell (by rw [hW2.out]; exact f0)
           have g1 : ∀ i : After W2, i.w.cell? ⟨A, off + j * 3 + 1, none⟩ = some (.int .i64 y.a.inc) := fun i => i.cell (by rw [hW2.out]; exact f1)
           have g2 : ∀ i : After W2, i.w.cell? ⟨A, off + j * 3 + 2, none⟩ = some (.int .i64 y.seq) := fun i => i.cell (by rw [hW2.out]; exact f2)
           go_big_quiet_step (fail)
           go_big_quiet_step (exact Calls.after (HR.out _))
           iterate 12 go_big_quiet_step (fail)
           go_big_quiet_step (exact Calls.after (HLT.out _))
           iterate 19 go_big_quiet_step (fail)
           refine wpQuiet_nil ?_
           rintro _ ⟨i, rfl⟩
           have hib := i.h
           clear a0 a1 a2 b0 b1 b2 b18
           clear g0 g1 g2 hww
           generalize i.w = wi at hib ⊢
           rw [hW2.out] at hib
           go_wp2
           go_roundw
           case rel => exact ⟨(j + 1) + 1, by omega, by go_num, HE.out, below2' hbw hB1 hib⟩
           case measure => simp [intOf] <;> omega
         ·rw [decide_eq_false h4] at hEq0
          have HE : Hid (overOk d l = overFrom d (prevAt l (j + 1 + 1)) (l.drop (j + 1 + 1))) := by rw [Hid, hT2.out]; simp [h4]
          clear h4 hT2
          refine wp_region_after (by kernel_rfl) (by kernel_rfl) (fun W2 hW2 => ?_)
          have a0 : ∀ i : After W2, i.w.cell? ⟨wr.heap.size, 0, none⟩ = some (.int .i64 x.a.dev) := fun i => i.cell (by rw [hW2.out]; exact x0)
          have a1 : ∀ i : After W2, i.w.cell? ⟨wr.heap.size, 1, none⟩ = some (.int .i64 x.a.inc) := fun i => i.cell (by rw [hW2.out]; exact x1)
          have a2 : ∀ i : After W2, i.w.cell? ⟨wr.heap.size, 2, none⟩ = some (.int .i64 x.seq) := fun i => i.cell (by rw [hW2.out]; exact x2)
          have b0 : ∀ i : After W2, i.w.cell? ⟨w.heap.size, 0, none⟩ = some (.int .i64 d.a.dev) := fun i => i.cell (by rw [hW2.out]; exact hw0)
          have b1 : ∀ i : After W2, i.w.cell? ⟨w.heap.size, 1, none⟩ = some (.int .i64 d.a.inc) := fun i => i.cell (by rw [hW2.out]; exact hw1)
          have b2 : ∀ i : After W2, i.w.cell? ⟨w.heap.size, 2, none⟩ = some (.int .i64 d.seq) := fun i => i.cell (by rw [hW2.out]; exact hw2)
          have b18 : ∀ i : After W2, i.w.cell? ⟨w.heap.size, 18, none⟩ = some (.slice (some ⟨A, off, none⟩) l.length cap) := fun i => i.cell (by rw [hW2.out]; exact hw18)
          have g0 : ∀ i : After W2, i.w.cell? ⟨A, off + j * 3, none⟩ = some (.int .i64 y.a.dev) := fun i => i.cell (by rw [hW2.out]; exact f0)
          have g1 : ∀ i : After W2, i.w.cell? ⟨A, off + j * 3 + 1, none⟩ = some (.int .i64 y.a.inc) := fun i => i.cell (by rw [hW2.out]; exact f1)
          have g2 : ∀ i : After W2, i.w.cell? ⟨A, off + j * 3 + 2, none⟩ = some (.int .i64 y.seq) := fun i => i.cell (by rw [hW2.out]; exact f2)
          go_big_quiet_step (fail)
          go_big_quiet_step (exact Calls.after (HR.out _))
          iterate 12 go_big_quiet_step (fail)
          go_big_quiet_step (exact Calls.after (HLT.out _))
          iterate 19 go_big_quiet_step (fail)
          refine wpQuiet_nil ?_
          rintro _ ⟨i, rfl⟩
          have hib := i.h
          clear a0 a1 a2 b0 b1 b2 b18
          clear g0 g1 g2 hww
          generalize i.w = wi at hib ⊢
          rw [hW2.out] at hib
          go_wp2
          go_roundw
          case rel => exact ⟨(j + 1) + 1, by omega, by go_num, HE.out, below2' hbw hB1 hib⟩
          case measure => simp [intOf] <;> omega
   ·have HE : Hid (overOk d l = true) := by rw [Hid, HP.out, List.drop_eq_nil_of_le (by omega)]; rfl
    go_wp2
    go_ret
    exact ⟨ret_bool HE.out.symm, hb0.trans (hbw.mono (by omega))⟩
 ·have HE : Hid (overOk d l = false) := by unfold Hid overOk; simp [h64]
  go_enter Tryz.func72, Tryz.ntmps72
  go_wp2
  go_ret
  exact ⟨ret_bool HE.out.symm, by go_grown⟩
theorem over_any (d : Dot) (v3 v4 v5 v6 v7 v8 v9 v10 v11 v12 v13 v14 v15 v16 v17 : Value) (a : Option Addr) (cap : Nat) (l : List Dot) (w : World) (hd : DotsIn w a l) (hl : l.length ≤ 1073741824) :
 Calls Tryz.prog 72 #[.agg #[.int .i64 d.a.dev, .int .i64 d.a.inc, .int .i64 d.seq, v3, v4, v5, v6, v7, v8, v9, v10, v11, v12, v13, v14, v15, v16, v17, .slice a l.length cap]] w fun e w' => e = .returned (.bool (overOk d l)) ∧ Below w.heap.size w w' := by
 rcases hd with rfl | ⟨A, off, rfl, hd⟩
 ·have HE : Hid (overOk d [] = true) := rfl
  rw [List.length_nil]
  go_enter Tryz.func72, Tryz.ntmps72
  go_wp2
  go_rounds 1
  go_ret
  exact ⟨ret_bool HE.out.symm, by go_grown⟩
 ·exact over_some d v3 v4 v5 v6 v7 v8 v9 v10 v11 v12 v13 v14 v15 v16 v17 A off cap l w hd hl
end Go.Proofs.YtohcmljigcdmbaaGreat
