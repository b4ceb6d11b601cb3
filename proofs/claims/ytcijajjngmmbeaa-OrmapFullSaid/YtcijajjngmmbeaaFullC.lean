/- OrmapFull: the calls at a map behind the first i removals. Conditions: as in the text. -/
import Derived.Test.YtcijajjngmmbeaaFullP
import Derived.Test.YtcijajjngmmbeaaOrmH
set_option linter.unusedSimpArgs false
set_option linter.unusedVariables false
set_option linter.unnecessarySimpa false
namespace Go.Proofs.Ytcijajjngmmbeaa
open Go.RowKit

/-- behind a call that left the map as it is -/
structure Stays (m : Nat) (b : MB) (s : MS) (w w' : World) : Prop where
  map : MpIn w' m b s
  keeps : KeepsC w w'
  below : ∀ n, n ≤ w.heap.size → (∀ k, foot b s.A k → n ≤ k) → Below n w w'
theorem RetAp.stays {m : Nat} {b : MB} {s : MS} {e : Ev} {w w' : World} {x : Ending} (h : RetAp m b s e w x w') (hm : MpIn w m b s) (hok : apOk s e = false) :
    x = .returned (.tuple #[.bool false, .int .i64 (apErr s e)]) ∧ Stays m b s w w' := by
  obtain ⟨s', rfl, h1, h2, h3, h4⟩ := h
  rw [hok, if_neg (by decide)] at h4
  subst h4
  exact ⟨by rw [hok], h1, hm.keeps h2 (fun _ h => h), fun n hn hf => h2.below hn hf⟩
abbrev valF (O : Nat) (i : Int) : Value := .agg #[.int .i64 0, .int .i64 1, .int .i64 i, .int .i64 0, .int .i64 0, .int .i64 0, .int .i64 2, .string ⟨#[]⟩, .string ⟨#[]⟩, .string ⟨#[]⟩, .string ⟨#[]⟩, .bool false, .bool false, .bool false, .bool false, .int .i64 0, .int .i64 0, .int .i64 0, .slice (some ⟨O, 0, none⟩) 1 1]
/-- the map behind the first i removals, all its blocks from n on -/
structure FullIn (w : World) (m : Nat) (b : MB) (s : MS) (n i : Nat) : Prop where
  map : MpIn w m b s
  inv : MInv s
  full : FullS s i
  dead : s.dead.length ≤ 64 * i
  low : ∀ k, foot b s.A k → n ≤ k
theorem FullS.ctxLen {s : MS} {i : Nat} (h : FullS s i) : s.ctx.length ≤ 1 := by
  rw [h.ctx]
  split <;> simp
theorem fOver_in {w : World} {O : Nat} (h : DotsIn w (some ⟨O, 0, none⟩) fOver) (i : Int) : DotsIn w (some ⟨O, 0, none⟩) (fEv i).over := h
theorem callF {m : Nat} {b : MB} {s : MS} {n i : Nat} (O : Nat) (w : World) (h : FullIn w m b s n i) (hn : n ≤ w.heap.size) (hlt : i < 2048) (hd : DotsIn w (some ⟨O, 0, none⟩) fOver) :
    Calls Try.prog 5 #[.pointer (some ⟨m, 0, none⟩), valF O ((i : Int) + 1)] w fun x w' => ∃ s', x = .returned (.tuple #[.bool true, .int .i64 0]) ∧ FullIn w' m b s' n (i + 1) ∧ KeepsC w w' ∧ Below n w w' := by
  have hdl := h.dead
  have hcl := h.full.ctxLen
  have hc : Calls Try.prog 5 #[.pointer (some ⟨m, 0, none⟩), valF O ((i : Int) + 1)] w (RetAp m b s (fEv ((i : Int) + 1)) w) := mApply_any (fEv ((i : Int) + 1)) (some ⟨O, 0, none⟩) 1 w h.map h.inv (fEv_small _) hd (fun h => by cases h) (by omega) (by omega)
  refine hc.mono fun x w' h2 => ?_
  have hsz := h2
  obtain ⟨s2, rfl, hD⟩ := h2.done h.map h.inv (h.full.ap hlt)
  obtain ⟨hb, hf⟩ := hD.below n hn h.low
  refine ⟨s2, rfl, ⟨hD.map, hD.inv, h.full.next hD.applied, ?_, hf⟩, hD.keeps, hb⟩
  have h4 := foldAdd_len (fEv ((i : Int) + 1)).over s.dead
  rw [hD.applied.dead]
  have : (fEv ((i : Int) + 1)).over.length = 1 := rfl
  omega
theorem callNot {m : Nat} {b : MB} {s : MS} {n : Nat} (O : Nat) (j r : Int) (w : World) (h : FullIn w m b s n 2048) (hn : n ≤ w.heap.size) (h1 : apOk s (fEv j) = false) (h2 : apErr s (fEv j) = r) (hd : DotsIn w (some ⟨O, 0, none⟩) fOver) :
    Calls Try.prog 5 #[.pointer (some ⟨m, 0, none⟩), valF O j] w fun x w' => x = .returned (.tuple #[.bool false, .int .i64 r]) ∧ FullIn w' m b s n 2048 ∧ KeepsC w w' ∧ Below n w w' := by
  have hdl := h.dead
  have hcl := h.full.ctxLen
  have hc : Calls Try.prog 5 #[.pointer (some ⟨m, 0, none⟩), valF O j] w (RetAp m b s (fEv j) w) := mApply_any (fEv j) (some ⟨O, 0, none⟩) 1 w h.map h.inv (fEv_small _) hd (fun h => by cases h) (by omega) (by omega)
  refine hc.mono fun x w' h3 => ?_
  obtain ⟨rfl, hS⟩ := h3.stays h.map h1
  exact ⟨by rw [h2], ⟨hS.map, h.inv, h.full, h.dead, h.low⟩, hS.keeps, hS.below n hn h.low⟩
theorem FullIn.room {w : World} {m : Nat} {b : MB} {s : MS} {n : Nat} (h : FullIn w m b s n 2048) : Calls Try.prog 6 #[.pointer (some ⟨m, 0, none⟩), .int .i64 1] w fun e w' => e = .returned (.bool false) ∧ w = w' := by
  have hl := h.full.len
  refine (mRoom1_any w h.map (by omega)).mono ?_
  rintro e w' ⟨rfl, h2⟩
  exact ⟨by rw [hl]; rfl, h2⟩
/-- one of them forgotten -/
structure LessIn (w : World) (m : Nat) (b : MB) (s : MS) (n : Nat) : Prop where
  map : MpIn w m b s
  inv : MInv s
  len : s.K.length = 2047
  ap : apOk s (fEv 2049) = true
  ctx : s.ctx.length ≤ 1
  dead : s.dead.length ≤ 131072
  low : ∀ k, foot b s.A k → n ≤ k
theorem callFg {m : Nat} {b : MB} {s : MS} {n : Nat} (J : Int) (w : World) (h : FullIn w m b s n 2048) (hn : n ≤ w.heap.size) (hJ1 : 1 ≤ J) (hJ2 : J ≤ 2048) :
    Calls Try.prog 7 #[.pointer (some ⟨m, 0, none⟩), .agg #[.int .i64 0, .int .i64 1, .int .i64 J]] w fun x w' => x = .returned (.bool true) ∧ (∃ s', LessIn w' m b s' n) ∧ KeepsC w w' ∧ Below n w w' := by
  obtain ⟨j, rfl⟩ : ∃ j : Nat, J = j := ⟨J.toNat, by omega⟩
  have h1 : 1 ≤ j := by omega
  have h2 : j ≤ 2048 := by omega
  have hok := h.full.fg h1 h2
  have hll := h.full.less h.map.kept h1 h2
  have hap := h.full.again (K := lessK s.K ⟨fA, j⟩) (by omega)
  have hd := h.dead
  refine (show Calls Try.prog 7 #[.pointer (some ⟨m, 0, none⟩), .agg #[.int .i64 0, .int .i64 1, .int .i64 j]] w (RetFg m b s ⟨fA, j⟩ w) from mForget_any ⟨fA, j⟩ (dotOk_W (fDot_ok (by omega) (by omega))) w h.map).mono ?_
  rintro x w' ⟨rfl, hm, hf⟩
  have hfo : ∀ k, isR b.kb k → foot b s.A k := fun k hk => by rw [show k = b.kb from hk]; exact foot_kb b _
  refine ⟨by rw [hok], ⟨{ s with K := lessK s.K ⟨fA, j⟩ }, ?_, h.inv.forget h.map.kept hok, by show (lessK s.K _).length = 2047; omega, hap, h.full.ctxLen, by show s.dead.length ≤ _; omega, h.low⟩, h.map.keeps hf hfo, hf.below hn (fun k hk => h.low k (hfo k hk))⟩
  have : fgMS s ⟨fA, j⟩ = { s with K := lessK s.K ⟨fA, j⟩ } := by unfold fgMS; rw [if_pos hok]
  rw [← this]
  exact hm
theorem callAgain {m : Nat} {b : MB} {s : MS} {n : Nat} (O : Nat) (w : World) (h : LessIn w m b s n) (hn : n ≤ w.heap.size) (hd : DotsIn w (some ⟨O, 0, none⟩) fOver) :
    Calls Try.prog 5 #[.pointer (some ⟨m, 0, none⟩), valF O 2049] w fun x w' => x = .returned (.tuple #[.bool true, .int .i64 0]) ∧ (∃ s', MpIn w' m b s' ∧ s'.K.length = 2048) ∧ Below n w w' := by
  have hdl := h.dead
  have hcl := h.ctx
  have hc : Calls Try.prog 5 #[.pointer (some ⟨m, 0, none⟩), valF O 2049] w (RetAp m b s (fEv 2049) w) := mApply_any (fEv 2049) (some ⟨O, 0, none⟩) 1 w h.map h.inv (fEv_small _) hd (fun h => by cases h) (by omega) (by omega)
  refine hc.mono fun x w' h2 => ?_
  obtain ⟨s2, rfl, hD⟩ := h2.done h.map h.inv h.ap
  obtain ⟨a, c, hk⟩ := hD.applied.kept
  exact ⟨rfl, ⟨s2, hD.map, by rw [hk.length_eq, List.length_cons, h.len]⟩, (hD.below n hn h.low).1⟩
theorem callLen {m : Nat} {b : MB} {s : MS} (w : World) (h : MpIn w m b s) (hl : s.K.length = 2048) : Calls Try.prog 8 #[.pointer (some ⟨m, 0, none⟩)] w fun e w' => e = .returned (.int .i64 2048) ∧ w = w' := by
  refine (mLen_any w h).mono ?_
  rintro e w' ⟨rfl, h2⟩
  exact ⟨by rw [hl]; rfl, h2⟩
end Go.Proofs.Ytcijajjngmmbeaa
