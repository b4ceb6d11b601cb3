/- The disk's law: are steps few and short? Conditions: as in the text. -/
import Derived.Test.YtbkelbdeodbhcaaDStepB
set_option linter.unusedSimpArgs false
set_option linter.unusedVariables false
set_option linter.unnecessarySimpa false
namespace Go.Proofs.Ytbkelbdeodbhcaa
open Go.RowKit

def stLight (s : StepIt) : Bool := decide (s.name.size ≤ 100) && (decide (s.dst.size ≤ 100) && (decide (s.b.length ≤ 300) && decide (s.l.length ≤ 30)))
theorem stLight_iff {s : StepIt} (h : stLight s = true) : Light s := by
  unfold stLight at h
  simp only [Bool.and_eq_true, decide_eq_true_eq] at h
  exact ⟨h.1, h.2.1, h.2.2.1, h.2.2.2⟩
def stsLight (ls : List StepIt) (most : Nat) : Bool := decide (ls.length ≤ most) && ls.all stLight
abbrev scs (ls : List StepIt) : List Value := ls.flatMap stCells
theorem scs_len (ls : List StepIt) : (scs ls).length = ls.length * 6 := by
  induction ls with
  | nil => rfl
  | cons s r ih => unfold scs at *; rw [List.flatMap_cons, List.length_append, ih, List.length_cons]; simp; omega
theorem scs_drop : ∀ (l : List StepIt) (k : Nat), (scs l).drop (k * 6) = scs (l.drop k)
  | l, 0 => by simp
  | [], k + 1 => by simp [scs]
  | g :: l, k + 1 => by
    rw [show (k + 1) * 6 = k * 6 + 6 by omega, List.drop_succ_cons, ← scs_drop l k]
    simp [scs]
theorem scs_at {w : World} {a : Option Addr} {ls : List StepIt} (h : CellsIn w a (scs ls)) {k : Nat} (hk : k < ls.length) : ∃ A off, a = some ⟨A, off, none⟩ ∧ w.rangeAt A (off + k * 6) (stCells ls[k]) := by
  rcases h with h | ⟨A, off, h1, h2⟩
  · have := congrArg List.length h
    rw [scs_len] at this
    simp at this
    omega
  · refine ⟨A, off, h1, fun j v hv => ?_⟩
    have hj : j < 6 := by have := (List.getElem?_eq_some_iff.1 hv).1; simpa using this
    have := h2 (k * 6 + j) v (by
      rw [← List.getElem?_drop, scs_drop, List.drop_eq_getElem_cons hk]
      unfold scs
      rw [List.flatMap_cons, List.getElem?_append_left (by simpa using hj)]
      exact hv)
    rwa [← Nat.add_assoc] at this

set_option maxRecDepth 100000 in
set_option maxHeartbeats 2000000 in
theorem light_any (a : Option Addr) (cap most : Nat) (ls : List StepIt) (w : World) (hl : ls.length ≤ maxLen) (hm : most ≤ 1048576) (h : CellsIn w a (scs ls)) :
    Calls Try.prog 6 #[.slice a ls.length cap, .int .i64 most] w fun e w' => e = .returned (.bool (stsLight ls most)) ∧ w = w' := by
  unfold maxLen at hl
  by_cases h0 : ls.length ≤ most
  case neg =>
    have hr : stsLight ls most = false := by unfold stsLight; rw [decide_eq_false h0]; rfl
    rw [hr]
    have h1 : (most : Int) < (ls.length : Int) := by omega
    clear hr
    go_enter Try.func6, Try.ntmps6
    go_wp2
    all_goals
      go_ret
      exact ⟨rfl, rfl⟩
  case pos =>
  have HR : Hid (stsLight ls most = ls.all stLight) := Lib.hid (by unfold stsLight; rw [decide_eq_true h0]; rfl)
  have h1 : ¬ (most : Int) < (ls.length : Int) := by omega
  go_enter Try.func6, Try.ntmps6
  go_wp2
  go_loop [5] (fun i => ∃ k : Nat, i = .int .i64 k ∧ k ≤ ls.length ∧ ls.all stLight = (ls.drop k).all stLight) (fun i => ls.length - (intOf i).toNat)
  case atStart => exact ⟨0, rfl, Nat.zero_le _, rfl⟩
  case round =>
    obtain ⟨k, rfl, hk, hpre⟩ := hrel
    have HP := Lib.hid hpre
    clear hpre
    by_cases hlt : k < ls.length
    · obtain ⟨A, off, rfl, hr⟩ := scs_at h hlt
      have c2 := hr 2 _ rfl
      have c3 := hr 3 _ rfl
      have c4 := hr 4 _ rfl
      have c5 := hr 5 _ rfl
      have HD : Hid ((ls.drop k).all stLight = (stLight ls[k] && (ls.drop (k + 1)).all stLight)) := Lib.hid (by rw [List.drop_eq_getElem_cons hlt]; rfl)
      clear hr
      generalize ls[k] = s at c2 c3 c4 c5 HD
      obtain ⟨kd, n, nm, dst, bs, ab, cb, kl, al, cl⟩ := s
      simp only at c2 c3 c4 c5
      by_cases g : nm.size ≤ 100 ∧ dst.size ≤ 100 ∧ bs.length ≤ 300 ∧ kl.length ≤ 30
      · obtain ⟨g1, g2, g3, g4⟩ := g
        have HE : Hid (ls.all stLight = (ls.drop (k + 1)).all stLight) := Lib.hid (by rw [HP.out, HD.out]; unfold stLight; simp only [decide_eq_true g1, decide_eq_true g2, decide_eq_true g3, decide_eq_true g4, Bool.and_self, Bool.true_and])
        go_wp2
        go_round
        case rel => exact ⟨k + 1, by go_num, by omega, HE.out⟩
        case measure => simp [intOf]; omega
      · have HE : Hid (ls.all stLight = false) := Lib.hid (by
          rw [HP.out, HD.out]
          have : stLight ⟨kd, n, nm, dst, bs, ab, cb, kl, al, cl⟩ = false := by
            rw [Bool.eq_false_iff]
            intro e
            have := stLight_iff e
            exact g ⟨this.name, this.dst, this.b, this.l⟩
          rw [this]; rfl)
        have g' : 100 < nm.size ∨ (nm.size ≤ 100 ∧ 100 < dst.size) ∨ (nm.size ≤ 100 ∧ dst.size ≤ 100 ∧ 300 < bs.length) ∨ (nm.size ≤ 100 ∧ dst.size ≤ 100 ∧ bs.length ≤ 300 ∧ 30 < kl.length) := by omega
        rcases g' with g1 | ⟨g1, g2⟩ | ⟨g1, g2, g3⟩ | ⟨g1, g2, g3, g4⟩
        all_goals
          clear g
          go_wp2
          all_goals
            go_ret
            exact ⟨ret_bool (by rw [HR.out, HE.out]), rfl⟩
    · have HE : Hid (ls.all stLight = true) := Lib.hid (by rw [HP.out, List.drop_of_length_le (by omega)]; rfl)
      go_wp2
      go_ret
      exact ⟨ret_bool (by rw [HR.out, HE.out]), rfl⟩
end Go.Proofs.Ytbkelbdeodbhcaa
