/- A long region that draws: its lexical check in pieces. Conditions: none. -/
import Derived.Test.YtcijajjngmmbeaaGreatKit
set_option linter.unusedSimpArgs false
set_option linter.unusedVariables false
set_option linter.unnecessarySimpa false
namespace Go.Proofs.YtcijajjngmmbeaaGreat
open Go.RowKit

/-- one step of the lexical order -/
def okStep (md : Region.Mode) (ops : Array Oper) (listed : Array Bool) (k : Nat) : Bool :=
  !listed.getD k true && ((ops[k]?).map (·.after.all fun e => !Region.binds md e || listed.getD e.on false)).getD false
theorem okStep_ready {md : Region.Mode} {ops : Array Oper} {listed : Array Bool} {k : Nat} (h : okStep md ops listed k = true) : (Region.ready md ops listed).contains k = true := by
  have hk : k < ops.size := by
    cases ho : ops[k]? with
    | none => unfold okStep at h; rw [ho] at h; simp at h
    | some o => exact (Array.getElem?_eq_some_iff.1 ho).1
  rw [List.contains_iff_mem]
  unfold Region.ready
  rw [List.mem_filter, List.mem_range]
  exact ⟨hk, h⟩
def lexSteps (md : Region.Mode) (ops : Array Oper) : Nat → Nat → Array Bool → Bool
  | 0, _, _ => true
  | n + 1, k, L => okStep md ops L k && (Region.free md ops L k && lexSteps md ops n (k + 1) (L.setIfInBounds k true))
def markL : Nat → Nat → Array Bool → Array Bool
  | 0, _, L => L
  | n + 1, k, L => markL n (k + 1) (L.setIfInBounds k true)
theorem lexFrom_cut {md : Region.Mode} {ops : Array Oper} : ∀ (n m k : Nat) (L : Array Bool), lexSteps md ops n k L = true → Region.lexFrom md ops m (k + n) (markL n k L) = true → Region.lexFrom md ops (n + m) k L = true
  | 0, m, k, L, _, h => by simpa [markL] using h
  | n + 1, m, k, L, h1, h2 => by
    unfold lexSteps at h1
    simp only [Bool.and_eq_true] at h1
    obtain ⟨a, b, c⟩ := h1
    rw [show n + 1 + m = (n + m) + 1 by omega]
    unfold Region.lexFrom
    rw [okStep_ready a, b, Bool.true_and, Bool.true_and]
    refine lexFrom_cut n m (k + 1) _ c ?_
    rw [show k + 1 + n = k + (n + 1) by omega]
    exact h2
theorem markL_add : ∀ (n m k : Nat) (L : Array Bool), markL m (k + n) (markL n k L) = markL (n + m) k L
  | 0, m, k, L => by simp [markL]
  | n + 1, m, k, L => by
    rw [show n + 1 + m = (n + m) + 1 by omega]
    show markL m (k + (n + 1)) (markL n (k + 1) (L.setIfInBounds k true)) = markL (n + m) (k + 1) (L.setIfInBounds k true)
    rw [← markL_add n m (k + 1)]
    rw [show k + 1 + n = k + (n + 1) by omega]
/-- pieces of c steps each -/
theorem lexB_pieces {md : Region.Mode} {ops : Array Oper} (c q r : Nat) (hs : ops.size = c * q + r) (hn : Region.noSelect ops = true)
    (hp : ∀ i, i < q → lexSteps md ops c (c * i) (markL (c * i) 0 (Array.replicate ops.size false)) = true)
    (he : Region.lexFrom md ops r (c * q) (markL (c * q) 0 (Array.replicate ops.size false)) = true) : Region.lexB md ops = true := by
  unfold Region.lexB
  rw [hn, Bool.true_and]
  have key : ∀ j, j ≤ q → Region.lexFrom md ops (c * j + r) (c * (q - j)) (markL (c * (q - j)) 0 (Array.replicate ops.size false)) = true := by
    intro j
    induction j with
    | zero => intro _; simpa using he
    | succ j ih =>
      intro hj
      have h1 := hp (q - (j + 1)) (by omega)
      have h2 := ih (by omega)
      have e1 : c * (q - j) = c * (q - (j + 1)) + c := by
        rw [show q - j = (q - (j + 1)) + 1 by omega, Nat.mul_add, Nat.mul_one]
      rw [show c * (j + 1) + r = c + (c * j + r) by rw [Nat.mul_add]; omega]
      refine lexFrom_cut c _ _ _ h1 ?_
      have e2 := markL_add (c * (q - (j + 1))) c 0 (Array.replicate ops.size false)
      rw [Nat.zero_add] at e2
      rw [e2, ← e1]
      exact h2
  have := key q (Nat.le_refl _)
  rw [Nat.sub_self, Nat.mul_zero] at this
  conv => lhs; rw [hs]
  rw [← hs]
  simpa [markL, hs] using this
end Go.Proofs.YtcijajjngmmbeaaGreat
