/- The law OrmapFull, plainly: what a map holds behind the first i removals. Conditions: none. -/
import Derived.Test.YtcijajjngmmbeaaOrmQ
set_option linter.unusedSimpArgs false
set_option linter.unusedVariables false
set_option linter.unnecessarySimpa false
namespace Go.Proofs.Ytcijajjngmmbeaa
open Go.RowKit

theorem MInv.forget {w : World} {b : Nat} {s : MS} (hi : MInv s) (hk : KTab w b s.K) {d : Dot} (hok : fgOk s d = true) : MInv { s with K := lessK s.K d } := by
  refine ⟨hi.ctx, hi.ctxOk, fun x hx => hi.kept x (List.mem_filter.1 hx).1, fun k d' => ?_, hi.pnd, hi.dead, Nat.le_trans (List.length_filter_le _ _) hi.len⟩
  show (k, d') ∈ s.pairs ↔ ∃ x ∈ lessK s.K d, x.1.kind = 1 ∧ x.1.dot = d' ∧ x.1.key = k ∧ d' ∉ s.dead
  rw [hi.pairs]
  constructor
  · rintro ⟨x, hx, y1, y2, y3, y4⟩
    refine ⟨x, List.mem_filter.2 ⟨hx, decide_eq_true fun e => ?_⟩, y1, y2, y3, y4⟩
    rw [← e, fgOk_at hk hx, decide_eq_true y1, y2, decide_eq_false y4] at hok
    cases hok
  · rintro ⟨x, hx, y⟩
    exact ⟨x, (List.mem_filter.1 hx).1, y⟩
def fA : Actor := ⟨0, 1⟩
def fOver : List Dot := [⟨⟨1, 1⟩, 1⟩]
def fEv (i : Int) : Ev := ⟨⟨fA, i⟩, stamp0, 2, key0, ck0, fOver⟩
theorem fEv_small (i : Int) : EvSmall (fEv i) := ⟨show key0.name.size ≤ _ by decide, show key0.domain.size ≤ _ by decide, show key0.path.size ≤ _ by decide, show ck0.value.size ≤ _ by decide, show fOver.length ≤ _ by decide⟩
theorem fDot_ok {i : Int} (h1 : 1 ≤ i) (h2 : i ≤ 4000) : dotOk ⟨fA, i⟩ = true := by
  have h : actorOk fA = true := by decide
  unfold dotOk
  rw [h]
  simp
  omega
theorem fEv_ok {i : Int} (h1 : 1 ≤ i) (h2 : i ≤ 4000) : evOk (fEv i) = true := by
  have a : stampOk stamp0 = true := by decide +kernel
  have b : overOk ⟨fA, i⟩ fOver = true := by
    simp [overOk, overFrom, overOne, fOver, fA, dotOk, actorOk]
  have c : kindOk (fEv i) = true := by
    unfold kindOk fEv
    simp [fOver]
  unfold evOk
  rw [show (fEv i).dot = ⟨fA, i⟩ from rfl, fDot_ok h1 h2, show (fEv i).stamp = stamp0 from rfl, a, show (fEv i).over = fOver from rfl, b, c]
  rfl
/-- behind the first i events -/
structure FullS (s : MS) (i : Nat) : Prop where
  ctx : s.ctx = if i = 0 then [] else [⟨fA, i⟩]
  len : s.K.length = i
  all : ∀ j : Nat, 1 ≤ j → j ≤ i → ∃ x ∈ s.K, x.1 = fEv j
theorem FullS.empty : FullS MS.empty 0 := ⟨rfl, rfl, fun j h1 h2 => absurd h1 (by omega)⟩
theorem FullS.get {s : MS} {i : Nat} (h : FullS s i) : getM s.ctx fA = i := by
  rw [h.ctx]
  split
  · rename_i h0; subst h0; rfl
  · simp [getM]
theorem FullS.ap {s : MS} {i : Nat} (h : FullS s i) (hi : i < 2048) : apOk s (fEv (i + 1)) = true := by
  unfold apOk
  have h1 : hasM s.ctx (fEv (i + 1)).dot = false := by
    unfold hasM
    rw [show (fEv (i + 1)).dot.a = fA from rfl, h.get, show (fEv (i + 1)).dot.seq = (i : Int) + 1 from rfl, decide_eq_false (by omega), Bool.and_false]
  rw [fEv_ok (by omega) (by omega), h1, show (fEv (i + 1)).dot.a = fA from rfl, h.get, show (fEv (i + 1)).dot.seq = (i : Int) + 1 from rfl, h.len]
  simp
  omega
theorem FullS.next {s s' : MS} {i : Nat} (h : FullS s i) (ha : Applied s (fEv (i + 1)) s') : FullS s' (i + 1) := by
  obtain ⟨a, c, hk⟩ := ha.kept
  refine ⟨?_, by rw [hk.length_eq, List.length_cons, h.len], fun j h1 h2 => ?_⟩
  · rw [ha.ctx, h.ctx]
    show setM _ fA ((i : Int) + 1) = _
    rw [if_neg (show ¬ (i + 1 = 0) by omega)]
    split
    · simp [setM]
    · simp [setM]
  · rcases Nat.lt_or_ge j (i + 1) with h3 | h3
    · obtain ⟨x, hx, he⟩ := h.all j h1 (by omega)
      exact ⟨x, hk.mem_iff.2 (List.mem_cons_of_mem _ hx), he⟩
    · obtain rfl : j = i + 1 := by omega
      exact ⟨_, hk.mem_iff.2 List.mem_cons_self, by simp⟩
theorem FullS.has {s : MS} {i : Nat} (h : FullS s i) {j : Int} (h1 : 1 ≤ j) (h2 : j ≤ 4000) : hasM s.ctx (fEv j).dot = decide (j ≤ i) := by
  unfold hasM
  rw [show (fEv j).dot.a = fA from rfl, h.get, show (fEv j).dot.seq = j from rfl, show (fEv j).dot = ⟨fA, j⟩ from rfl, fDot_ok h1 h2, Bool.true_and]
theorem FullS.full {s : MS} (h : FullS s 2048) : apOk s (fEv 2049) = false ∧ apErr s (fEv 2049) = 9 := by
  have h1 := h.has (j := 2049) (by omega) (by omega)
  rw [decide_eq_false (by omega)] at h1
  have h2 : getM s.ctx (fEv 2049).dot.a + 1 = (fEv 2049).dot.seq := by
    rw [show (fEv 2049).dot.a = fA from rfl, h.get]
    rfl
  have h3 := h.len
  constructor
  · unfold apOk
    rw [h3, decide_eq_false (show ¬ 2048 < 2048 by omega)]
    simp
  · unfold apErr
    rw [if_pos (fEv_ok (by omega) (by omega)), h1, if_neg (by simp), if_pos h2, h3, if_neg (by omega)]
theorem FullS.old {s : MS} (h : FullS s 2048) {j : Int} (h1 : 1 ≤ j) (h2 : j ≤ 2048) : apOk s (fEv j) = false ∧ apErr s (fEv j) = 0 := by
  have h3 := h.has (j := j) h1 (by omega)
  rw [decide_eq_true (by omega)] at h3
  constructor
  · unfold apOk
    rw [h3]
    simp
  · unfold apErr
    rw [if_pos (fEv_ok h1 (by omega)), h3, if_pos rfl]
theorem FullS.fg {s : MS} {i : Nat} (h : FullS s i) {j : Nat} (h1 : 1 ≤ j) (h2 : j ≤ i) : fgOk s ⟨fA, j⟩ = true := by
  obtain ⟨x, hx, he⟩ := h.all j h1 h2
  unfold fgOk
  rw [List.any_eq_true]
  refine ⟨x, hx, ?_⟩
  rw [he]
  simp [fEv]
theorem FullS.less {w : World} {b : Nat} {s : MS} {i : Nat} (h : FullS s i) (hk : KTab w b s.K) {j : Nat} (h1 : 1 ≤ j) (h2 : j ≤ i) : (lessK s.K ⟨fA, j⟩).length + 1 = i := by
  obtain ⟨x, hx, he⟩ := h.all j h1 h2
  have hp := (keep_perm hk.nodup hx).length_eq
  rw [he, List.length_cons, h.len] at hp
  exact hp.symm
/-- one is forgotten: the next one is kept -/
theorem FullS.again {s : MS} (h : FullS s 2048) {K : List EvIt} (hK : K.length = 2047) : apOk { s with K := K } (fEv 2049) = true := by
  have h1 := h.has (j := 2049) (by omega) (by omega)
  rw [decide_eq_false (by omega)] at h1
  have h2 : getM s.ctx (fEv 2049).dot.a + 1 = (fEv 2049).dot.seq := by
    rw [show (fEv 2049).dot.a = fA from rfl, h.get]
    rfl
  unfold apOk
  rw [fEv_ok (by omega) (by omega)]
  show (true && (!hasM s.ctx (fEv 2049).dot && (decide (getM s.ctx (fEv 2049).dot.a + 1 = (fEv 2049).dot.seq) && decide (K.length < 2048)))) = true
  rw [h1, decide_eq_true h2, hK]
  rfl
end Go.Proofs.Ytcijajjngmmbeaa
