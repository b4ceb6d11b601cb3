/- Rows of one's own beside a map. Conditions: none. -/
import Derived.Test.YtcijajjngmmbeaaGreatLawDm
set_option linter.unusedSimpArgs false
set_option linter.unusedVariables false
set_option linter.unnecessarySimpa false
namespace Go.Proofs.YtcijajjngmmbeaaGreat
open Go.RowKit

theorem own_keepC {w w' : World} {base n size : Nat} {e : TypeId} {v : Value} {xs : List Value} (h : w.ownsRow base e size v n xs) (hk : KeepsC w w') : w'.ownsRow base e size v n xs := by
  refine ⟨h.1, ?_⟩
  rcases h.2 with h2 | ⟨g, cap, cur, hv, hbs, hb, rest⟩
  · exact .inl h2
  · exact .inr ⟨g, cap, cur, hv, hbs, hk _ _ _ _ hb, rest⟩
/-- a row of events grows: a map beside it stays -/
theorem mp_grown {w w' : World} {m base n : Nat} {b : MB} {s : MS} {u : Value} {xs : List Value} (h : MpIn w m b s) (hty : ∀ x ∈ s.K, TypD w x.1 x.2.1) (hown : w.ownsRow base 42 19 u n xs) (hg : w.grownBy w' u.ownBlock) :
    MpIn w' m b s ∧ ∀ x ∈ s.K, TypD w' x.1 x.2.1 := by
  have hne : ∀ (k : Nat) (o : Obj), w.heap[k]? = some o → (∀ cs f, o ≠ Obj.cells cs 42 f) → w'.heap[k]? = w.heap[k]? := fun k o hk ho => hg.block k (lt_of_block hk) (fun e => by
    rcases hown.2 with ⟨rfl, _⟩ | ⟨g, cap, cur, rfl, _, hgb, _⟩
    · simp [Value.ownBlock] at e
    · obtain rfl : k = g := by simpa [Value.ownBlock] using e
      rw [hk] at hgb
      simp only [Option.some.injEq] at hgb
      exact ho _ _ hgb)
  have hf : ∀ k, foot b s.A k → w'.heap[k]? = w.heap[k]? := fun k hk => by
    obtain ⟨es, cl, e⟩ := h.maps hk
    exact hne k _ e (fun _ _ => by simp)
  have hc : ∀ (k : Nat) (cs : Array Value) (t : TypeId) (f : Nat × Nat), w.heap[k]? = some (Obj.cells cs t f) → t ≠ 42 → w'.heap[k]? = w.heap[k]? := fun k cs t f e ht => hne k _ e (fun _ _ e2 => by
    simp only [Obj.cells.injEq] at e2
    exact ht e2.2.1)
  have hd : ∀ x ∈ s.K, DotsIn w' x.2.1 x.1.over := fun x hx => by
    rcases hty x hx with h1 | ⟨A, off, cs, f, h1, h2⟩
    · exact Or.inl h1
    · have hA := hc A _ _ _ h2 (by decide)
      rcases h.overs x hx with h3 | ⟨A', off', h3, h4⟩
      · exact Or.inl h3
      · rw [h1] at h3
        simp only [Option.some.injEq, Addr.mk.injEq, and_true] at h3
        obtain ⟨rfl, rfl⟩ := h3
        exact Or.inr ⟨A, off, h1, ⟨fun i hi => (World.cell?_of_block hA).trans (h4.dev i hi), fun i hi => (World.cell?_of_block hA).trans (h4.inc i hi), fun i hi => (World.cell?_of_block hA).trans (h4.seq i hi)⟩⟩
  exact ⟨⟨(hc m _ _ _ h.cell (by decide)).trans h.cell, h.vec.block (hc _ _ _ _ h.vec.cell (by decide)) (hf _ (foot_vb b _)), h.kept.block (hf _ (foot_kb b _)), hd, h.dead.block (hf _ (foot_db b _)), h.alive.block (hf _ (foot_ab b _)), fun p hp => (h.inner p hp).block (hf _ (foot_in b hp)), h.some, h.keys, h.nodup⟩,
    fun x hx => (hty x hx).imp id fun ⟨A, off, cs, f, h1, h2⟩ => ⟨A, off, cs, f, h1, (hc A _ _ _ h2 (by decide)).trans h2⟩⟩
theorem apErr_yes {s : MS} {e : Ev} (h : apOk s e = true) : apErr s e = 0 := by
  obtain ⟨q1, q2, q3, q4⟩ := apOk_parts h
  unfold apErr
  rw [if_pos q1, if_neg (by rw [q2]; decide), if_pos q3, if_pos q4]
theorem apOk_old {s : MS} {e : Ev} (h1 : evOk e = true) (h2 : hasM s.ctx e.dot = true) : apOk s e = false ∧ apErr s e = 0 := by
  constructor
  · unfold apOk
    rw [h2, Bool.not_true, Bool.false_and, Bool.and_false]
  · unfold apErr
    rw [if_pos h1, if_pos h2]
/-- Apply, where it is known how it ends -/
theorem mApply_yes {m : Nat} {b : MB} {s : MS} (e : Ev) (a : Option Addr) (cap : Nat) (w : World) (h : MpIn w m b s) (hi : MInv s) (hs : EvSmall e) (hin : DotsIn w a e.over) (hn0 : a = none → e.over = []) (hcl : s.ctx.length ≤ 536870912) (hdl : s.dead.length ≤ 536870912) (hty : ∀ x ∈ s.K, TypD w x.1 x.2.1) (hok : apOk s e = true) :
    Calls Tryz.prog 17 #[.pointer (some ⟨m, 0, none⟩), evVal e a cap] w fun x w' => ∃ s', x = .returned (.tuple #[.bool true, .int .i64 0]) ∧ MpIn w' m b s' ∧ KeepsC w w' ∧ Fr (foot b s.A) w w' ∧ (∀ k, foot b s'.A k → foot b s.A k ∨ w.heap.size ≤ k) ∧ Applied s e s' ∧ ∀ x ∈ s'.K, TypD w' x.1 x.2.1 := by
  refine (mApplyT_any e a cap w h hi hs hin hn0 hcl hdl).mono ?_
  rintro x w' ⟨s', rfl, h1, h2, h3, h4, h5⟩
  rw [hok, if_pos rfl] at h4
  have hk := h.keeps h2 (fun _ h => h)
  exact ⟨s', by rw [hok, apErr_yes hok], h1, hk, h2, h3, h4, fun x hx => (h5 x hx).elim (fun h => (hty x h).keepC hk) id⟩
theorem mApply_not {m : Nat} {b : MB} {s : MS} (e : Ev) (a : Option Addr) (cap : Nat) (w : World) (h : MpIn w m b s) (hi : MInv s) (hs : EvSmall e) (hin : DotsIn w a e.over) (hn0 : a = none → e.over = []) (hcl : s.ctx.length ≤ 536870912) (hdl : s.dead.length ≤ 536870912) (hok : apOk s e = false) :
    Calls Tryz.prog 17 #[.pointer (some ⟨m, 0, none⟩), evVal e a cap] w fun x w' => x = .returned (.tuple #[.bool false, .int .i64 (apErr s e)]) ∧ MpIn w' m b s ∧ KeepsC w w' ∧ Fr (foot b s.A) w w' := by
  refine (mApplyT_any e a cap w h hi hs hin hn0 hcl hdl).mono ?_
  rintro x w' ⟨s', rfl, h1, h2, h3, h4, h5⟩
  rw [hok, if_neg (by decide)] at h4
  subst h4
  exact ⟨by rw [hok], h1, h.keeps h2 (fun _ h => h), h2⟩
end Go.Proofs.YtcijajjngmmbeaaGreat
