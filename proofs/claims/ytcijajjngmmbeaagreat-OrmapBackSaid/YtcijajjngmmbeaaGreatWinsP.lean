/- A map's winners, plainly. Conditions: none. -/
import Derived.Test.YtcijajjngmmbeaaGreatLawKeys
import Derived.Test.YtcijajjngmmbeaaGreatKeyOrd
set_option linter.unusedSimpArgs false
set_option linter.unusedVariables false
set_option linter.unnecessarySimpa false
namespace Go.Proofs.YtcijajjngmmbeaaGreat
open Go.RowKit

def SrtKs (l : List Ev) : Prop := l.Pairwise fun x y => keyLt x.key y.key = true
theorem srtKs_ext {l m : List Ev} (h : SrtKs l) (k : SrtKs m) (e : ∀ x, x ∈ l ↔ x ∈ m) : l = m := srt_ext (lt := fun x y : Ev => keyLt x.key y.key) (fun x => keyLt_irrefl x.key) (fun _ _ _ => keyLt_trans) h k e
/-- the winners of a map, by their keys -/
structure WinsOf (s : MS) (L : List Ev) : Prop where
  srt : SrtKs L
  mem : ∀ e, e ∈ L ↔ e ∈ aliveOf s ∧ (winOf (keyOfS s e.key)).1 = e
theorem WinsOf.ext {s : MS} {l m : List Ev} (h : WinsOf s l) (k : WinsOf s m) : l = m :=
  srtKs_ext h.srt k.srt fun e => (h.mem e).trans (k.mem e).symm
theorem foldl_winStep : ∀ (l : List Ev) (x : Ev), l.foldl winStep x = x ∨ l.foldl winStep x ∈ l
  | [], x => Or.inl rfl
  | e :: l, x => by
    rw [List.foldl_cons]
    rcases foldl_winStep l (winStep x e) with h | h
    · rw [h]
      unfold winStep
      split
      · exact Or.inl rfl
      · exact Or.inr List.mem_cons_self
    · exact Or.inr (List.mem_cons_of_mem _ h)
theorem winOf_mem {l : List Ev} (h : l ≠ []) : (winOf l).1 ∈ l := by
  cases l with
  | nil => exact absurd rfl h
  | cons x r =>
    show r.foldl winStep x ∈ x :: r
    rcases foldl_winStep r x with h | h
    · rw [h]; exact List.mem_cons_self
    · exact List.mem_cons_of_mem _ h
/-- the winners that the map tells -/
theorem winsOf_made {w : World} {m : Nat} {b : MB} {s : MS} (hm : MpIn w m b s) (hi : MInv s) (hnd : (s.K.map (·.1.dot)).Nodup) {ts : List Key} (hp : ts.Perm (s.A.map (·.1))) (hs : ts.Pairwise fun x y => keyLt x y = true) :
    WinsOf s (ts.map fun k => (winOf (keyOfS s k)).1) := by
  have hkey : ∀ k ∈ ts, (winOf (keyOfS s k)).1 ∈ keyOfS s k := fun k hk => by
    obtain ⟨p, hpA, rfl⟩ := List.mem_map.1 (hp.mem_iff.1 hk)
    refine winOf_mem (fun e => ?_)
    have h1 := hm.some p hpA
    have h2 := congrArg List.length e
    unfold keyOfS at h2
    rw [List.length_map, List.length_nil] at h2
    have h3 := List.length_eq_zero_iff.1 h2
    obtain ⟨d, hd⟩ := List.exists_mem_of_ne_nil _ h1
    have := sortD_mem.2 hd
    rw [h3] at this
    cases this
  have hk2 : ∀ k ∈ ts, (winOf (keyOfS s k)).1.key = k := fun k hk => ((keyOfS_mem hi hnd k).1 (hkey k hk)).2.2.2
  refine ⟨List.pairwise_map.2 (hs.imp_of_mem fun {a b} ha hb h => by rw [hk2 a ha, hk2 b hb]; exact h), fun e => ?_⟩
  rw [List.mem_map, aliveOf_mem hi hnd]
  constructor
  · rintro ⟨k, hk, rfl⟩
    obtain ⟨h1, h2, h3, h4⟩ := (keyOfS_mem hi hnd k).1 (hkey k hk)
    exact ⟨⟨h1, h2, h3⟩, by rw [hk2 k hk]⟩
  · rintro ⟨⟨⟨x, hx, rfl⟩, h2, h3⟩, h4⟩
    obtain ⟨n, hn⟩ := hm.keys (x.1.key, x.1.dot) ((hi.pairs _ _).2 ⟨x, hx, h2, rfl, rfl, h3⟩)
    exact ⟨x.1.key, hp.mem_iff.2 (List.mem_map.2 ⟨_, hn, rfl⟩), h4⟩

/-! ### the reference's -/
def aheadK (l : List EvIt) (k : Key) : Nat := (l.takeWhile fun x => keyLt x.1.key k).length
theorem aheadK_yes {l : List EvIt} {d : Key} {k : Nat} (h : k < l.length) (hp : keyLt l[k].1.key d = true) : aheadK (l.drop k) d = aheadK (l.drop (k + 1)) d + 1 := by
  unfold aheadK
  rw [List.drop_eq_getElem_cons h, List.takeWhile_cons]
  simp only [hp, if_true, List.length_cons]
theorem aheadK_no {l : List EvIt} {d : Key} {k : Nat} (h : k < l.length) (hp : keyLt l[k].1.key d = false) : aheadK (l.drop k) d = 0 := by
  unfold aheadK
  rw [List.drop_eq_getElem_cons h, List.takeWhile_cons]
  simp only [hp, Bool.false_eq_true, if_false, List.length_nil]
def insKI (l : List EvIt) (x : EvIt) : List EvIt := l.take (aheadK l x.1.key) ++ x :: l.drop (aheadK l x.1.key)
/-- one event more, by its key -/
def insK (e : Ev) : List Ev → List Ev
  | [] => [e]
  | x :: l => if keyLt x.key e.key = true then x :: insK e l else e :: x :: l
theorem evsOf_insK (x : EvIt) : ∀ l : List EvIt, evsOf (insKI l x) = insK x.1 (evsOf l)
  | [] => rfl
  | y :: l => by
    have ih := evsOf_insK x l
    show evsOf (insKI (y :: l) x) = insK x.1 (y.1 :: evsOf l)
    cases hy : keyLt y.1.key x.1.key with
    | true =>
      have e : aheadK (y :: l) x.1.key = aheadK l x.1.key + 1 := by unfold aheadK; rw [List.takeWhile_cons]; simp [hy]
      unfold insK
      rw [if_pos hy, ← ih]
      unfold insKI
      rw [e]
      simp [evsOf]
    | false =>
      have e : aheadK (y :: l) x.1.key = 0 := by unfold aheadK; rw [List.takeWhile_cons]; simp [hy]
      unfold insK insKI
      rw [if_neg (by rw [hy]; decide), e]
      rfl
theorem insKI_len (l : List EvIt) (x : EvIt) : (insKI l x).length = l.length + 1 := by
  have h : aheadK l x.1.key ≤ l.length := List.Sublist.length_le (List.takeWhile_sublist _)
  unfold insKI
  rw [List.length_append, List.length_cons, List.length_take, List.length_drop]
  omega
theorem insKI_mem {l : List EvIt} {x y : EvIt} (h : y ∈ insKI l x) : y = x ∨ y ∈ l := by
  unfold insKI at h
  rcases List.mem_append.1 h with h | h
  · exact Or.inr (List.mem_of_mem_take h)
  · rcases List.mem_cons.1 h with h | h
    · exact Or.inl h
    · exact Or.inr (List.mem_of_mem_drop h)
theorem insK_mem {e : Ev} : ∀ {l : List Ev} {x : Ev}, x ∈ insK e l ↔ x = e ∨ x ∈ l
  | [], x => by simp [insK]
  | y :: l, x => by
    unfold insK
    split
    · rw [List.mem_cons, insK_mem, List.mem_cons]
      constructor
      · rintro (h | h | h)
        · exact Or.inr (Or.inl h)
        · exact Or.inl h
        · exact Or.inr (Or.inr h)
      · rintro (h | h | h)
        · exact Or.inr (Or.inl h)
        · exact Or.inl h
        · exact Or.inr (Or.inr h)
    · rw [List.mem_cons]
theorem insK_srt {e : Ev} : ∀ {l : List Ev}, SrtKs l → (∀ x ∈ l, x.key ≠ e.key) → SrtKs (insK e l)
  | [], _, _ => by simp [insK, SrtKs]
  | y :: l, h, hn => by
    obtain ⟨h1, h2⟩ := List.pairwise_cons.1 h
    unfold insK
    split
    · rename_i hlt
      refine List.pairwise_cons.2 ⟨fun x hx => ?_, insK_srt h2 fun x hx => hn x (List.mem_cons_of_mem _ hx)⟩
      rcases insK_mem.1 hx with rfl | hx
      · exact hlt
      · exact h1 x hx
    · rename_i hlt
      have hlt2 : keyLt e.key y.key = true := keyLt_total (hn y List.mem_cons_self) (by simpa using hlt)
      refine List.pairwise_cons.2 ⟨fun x hx => ?_, h⟩
      rcases List.mem_cons.1 hx with rfl | hx
      · exact hlt2
      · exact keyLt_trans hlt2 (h1 x hx)
/-- one round of the reference's Winners: 'f' tells a key's winner -/
def rwStep (f : Key → Ev) (out : List Ev) (x : Ev) : List Ev := if (f x.key).dot = x.dot then insK (f x.key) out else out
theorem rwStep_len (f : Key → Ev) (out : List Ev) (x : Ev) : (rwStep f out x).length ≤ out.length + 1 := by
  unfold rwStep
  split
  · have : ∀ l : List Ev, (insK (f x.key) l).length = l.length + 1 := by
      intro l
      induction l with
      | nil => rfl
      | cons y l ih => unfold insK; split <;> simp [ih]
    rw [this]
    exact Nat.le_refl _
  · omega
theorem rWins_made {s : MS} (hi : MInv s) (hnd : (s.K.map (·.1.dot)).Nodup) : WinsOf s ((aliveOf s).foldl (rwStep fun k => (winOf (keyOfS s k)).1) []) := by
  have hm : ∀ d ∈ s.pairs.map (·.2), ∃ x ∈ s.K, x.1.dot = d := fun d hd => by
    obtain ⟨q, hq, rfl⟩ := List.mem_map.1 hd
    obtain ⟨x, hx, _, h3, _⟩ := (hi.pairs q.1 q.2).1 hq
    exact ⟨x, hx, h3⟩
  have hsrt : SrtE (aliveOf s) := evAt_srt hnd (sortD_srt _) fun d h => hm d (sortD_mem.1 h)
  have key : ∀ (l done : List Ev), done ++ l = aliveOf s → ∀ out : List Ev, SrtKs out → (∀ e, e ∈ out ↔ e ∈ done ∧ (winOf (keyOfS s e.key)).1 = e) → WinsOf s (l.foldl (rwStep fun k => (winOf (keyOfS s k)).1) out) := by
    intro l
    induction l with
    | nil =>
      intro done hd out h1 h2
      rw [List.append_nil] at hd
      subst hd
      exact ⟨h1, h2⟩
    | cons x l ih =>
      intro done hd out h1 h2
      rw [List.foldl_cons]
      refine ih (done ++ [x]) (by rw [List.append_assoc]; exact hd) _ ?_ ?_
      all_goals
        have hxa : x ∈ aliveOf s := by rw [← hd]; simp
        have hwe : (winOf (keyOfS s x.key)).1.dot = x.dot → (winOf (keyOfS s x.key)).1 = x := fun e => by
          obtain ⟨⟨z, hz, rfl⟩, h4, h5⟩ := (aliveOf_mem hi hnd).1 hxa
          have h6 : keyOfS s z.1.key ≠ [] := fun e9 => by
            have := (keyOfS_mem hi hnd z.1.key).2 ⟨⟨z, hz, rfl⟩, h4, h5, rfl⟩
            rw [e9] at this
            cases this
          obtain ⟨⟨y, hy, hye⟩, _⟩ := (keyOfS_mem hi hnd _).1 (winOf_mem h6)
          rw [← hye] at e ⊢
          exact same_kept hnd hy hz e
        have hnx : x ∉ done := fun h9 => by
          rw [← hd] at hsrt
          have := (List.pairwise_append.1 hsrt).2.2 x h9 x List.mem_cons_self
          rw [dotLt_irrefl] at this
          cases this
      · unfold rwStep
        split
        · rename_i he
          show SrtKs (insK (winOf (keyOfS s x.key)).1 out)
          rw [hwe he]
          refine insK_srt h1 fun y hy e9 => ?_
          obtain ⟨hy1, hy2⟩ := (h2 y).1 hy
          rw [e9, hwe he] at hy2
          subst hy2
          exact hnx hy1
        · exact h1
      · intro e
        unfold rwStep
        split
        · rename_i he
          show e ∈ insK (winOf (keyOfS s x.key)).1 out ↔ _
          rw [hwe he, insK_mem, h2 e, List.mem_append, List.mem_singleton]
          constructor
          · rintro (rfl | ⟨h3, h4⟩)
            · exact ⟨Or.inr rfl, hwe he⟩
            · exact ⟨Or.inl h3, h4⟩
          · rintro ⟨h3 | rfl, h4⟩
            · exact Or.inr ⟨h3, h4⟩
            · exact Or.inl rfl
        · rename_i he
          rw [h2 e, List.mem_append, List.mem_singleton]
          constructor
          · rintro ⟨h3, h4⟩
            exact ⟨Or.inl h3, h4⟩
          · rintro ⟨h3 | rfl, h4⟩
            · exact ⟨h3, h4⟩
            · exact absurd (show (winOf (keyOfS s e.key)).1.dot = e.dot by rw [h4]) he
  exact key (aliveOf s) [] rfl [] List.Pairwise.nil (fun e => by simp)
end Go.Proofs.YtcijajjngmmbeaaGreat
