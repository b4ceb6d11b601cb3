/- A map's winners, plainly. Conditions: none. -/
import Derived.Test.YtpbobhfnglikmaaGreatLawKeys
import Derived.Test.YtpbobhfnglikmaaGreatKeyOrd
set_option linter.unusedSimpArgs false
set_option linter.unusedVariables false
set_option linter.unnecessarySimpa false
set_option maxHeartbeats 16000000
set_option maxRecDepth 100000
namespace Go.Proofs.YtpbobhfnglikmaaGreat
open Go.RowKit
def SrtKs (l : List Ev) : Prop := l.Pairwise fun x y => keyLt x.key y.key = true
theorem srtKs_ext {l m : List Ev} (h : SrtKs l) (k : SrtKs m) (e : ∀ x, x ∈ l ↔ x ∈ m) : l = m := srt_ext (lt := fun x y : Ev => keyLt x.key y.key) (fun x => keyLt_irrefl x.key) (fun _ _ _ => keyLt_trans) h k e
/-- the winners of a map, by their keys -/
structure WinsOf (s : MS) (L : List Ev) : Prop where
 srt : SrtKs L
 mem : ∀ e, e ∈ L ↔ e ∈ aliveOf s ∧ (winOf (keyOfS s e.key)).1 = e
theorem WinsOf.ext {s : MS} {l m : List Ev} (h : WinsOf s l) (k : WinsOf s m) : l = m :=
 srtKs_ext h.srt k.srt fun e => (h.mem e).trans (k.mem e).symm
theorem foldl_winStep : ∀ (l : List Ev) (x : Ev), l.foldl winStep x = x ∨ l.foldl winStep x ∈ l
 | [], x => Or.inl rfl
 | e :: l, x => by
   rw [List.foldl_cons]
   rcases foldl_winStep l (winStep x e) with h | h
   ·rw [h]
    unfold winStep
    split
    ·exact Or.inl rfl
    ·exact Or.inr List.mem_cons_self
   ·exact Or.inr (List.mem_cons_of_mem _ h)
theorem winOf_mem {l : List Ev} (h : l ≠ []) : (winOf l).1 ∈ l := by
 cases l with
 | nil => exact absurd rfl h
 | cons x r =>
   show r.foldl winStep x ∈ x :: r
   rcases foldl_winStep r x with h | h
   ·rw [h]; exact List.mem_cons_self
   ·exact List.mem_cons_of_mem _ h
/-- the winners that the map tells -/
theorem winsOf_made {w : World} {m : Nat} {b : MB} {s : MS} (hm : MpIn w m b s) (hi : MInv s) (hnd : (s.K.map (·.1.dot)).Nodup) {ts : List Key} (hp : ts.Perm (s.A.map (·.1))) (hs : ts.Pairwise fun x y => keyLt x y = true) :
 WinsOf s (ts.map fun k => (winOf (keyOfS s k)).1) := by
 have hkey : ∀ k ∈ ts, (winOf (keyOfS s k)).1 ∈ keyOfS s k := fun k hk => by
  obtain ⟨p, hpA, rfl⟩ := List.mem_map.1 (hp.mem_iff.1 hk)
  refine winOf_mem (fun e => ?_)
  have h1 := hm.some p hpA
  have h2 := congrArg List.length e
  unfold keyOfS at h2
  rw [List.length_map, List.length_nil] at h2
  have h3 := List.length_eq_zero_iff.1 h2
  obtain ⟨d, hd⟩ := List.exists_mem_of_ne_nil _ h1
  have := sortD_mem.2 hd
  rw [h3] at this
  cases this
 have hk2 : ∀ k ∈ ts, (winOf (keyOfS s k)).1.key = k := fun k hk => ((keyOfS_mem hi hnd k).1 (hkey k hk)).2.2.2
 refine ⟨List.pairwise_map.2 (hs.imp_of_mem fun {a b} ha hb h => by rw [hk2 a ha, hk2 b hb]; exact h), fun e => ?_⟩
 rw [List.mem_map, aliveOf_mem hi hnd]
 constructor
 ·rintro ⟨k, hk, rfl⟩
  obtain ⟨h1, h2, h3, h4⟩ := (keyOfS_mem hi hnd k).1 (hkey k hk)
  exact ⟨⟨h1, h2, h3⟩, by rw [hk2 k hk]⟩
 ·rintro ⟨⟨⟨x, hx, rfl⟩, h2, h3⟩, h4⟩
  obtain ⟨n, hn⟩ := hm.keys (x.1.key, x.1.dot) ((hi.pairs _ _).2 ⟨x, hx, h2, rfl, rfl, h3⟩)
  exact ⟨x.1.key, hp.mem_iff.2 (List.mem_map.2 ⟨_, hn, rfl⟩), h4⟩
/-! ### the reference's -/
def aheadK (l : List EvIt) (k : Key) : Nat := (l.takeWhile fun x => keyLt x.1.key k).length
theorem aheadK_yes {l : List EvIt} {d : Key} {k : Nat} (h : k < l.length) (hp : keyLt l[k].1.key d = true) : aheadK (l.drop k) d = aheadK (l.drop (k + 1)) d + 1 := by
 unfold aheadK
 rw [List.drop_eq_getElem_cons h, List.takeWhile_cons]
 simp only [hp, if_true, List.length_cons]
theorem aheadK_no {l : List EvIt} {d : Key} {k : Nat} (h : k < l.length) (hp : keyLt l[k].1.key d = false) : aheadK (l.drop k) d = 0 := by
 unfold aheadK
 rw [List.drop_eq_getElem_cons h, List.takeWhile_cons]
 simp only [hp, Bool.false_eq_true, if_false, List.length_nil]
def insKI (l : List EvIt) (x : EvIt) : List EvIt := l.take (aheadK l x.1.key) ++ x :: l.drop (aheadK l x.1.key)
/-- one event more, by its key -/
def insK (e : Ev) : List Ev → List Ev
 | [] => [e]
 | x :: l => if keyLt x.key e.key = true then x :: insK e l else e :: x :: l
theorem evsOf_insK (x : EvIt) : ∀ l : List EvIt, evsOf (insKI l x) = insK x.1 (evsOf l)
 | [] => rfl
 | y :: l => by
   have ih := evsOf_insK x l
   show evsOf (insKI (y :: l) x) = insK x.1 (y.1 :: evsOf l)
   cases hy : keyLt y.1.key x.1.key with
   | true =>
     have e : aheadK (y :: l) x.1.key = aheadK l x.1.key + 1 := by unfold aheadK; rw [List.takeWhile_cons]; simp [hy]
     unfold insK
     rw [if_pos hy, ← ih]
     unfold insKI
     rw [e]
     simp [evsOf]
   | false =>
     have e : aheadK (y :: l) x.1.key = 0 := by unfold aheadK; rw [List.takeWhile_cons]; simp [hy]
     unfold insK insKI
     rw [if_neg (by rw [hy]; decide), e]
     rfl
theorem insKI_len (l : List EvIt) (x : EvIt) : (insKI l x).length = l.length + 1 := by
 have h : aheadK l x.1.key ≤ l.length := List.Sublist.length_le (List.takeWhile_sublist _)
 unfold insKI
 rw [List.length_append, List.length_cons, List.length_take, List.length_drop]
 omega
theorem insKI_mem {l : List EvIt} {x y : EvIt} (h : y ∈ insKI l x) : y = x ∨ y ∈ l := by
 unfold insKI at h
 rcases List.mem_append.1 h with h | h
 ·exact Or.inr (List.mem_of_mem_take h)
 ·rcases List.mem_cons.1 h with h | h
  ·exact Or.inl h
  ·exact Or.inr (List.mem_of_mem_drop h)
theorem insK_mem {e : Ev} : ∀ {l : List Ev} {x : Ev}, x ∈ insK e l ↔ x = e ∨ x ∈ l
 | [], x => by simp [insK]
 | y :: l, x => by
   unfold insK
   split
   ·rw [List.mem_cons, insK_mem, List.mem_cons]
    constructor
    ·rintro (h | h | h)
     ·exact Or.inr (Or.inl h)
     ·exact Or.inl h
     ·exact Or.inr (Or.inr h)
    ·rintro (h | h | h)
     ·exact Or.inr (Or.inl h)
     ·exact Or.inl h
     ·exact Or.inr (Or.inr h)
   ·rw [List.mem_cons]
theorem insK_srt {e : Ev} : ∀ {l : List Ev}, SrtKs l → (∀ x ∈ l, x.key ≠ e.key) → SrtKs (insK e l)
 | [], _, _ => by simp [insK, SrtKs]
 | y :: l, h, hn => by
   obtain ⟨h1, h2⟩ := List.pairwise_cons.1 h
   unfold insK
   split
   ·rename_i hlt
    refine List.pairwise_cons.2 ⟨fun x hx => ?_, insK_srt h2 fun x hx => hn x (List.mem_cons_of_mem _ hx)⟩
    rcases insK_mem.1 hx with rfl | hx
    ·exact hlt
    ·exact h1 x hx
   ·rename_i hlt
    have hlt2 : keyLt e.key y.key = true := keyLt_total (hn y List.mem_cons_self) (by simpa using hlt)
    refine List.pairwise_cons.2 ⟨fun x hx => ?_, h⟩
    rcases List.mem_cons.1 hx with rfl | hx
    ·exact hlt2
    ·exact keyLt_trans hlt2 (h1 x hx)
/-- one round of the reference's Winners: 'f' tells a key's winner -/
def rwStep (f : Key → Ev) (out : List Ev) (x : Ev) : List Ev := if (f x.key).dot = x.dot then insK (f x.key) out else out
theorem rwStep_len (f : Key → Ev) (out : List Ev) (x : Ev) : (rwStep f out x).length ≤ out.length + 1 := by
 unfold rwStep
 split
 ·have : ∀ l : List Ev, (insK (f x.key) l).length = l.length + 1 := by
   intro l
   induction l with
   | nil => rfl
   | cons y l ih => unfold insK; split <;> simp [ih]
  rw [this]
  exact Nat.le_refl _
 ·omega
theorem rWins_made {s : MS} (hi : MInv s) (hnd : (s.K.map (·.1.dot)).Nodup) : WinsOf s ((aliveOf s).foldl (rwStep fun k => (winOf (keyOfS s k)).1) []) := by
 have hm : ∀ d ∈ s.pairs.map (·.2), ∃ x ∈ s.K, x.1.dot = d := fun d hd => by
  obtain ⟨q, hq, rfl⟩ := List.mem_map.1 hd
  obtain ⟨x, hx, _, h3, _⟩ := (hi.pairs q.1 q.2).1 hq
  exact ⟨x, hx, h3⟩
 have hsrt : SrtE (aliveOf s) := evAt_srt hnd (sortD_srt _) fun d h => hm d (sortD_mem.1 h)
 have key : ∀ (l done : List Ev), done ++ l = aliveOf s → ∀ out : List Ev, SrtKs out → (∀ e, e ∈ out ↔ e ∈ done ∧ (winOf (keyOfS s e.key)).1 = e) → WinsOf s (l.foldl (rwStep fun k => (winOf (keyOfS s k)).1) out) := by
  intro l
  induction l with
  | nil =>
    intro done hd out h1 h2
    rw [List.append_nil] at hd
    subst hd
    exact ⟨h1, h2⟩
  | cons x l ih =>
    intro done hd out h1 h2
    rw [List.foldl_cons]
    refine ih (done ++ [x]) (by rw [List.append_assoc]; exact hd) _ ?_ ?_
    all_goals
        have hxa : x ∈ aliveOf s := by rw [← hd]; simp
        have hwe : (winOf (keyOfS s x.key)).1.dot = x.dot → (winOf (keyOfS s x.key)).1 = x := fun e => by
         obtain ⟨⟨z, hz, rfl⟩, h4, h5⟩ := (aliveOf_mem hi hnd).1 hxa
         have h6 : keyOfS s z.1.key ≠ [] := fun e9 => by
          have := (keyOfS_mem hi hnd z.1.key).2 ⟨⟨z, hz, rfl⟩, h4, h5, rfl⟩
          rw [e9] at this
          cases this
         obtain ⟨⟨y, hy, hye⟩, _⟩ := (keyOfS_mem hi hnd _).1 (winOf_mem h6)
         rw [← hye] at e ⊢
         exact same_kept hnd hy hz e
        have hnx : x ∉ done := fun h9 => by
         rw [← hd] at hsrt
         have := (List.pairwise_append.1 hsrt).2.2 x h9 x List.mem_cons_self
         rw [dotLt_irrefl] at this
         cases this
    ·unfold rwStep
     split
     ·rename_i he
      show SrtKs (insK (winOf (keyOfS s x.key)).1 out)
      rw [hwe he]
      refine insK_srt h1 fun y hy e9 => ?_
      obtain ⟨hy1, hy2⟩ := (h2 y).1 hy
      rw [e9, hwe he] at hy2
      subst hy2
      exact hnx hy1
     ·exact h1
    ·intro e
     unfold rwStep
     split
     ·rename_i he
      show e ∈ insK (winOf (keyOfS s x.key)).1 out ↔ _
      rw [hwe he, insK_mem, h2 e, List.mem_append, List.mem_singleton]
      constructor
      ·rintro (rfl | ⟨h3, h4⟩)
       ·exact ⟨Or.inr rfl, hwe he⟩
       ·exact ⟨Or.inl h3, h4⟩
      ·rintro ⟨h3 | rfl, h4⟩
       ·exact Or.inr ⟨h3, h4⟩
       ·exact Or.inl rfl
     ·rename_i he
      rw [h2 e, List.mem_append, List.mem_singleton]
      constructor
      ·rintro ⟨h3, h4⟩
       exact ⟨Or.inl h3, h4⟩
      ·rintro ⟨h3 | rfl, h4⟩
       ·exact ⟨h3, h4⟩
       ·exact absurd (show (winOf (keyOfS s e.key)).1.dot = e.dot by rw [h4]) he
 exact key (aliveOf s) [] rfl [] List.Pairwise.nil (fun e => by simp)
def rwF (L : List EvIt) (k : Key) : Ev := (winOf (evsOf (L.filter (keyB k)))).1
theorem rwF_ok {L : List EvIt} (h : ∀ z ∈ L, ∀ d ∈ z.1.over, dotOk d = true) (k : Key) : ∀ d ∈ (rwF L k).over, dotOk d = true := by
 unfold rwF
 by_cases h0 : evsOf (L.filter (keyB k)) = []
 ·rw [h0]
  intro d hd
  exact absurd hd (by simp [winOf, ev0])
 ·obtain ⟨z, hz, e⟩ : ∃ z ∈ L.filter (keyB k), z.1 = (winOf (evsOf (L.filter (keyB k)))).1 := List.mem_map.1 (winOf_mem h0)
  rw [← e]
  exact h z (List.mem_filter.1 hz).1
theorem key_range {w : World} {A off k : Nat} {e : Ev} {a : Option Addr} {c : Nat} (h : w.rangeAt A (off + k * 19) (evCells e a c)) : w.rangeAt A (off + k * 19 + 7) [.string e.key.name, .string e.key.domain, .string e.key.path] := fun j v hj => by
 match j, hj with
 | 0, hj => exact h 7 v hj
 | 1, hj => exact h 8 v hj
 | 2, hj => exact h 9 v hj
 | j + 3, hj => simp at hj
theorem RMAt.range {w : World} {R : Nat} {x : RMIt} (h : RMAt w R x) : w.rangeAt R 0 (rmCells x) := fun j v hj => by
 rw [Nat.zero_add]
 simp only [RMAt] at h
 simp only [World.cell?, h, rmRow]
 simpa using hj
theorem ev_range {w : World} {R : Nat} {e : Ev} {a : Option Addr} {c : Nat} {t : TypeId} {f : Nat × Nat} (h : w.heap[R]? = some (.cells (evCells e a c).toArray t f)) : w.rangeAt R 0 (evCells e a c) := fun j v hj => by
 rw [Nat.zero_add]
 simp only [World.cell?, h]
 simpa using hj
def RetWs (L : List EvIt) (w : World) (e : Ending) (w' : World) : Prop := ∃ a d c, e = .returned (.slice a d.length c) ∧ EvsIn w' a d ∧ evsOf d = (evsOf L).foldl (rwStep (rwF L)) [] ∧ Below w.heap.size w w'
theorem rWinners21_any (x : RMIt) (w : World) (hK : x.K.length ≤ 4096) (hdl : x.dead.length ≤ 1048576) (hI : RMIn w x) (hok : ∀ z ∈ x.K, ∀ d ∈ z.1.over, dotOk d = true) :
 Calls Tryz.prog 86 #[rmVal x] w (RetWs (x.K.filter (aliveB x.dead)) w) := by
 obtain ⟨i0, hi, hz0, hz1, hz2⟩ := info_parts Tryz.infoEv
 have HAl := Lib.hid (fun (X : World) (h : RMIn X x) => rAlive21_any x X hK hdl h)
 have HWn := Lib.hid (fun (ky : Key) (X : World) (h : RMIn X x) => rWinner21_any x ky X hK hdl h hok)
 have HLs := Lib.hid (fun (a b : Key) (X : World) => rKeyLess_any a b X)
 have HOKL : Hid (∀ z ∈ x.K.filter (aliveB x.dead), ∀ d ∈ z.1.over, dotOk d = true) := fun z hz => hok z (List.mem_filter.1 hz).1
 have hLK : (x.K.filter (aliveB x.dead)).length ≤ 4096 := Nat.le_trans (List.length_filter_le _ _) hK
 generalize x.K.filter (aliveB x.dead) = L at *
 clear hok hK hdl
 go_enter Tryz.func86, Tryz.ntmps86
 go_upto_region 1 with fail
 refine wp_name (fun V hV => ?_)
 have hb0 : Below w.heap.size w V := by rw [hV.out]; go_grown
 have hAt : RMAt V w.heap.size x := by rw [hV.out]; exact heap_last0 _ _
 have hI0 := hI.keep hb0
 clear hV hI
 go_upto_region 2 with fail
 refine wp_name (fun V1 hV1 => ?_)
 have hbM : Below V.heap.size V V1 := by rw [hV1.out]; exact (Below.refl _ _).alloc (Nat.le_refl _) _
 have hI1 := hI0.keep hbM
 have hAt1 := hAt.kept hbM
 obtain ⟨x0, x1, x2⟩ := hAt1.cells
 have hb1w : Below w.heap.size w V1 := hb0.trans (hbM.mono hb0.size)
 obtain ⟨B0, hB0⟩ : ∃ B0, B0 = V.heap.size := ⟨_, rfl⟩
 rw [← hB0]
 clear hV1 hI0 hAt hb0 hbM hB0
 go_wp2_with (go_at_call 36; (with_reducible refine (HAl.out _ hI1).mono ?_); rintro v W0 ⟨aA, cA, rfl, hE0, _, hb1⟩)
 have hI2 := hI1.keep hb1
 have hAt2 := hAt1.kept hb1
 have hbW0 : Below w.heap.size w W0 := hb1w.trans (hb1.mono hb1w.size)
 clear x0 x1 x2 hI1 hAt1 hb1w hb1 HAl
 go_loopw [3, 5] (fun u i wr => ∃ (k : Nat) (aO : Option Addr) (O : List EvIt) (cO : Nat), i = .int .i64 k ∧ k ≤ L.length ∧ u = .slice aO O.length cO ∧ EvsIn wr aO O ∧ O.length ≤ cO ∧ O.length ≤ k ∧ evsOf O = ((evsOf L).take k).foldl (rwStep (rwF L)) [] ∧ Below W0.heap.size W0 wr) (fun _ i _ => L.length - (intOf i).toNat)
 case atStart => exact ⟨0, _, [], _, rfl, Nat.zero_le _, rfl, ⟨Or.inl rfl, fun z hz => (nomatch hz)⟩, Nat.zero_le _, Nat.le_refl _, rfl, Below.refl _ _⟩
 case round =>
  obtain ⟨k, aO, O, cO, rfl, hk, rfl, hEO, hOC, hOL, hOV, hbr⟩ := hrel
  have HOV := Lib.hid hOV
  have HOC := Lib.hid hOC
  have HOL := Lib.hid hOL
  clear hOV hOC
  by_cases hlt : k < L.length
  ·obtain ⟨A, off, rfl, hra, _⟩ := (hE0.kept hbr).at hlt
   have r1 := hra k hlt
   have HT : Hid ((evsOf L).take (k + 1) = (evsOf L).take k ++ [L[k].1]) := by
        unfold Hid
        rw [List.take_add_one, List.getElem?_eq_getElem (by rw [evsOf_length]; exact hlt), evsOf_at hlt]
        rfl
   have HLT := Lib.hid hlt
   have hkl : k ≤ 4096 := by omega
   generalize L[k] = z at *
   obtain ⟨e, ax, cx⟩ := z
   simp only [itEv] at r1
   simp only at HT
   have HOK := Lib.hid (rwF_ok HOKL.out e.key)
   have hW0 := fun (X : World) (h : RMIn X x) => HWn.out e.key X h
   obtain ⟨rw0, hrw0⟩ : ∃ p, p = winOf (evsOf (L.filter (keyB e.key))) := ⟨_, rfl⟩
   have hHR : rwF L e.key = rw0.1 := by rw [hrw0]; rfl
   rw [hHR] at HOK
   rw [← hrw0] at hW0
   have HR := Lib.hid hHR
   obtain ⟨r, rb⟩ := rw0
   simp only at HOK HR
   have HW := Lib.hid hW0
   clear hrw0 hHR hW0 hra
   go_upto_region 6 with fail
   refine wp_name (fun V hV => ?_)
   have hbV : Below wr.heap.size wr V.drew := by rw [hV.out]; go_grown
   have vM := ((hAt2.kept hbr).kept hbV).range
   have vK := rangeAt_kept (key_range r1) hbV
   have vR := rangeAt_kept r1 hbV
   have vI := (hI2.keep hbr).keep hbV
   have vO := hEO.kept hbV
   have hbWV : Below W0.heap.size W0 V.drew := hbr.trans (hbV.mono hbr.size)
   clear hV hbV hEO hbr r1
   refine wp_region_noPanic ?_
   refine wp_region_held_drew (S := fun W' => Below V.drew.heap.size V.drew W') (by kernel_rfl) (Below.refl _ _) (fun hHeld => ?_)
   refine tH 0 19 rfl (yieldsIf_load_mid (by rfl) 31 _ rfl w.heap.size 0 rfl (rmCells x) _ (fun X h => rangeAt_kept vM h) Tryz.underlying31 rfl (by kernel_rfl)) ?_
   try simp only [pS]
   refine tH (v := ?_) 1 20 rfl (Or.inl ⟨by rfl, ?_⟩) ?_
   case refine_2 => (intro w hSw; go_simp; try with_reducible rfl)
   try simp only [pS]
   refine tH (v := ?_) 2 21 rfl (Or.inl ⟨by rfl, ?_⟩) ?_
   case refine_2 => (intro w hSw; go_simp; try with_reducible rfl)
   try simp only [pS]
   refine tH (v := ?_) 3 22 rfl (Or.inl ⟨by rfl, ?_⟩) ?_
   case refine_2 => (intro w hSw; go_simp; try with_reducible rfl)
   try simp only [pS]
   refine tH (v := ?_) 4 23 rfl (Or.inl ⟨by rfl, ?_⟩) ?_
   case refine_2 => (intro w hSw; go_simp; try with_reducible rfl)
   try simp only [pS]
   refine tH 5 24 rfl (yieldsIf_load_mid (by rfl) 39 _ rfl A (off + k * 19 + 7) rfl [.string e.key.name, .string e.key.domain, .string e.key.path] _ (fun X h => rangeAt_kept vK h) Tryz.underlying39 rfl (by kernel_rfl)) ?_
   try simp only [pS]
   refine wpAnyH_ready (rs := [6, 10]) (by kernel_rfl) (by simp) ?_
   refine AllReadyH.cons (o := ⟨some 25, _, _, _, _, _⟩) rfl (fun K hK => ?_) (AllReadyH.cons (o := ⟨some 6, _, _, _, _, _⟩) rfl (fun K hK => ?_) AllReadyH.nil)
   focus
        go_simp
        go_at_call 142
        (with_reducible refine (HW.out _ (vI.keep hHeld)).mono ?_)
        rintro v w5 ⟨aw, cw, rfl, hdw, hb5⟩
        go_simp
        have hNext := hHeld.trans (hb5.mono hHeld.size)
        refine hK.out _ _ hNext (fun hHeld2 => ?_)
        clear hK K hHeld
        have hHeld := hNext
        clear hHeld2 hNext
        try simp only [pS]
        refine tH (v := ?_) 7 18 rfl (Or.inl ⟨by rfl, ?_⟩) ?_
        case refine_2 => (intro w hSw; go_simp; try with_reducible rfl)
        try simp only [pS]
        refine tH (v := ?_) 8 26 rfl (Or.inl ⟨by rfl, ?_⟩) ?_
        case refine_2 => (intro w hSw; go_simp; try with_reducible rfl)
        try simp only [pS]
        refine tH (v := ?_) 9 27 rfl (Or.inl ⟨by rfl, ?_⟩) ?_
        case refine_2 => (intro w hSw; go_simp; try with_reducible rfl)
        try simp only [pS]
        refine rH 10 6 rfl fun K hK => ?_
        have hz59 := hHeld.size
        go_simp
        have hNext := hHeld.alloc hHeld.size (.cells #[.int .i64 0, .int .i64 0, .int .i64 0, .int .i64 0, .int .i64 0, .int .i64 0, .int .i64 0, .string ⟨#[]⟩, .string ⟨#[]⟩, .string ⟨#[]⟩, .string ⟨#[]⟩, .bool false, .bool false, .bool false, .bool false, .int .i64 0, .int .i64 0, .int .i64 0, .slice none 0 0] 43)
        refine hK.out _ _ hNext (fun hHeld2 => ?_)
        clear hK K hHeld
        have hHeld := hNext
        clear hHeld2 hNext
        try simp only [pS]
        refine wpAnyH_ready (rs := [11]) (by kernel_rfl) (by simp) ?_
        refine AllReadyH.cons (o := ⟨none, _, _, _, _, _⟩) rfl (fun K hK => ?_) AllReadyH.nil
        have hq0 : (w5.alloc (.cells #[.int .i64 0, .int .i64 0, .int .i64 0, .int .i64 0, .int .i64 0, .int .i64 0, .int .i64 0, .string ⟨#[]⟩, .string ⟨#[]⟩, .string ⟨#[]⟩, .string ⟨#[]⟩, .bool false, .bool false, .bool false, .bool false, .int .i64 0, .int .i64 0, .int .i64 0, .slice none 0 0] 43)).heap[w5.heap.size]? = some (.cells (evCells ev0 none 0).toArray 43 (0, 0)) := heap_last0 _ _
        refine step_store_row (by rfl) 43 _ _ rfl (w5.heap.size) (evCells r aw cw).toArray rfl rfl 43 _ hq0 (by kernel_rfl) rfl (by kernel_rfl) ?_
        have hNext : Below V.drew.heap.size V.drew ((w5.alloc (.cells #[.int .i64 0, .int .i64 0, .int .i64 0, .int .i64 0, .int .i64 0, .int .i64 0, .int .i64 0, .string ⟨#[]⟩, .string ⟨#[]⟩, .string ⟨#[]⟩, .string ⟨#[]⟩, .bool false, .bool false, .bool false, .bool false, .int .i64 0, .int .i64 0, .int .i64 0, .slice none 0 0] 43)).setRow (w5.heap.size) (evCells r aw cw).toArray) := below_setRow hHeld (by omega : V.drew.heap.size ≤ w5.heap.size) (evCells r aw cw).toArray
        refine hK.out _ _ hNext (fun hHeld2 => ?_)
        clear hK K hHeld
        have hHeld := hNext
        clear hHeld2 hNext
        try simp only [pS]
        refine tH (v := ?_) 12 7 rfl (Or.inl ⟨by rfl, ?_⟩) ?_
        case refine_2 => (intro w hSw; go_simp; try with_reducible rfl)
        try simp only [pS]
        refine wpAnyH_done (by kernel_rfl) ?_ _
        refine NoPanic.normal ?_
        obtain ⟨X, hX⟩ : ∃ X, X = (w5.alloc (.cells #[.int .i64 0, .int .i64 0, .int .i64 0, .int .i64 0, .int .i64 0, .int .i64 0, .int .i64 0, .string ⟨#[]⟩, .string ⟨#[]⟩, .string ⟨#[]⟩, .string ⟨#[]⟩, .bool false, .bool false, .bool false, .bool false, .int .i64 0, .int .i64 0, .int .i64 0, .slice none 0 0] 43)).setRow (w5.heap.size) (evCells r aw cw).toArray := ⟨_, rfl⟩
        rw [← hX] at hHeld ⊢
        have hqX : X.heap[w5.heap.size]? = some (.cells (evCells r aw cw).toArray 43 (0, 0)) := by rw [hX]; exact setRow_heap _ _ _ _ _ _ hq0
        have hdX : DotsIn X aw r.over := by
         rw [hX]
         exact DotsIn.not0 (hdw.kept ((Below.refl _ _).alloc (Nat.le_refl _) _)) HOK.out hq0 (fun k9 hk9 => heap_setRow_other _ _ _ _ (fun e9 => hk9 e9.symm))
        generalize hqn : w5.heap.size = Q at *
        clear hX hq0 hqn hdw hb5
        have hE := ev_range hqX
        have hbX : Below W0.heap.size W0 X := hbWV.trans (hHeld.mono hbWV.size)
        have hEOX := vO.kept hHeld
        have rX := rangeAt_kept vR hHeld
        clear vM vK vR vI vO hHeld hbWV hqX
        have d0 := hE 0 _ rfl
        have d1 := hE 1 _ rfl
        have d2 := hE 2 _ rfl
        have d7 := hE 7 _ rfl
        have d8 := hE 8 _ rfl
        have d9 := hE 9 _ rfl
        have e0 := rX 0 _ rfl
        have e1 := rX 1 _ rfl
        have e2 := rX 2 _ rfl
        simp only [Nat.zero_add] at d0 d1 d2 d7 d8 d9
        simp only [Nat.add_zero] at e0
        have hEq := fun (W : World) => eqDot W 9997 r.dot e.dot
        have hm := noGuardDot
        clear rX
        clear hz59
   rotate_left
   focus
        go_simp
        have hNext := hHeld.alloc hHeld.size (.cells #[.int .i64 0, .int .i64 0, .int .i64 0, .int .i64 0, .int .i64 0, .int .i64 0, .int .i64 0, .string ⟨#[]⟩, .string ⟨#[]⟩, .string ⟨#[]⟩, .string ⟨#[]⟩, .bool false, .bool false, .bool false, .bool false, .int .i64 0, .int .i64 0, .int .i64 0, .slice none 0 0] 43)
        refine hK.out _ _ hNext (fun hHeld2 => ?_)
        clear hK K hHeld
        have hHeld := hNext
        clear hHeld2 hNext
        try simp only [pS]
        replace hHeld : Below V.drew.heap.size V.drew (V.alloc (.cells #[.int .i64 0, .int .i64 0, .int .i64 0, .int .i64 0, .int .i64 0, .int .i64 0, .int .i64 0, .string ⟨#[]⟩, .string ⟨#[]⟩, .string ⟨#[]⟩, .string ⟨#[]⟩, .bool false, .bool false, .bool false, .bool false, .int .i64 0, .int .i64 0, .int .i64 0, .slice none 0 0] 43)).drew := hHeld
        refine rH 6 25 rfl fun K hK => ?_
        go_simp
        go_at_call 142
        (with_reducible refine (HW.out _ (vI.keep hHeld)).mono ?_)
        rintro v w5 ⟨aw, cw, rfl, hdw, hb5⟩
        go_simp
        have hNext := hHeld.trans (hb5.mono hHeld.size)
        refine hK.out _ _ hNext (fun hHeld2 => ?_)
        clear hK K hHeld
        have hHeld := hNext
        clear hHeld2 hNext
        try simp only [pS]
        refine tH (v := ?_) 7 18 rfl (Or.inl ⟨by rfl, ?_⟩) ?_
        case refine_2 => (intro w hSw; go_simp; try with_reducible rfl)
        try simp only [pS]
        refine tH (v := ?_) 8 26 rfl (Or.inl ⟨by rfl, ?_⟩) ?_
        case refine_2 => (intro w hSw; go_simp; try with_reducible rfl)
        try simp only [pS]
        refine tH (v := ?_) 9 27 rfl (Or.inl ⟨by rfl, ?_⟩) ?_
        case refine_2 => (intro w hSw; go_simp; try with_reducible rfl)
        try simp only [pS]
        refine wpAnyH_ready (rs := [11]) (by kernel_rfl) (by simp) ?_
        refine AllReadyH.cons (o := ⟨none, _, _, _, _, _⟩) rfl (fun K hK => ?_) AllReadyH.nil
        have hq0 : w5.heap[V.heap.size]? = some (.cells (evCells ev0 none 0).toArray 43 (0, 0)) := (hb5.block V.drew.heap.size (by show V.heap.size < (V.heap.push _).size; simp)).trans (heap_last0 V _)
        refine step_store_row (by rfl) 43 _ _ rfl (V.heap.size) (evCells r aw cw).toArray rfl rfl 43 _ hq0 (by kernel_rfl) rfl (by kernel_rfl) ?_
        have hNext : Below V.drew.heap.size V.drew (w5.setRow (V.heap.size) (evCells r aw cw).toArray) := below_setRow hHeld (Nat.le_refl _ : V.drew.heap.size ≤ V.heap.size) (evCells r aw cw).toArray
        refine hK.out _ _ hNext (fun hHeld2 => ?_)
        clear hK K hHeld
        have hHeld := hNext
        clear hHeld2 hNext
        try simp only [pS]
        refine tH (v := ?_) 12 7 rfl (Or.inl ⟨by rfl, ?_⟩) ?_
        case refine_2 => (intro w hSw; go_simp; try with_reducible rfl)
        try simp only [pS]
        refine wpAnyH_done (by kernel_rfl) ?_ _
        refine NoPanic.normal ?_
        obtain ⟨X, hX⟩ : ∃ X, X = w5.setRow (V.heap.size) (evCells r aw cw).toArray := ⟨_, rfl⟩
        rw [← hX] at hHeld ⊢
        have hqX : X.heap[V.heap.size]? = some (.cells (evCells r aw cw).toArray 43 (0, 0)) := by rw [hX]; exact setRow_heap _ _ _ _ _ _ hq0
        have hdX : DotsIn X aw r.over := by
         rw [hX]
         exact DotsIn.not0 (hdw) HOK.out hq0 (fun k9 hk9 => heap_setRow_other _ _ _ _ (fun e9 => hk9 e9.symm))
        generalize hqn : V.heap.size = Q at *
        clear hX hq0 hqn hdw hb5
        have hE := ev_range hqX
        have hbX : Below W0.heap.size W0 X := hbWV.trans (hHeld.mono hbWV.size)
        have hEOX := vO.kept hHeld
        have rX := rangeAt_kept vR hHeld
        clear vM vK vR vI vO hHeld hbWV hqX
        have d0 := hE 0 _ rfl
        have d1 := hE 1 _ rfl
        have d2 := hE 2 _ rfl
        have d7 := hE 7 _ rfl
        have d8 := hE 8 _ rfl
        have d9 := hE 9 _ rfl
        have e0 := rX 0 _ rfl
        have e1 := rX 1 _ rfl
        have e2 := rX 2 _ rfl
        simp only [Nat.zero_add] at d0 d1 d2 d7 d8 d9
        simp only [Nat.add_zero] at e0
        have hEq := fun (W : World) => eqDot W 9997 r.dot e.dot
        have hm := noGuardDot
        clear rX
   all_goals
        by_cases hde : r.dot = e.dot
        ·rw [decide_eq_true hde] at hEq
         have HS : Hid (insK r (evsOf O) = ((evsOf L).take (k + 1)).foldl (rwStep (rwF L)) []) := by unfold Hid; rw [HT.out, List.foldl_append, ← HOV.out]; show _ = rwStep (rwF L) (evsOf O) e; unfold rwStep; rw [HR.out, if_pos hde]
         clear hde
         go_upto_region 7 with fail
         refine wp_region_after (by kernel_rfl) (by kernel_rfl) (fun WA hWA => ?_)
         have hbA : Below X.heap.size X WA := by rw [hWA.out]; go_grown
         have pd0 : ∀ i : After WA, i.w.cell? ⟨Q, 0, none⟩ = some (.int .i64 r.dot.a.dev) := fun i => i.cell (kept hbA d0)
         have pd1 : ∀ i : After WA, i.w.cell? ⟨Q, 1, none⟩ = some (.int .i64 r.dot.a.inc) := fun i => i.cell (kept hbA d1)
         have pd2 : ∀ i : After WA, i.w.cell? ⟨Q, 2, none⟩ = some (.int .i64 r.dot.seq) := fun i => i.cell (kept hbA d2)
         have pe0 : ∀ i : After WA, i.w.cell? ⟨A, off + k * 19, none⟩ = some (.int .i64 e.dot.a.dev) := fun i => i.cell (kept hbA e0)
         have pe1 : ∀ i : After WA, i.w.cell? ⟨A, off + k * 19 + 1, none⟩ = some (.int .i64 e.dot.a.inc) := fun i => i.cell (kept hbA e1)
         have pe2 : ∀ i : After WA, i.w.cell? ⟨A, off + k * 19 + 2, none⟩ = some (.int .i64 e.dot.seq) := fun i => i.cell (kept hbA e2)
         clear hWA
         iterate 8 go_big_quiet_step (fail)
         refine wpQuiet_nil ?_
         rintro _ ⟨i, rfl⟩
         have hiA := i.h
         generalize i.w = wp at hiA ⊢
         have hbY : Below X.heap.size X wp := below2 hbA hiA
         clear hbA hiA pd0 pd1 pd2 pe0 pe1 pe2
         have hEP := rangeAt_kept hE hbY
         have hdP := hdX.kept hbY
         have hOP := hEOX.kept hbY
         replace hbX := hbX.trans (hbY.mono hbX.size)
         clear hbY hE hdX hEOX d0 d1 d2 d7 d8 d9 e0 e1 e2 hEq hm
         have d7 := hEP 7 _ rfl
         have d8 := hEP 8 _ rfl
         have d9 := hEP 9 _ rfl
         simp only [Nat.zero_add] at d7 d8 d9
         have HC := Lib.hid hOP.cells
         have HER := Lib.hid hEP
         have HD : Hid (∀ z ∈ insKI O (r, aw, cw), DotsIn wp z.2.1 z.1.over) := fun z hz => by
          rcases insKI_mem hz with rfl | hz
          ·exact hdP
          ·exact hOP.dots z hz
         have hzp := hbX.size
         have HBX := Lib.hid hbX
         clear hdP hEP hbX
         go_wp2
         obtain ⟨wo, rfl⟩ : ∃ wo : World, wo = wp := ⟨_, rfl⟩
         go_loopw [8] (fun i wr => ∃ q : Nat, i = .int .i64 q ∧ q ≤ O.length ∧ aheadK O r.key = q + aheadK (O.drop q) r.key ∧ Below wo.heap.size wo wr) (fun i _ => O.length - (intOf i).toNat)
         case atStart => exact ⟨0, rfl, Nat.zero_le _, by simp, Below.refl _ _⟩
         case round =>
          obtain ⟨q, rfl, hq, hA0, hB⟩ := hrel
          have HA := Lib.hid hA0
          have HQ := Lib.hid hq
          clear hA0
          have c7 := kept hB d7
          have c8 := kept hB d8
          have c9 := kept hB d9
          by_cases hqt : q < O.length
          ·obtain ⟨A2, of2, rfl, hra2, _⟩ := (hOP.kept hB).at hqt
           have r2 := hra2 q hqt
           have HY := Lib.hid (fun (h : keyLt O[q].1.key r.key = true) => aheadK_yes hqt h)
           have HN := Lib.hid (fun (h : keyLt O[q].1.key r.key = false) => aheadK_no hqt h)
           have HL1 := fun (X : World) => HLs.out O[q].1.key r.key X
           have HQT := Lib.hid hqt
           have hql : q ≤ 4096 := by omega
           generalize O[q] = y2 at *
           obtain ⟨y, ay, cy⟩ := y2
           simp only [itEv] at r2
           simp only at HY HN HL1
           have f7 := r2 7 _ rfl
           have f8 := r2 8 _ rfl
           have f9 := r2 9 _ rfl
           clear hra2 r2
           cases hly : keyLt y.key r.key with
           | true =>
             rw [hly] at HL1
             have HA2 : Hid (aheadK O r.key = q + 1 + aheadK (O.drop (q + 1)) r.key) := by unfold Hid; rw [HA.out, HY.out hly]; omega
             clear hly
             go_upto_region 9 with fail
             refine wp_region_after (by kernel_rfl) (by kernel_rfl) (fun WA hWA => ?_)
             have hbA : Below wr.heap.size wr WA := by rw [hWA.out]; go_grown
             have pc7 : ∀ i : After WA, i.w.cell? ⟨Q, 7, none⟩ = some (.string r.key.name) := fun i => i.cell (kept hbA c7)
             have pc8 : ∀ i : After WA, i.w.cell? ⟨Q, 8, none⟩ = some (.string r.key.domain) := fun i => i.cell (kept hbA c8)
             have pc9 : ∀ i : After WA, i.w.cell? ⟨Q, 9, none⟩ = some (.string r.key.path) := fun i => i.cell (kept hbA c9)
             have pf7 : ∀ i : After WA, i.w.cell? ⟨A2, of2 + q * 19 + 7, none⟩ = some (.string y.key.name) := fun i => i.cell (kept hbA f7)
             have pf8 : ∀ i : After WA, i.w.cell? ⟨A2, of2 + q * 19 + 8, none⟩ = some (.string y.key.domain) := fun i => i.cell (kept hbA f8)
             have pf9 : ∀ i : After WA, i.w.cell? ⟨A2, of2 + q * 19 + 9, none⟩ = some (.string y.key.path) := fun i => i.cell (kept hbA f9)
             clear hWA
             iterate 12 go_big_quiet_step (fail)
             go_big_quiet_step (exact Calls.after (HL1 _))
             go_big_quiet_step (fail)
             refine wpQuiet_nil ?_
             rintro _ ⟨i, rfl⟩
             have hiA := i.h
             generalize i.w = wq at hiA ⊢
             have hbY : Below wr.heap.size wr wq := below2 hbA hiA
             clear hbA hiA pc7 pc8 pc9 pf7 pf8 pf9
             have HB2 := Lib.hid (hB.trans (hbY.mono hB.size))
             clear hB hbY
             go_wp2
             go_roundw
             case rel => exact ⟨q + 1, by go_num, HQT.out, HA2.out, HB2.out⟩
             case measure => have := HQT.out; simp [intOf] <;> omega
           | false =>
             rw [hly] at HL1
             have HI : Hid (aheadK O r.key = q) := by unfold Hid; rw [HA.out, HN.out hly]; omega
             clear hly
             go_upto_region 9 with fail
             refine wp_region_after (by kernel_rfl) (by kernel_rfl) (fun WA hWA => ?_)
             have hbA : Below wr.heap.size wr WA := by rw [hWA.out]; go_grown
             have pc7 : ∀ i : After WA, i.w.cell? ⟨Q, 7, none⟩ = some (.string r.key.name) := fun i => i.cell (kept hbA c7)
             have pc8 : ∀ i : After WA, i.w.cell? ⟨Q, 8, none⟩ = some (.string r.key.domain) := fun i => i.cell (kept hbA c8)
             have pc9 : ∀ i : After WA, i.w.cell? ⟨Q, 9, none⟩ = some (.string r.key.path) := fun i => i.cell (kept hbA c9)
             have pf7 : ∀ i : After WA, i.w.cell? ⟨A2, of2 + q * 19 + 7, none⟩ = some (.string y.key.name) := fun i => i.cell (kept hbA f7)
             have pf8 : ∀ i : After WA, i.w.cell? ⟨A2, of2 + q * 19 + 8, none⟩ = some (.string y.key.domain) := fun i => i.cell (kept hbA f8)
             have pf9 : ∀ i : After WA, i.w.cell? ⟨A2, of2 + q * 19 + 9, none⟩ = some (.string y.key.path) := fun i => i.cell (kept hbA f9)
             clear hWA
             iterate 12 go_big_quiet_step (fail)
             go_big_quiet_step (exact Calls.after (HL1 _))
             go_big_quiet_step (fail)
             refine wpQuiet_nil ?_
             rintro _ ⟨i, rfl⟩
             have hiA := i.h
             generalize i.w = wq at hiA ⊢
             have hbY : Below wr.heap.size wr wq := below2 hbA hiA
             clear hbA hiA pc7 pc8 pc9 pf7 pf8 pf9
             replace hB := hB.trans (hbY.mono hB.size)
             clear hbY c7 c8 c9
             go_upto_region 11 with fail
             refine wp_name (fun W hW => ?_)
             have hbW : Below wq.heap.size wq W.drew := by rw [hW.out]; go_grown
             have hBW : Below wo.heap.size wo W.drew := hB.trans (hbW.mono hB.size)
             have hinW := HC.out.kept hBW
             have hzW := hBW.size
             have hq := HQ.out
             have hol := HOL.out
             have hcut : ∀ X, (Instr.sliceAt 28 (.slice (some ⟨A2, of2, none⟩) O.length cO) none (some (.int .i64 (q : Nat))) none).run Tryz.prog X = .ok (.slice (some ⟨A2, of2, none⟩) q cO) X := fun X => run_cut_hi X _ _ i0 (some ⟨A2, of2, none⟩) O.length cO .i64 q Tryz.underlying28 hi (by have := HOC.out; omega)
             have hcut2 : ∀ X, (Instr.sliceAt 28 (.slice (some ⟨A2, of2, none⟩) O.length cO) (some (.int .i64 (q : Nat))) none none).run Tryz.prog X = .ok (.slice (cutA (some ⟨A2, of2, none⟩) cO q 19) (O.length - q) (cO - q)) X := fun X => run_cut_lo X _ _ i0 (some ⟨A2, of2, none⟩) O.length cO .i64 q 19 Tryz.underlying28 hi hz1 (by omega)
             have hR1 : ∀ X, Below W.drew.heap.size W.drew X → CellsIn X (some ⟨A2, of2, none⟩) (evItCells (O.take q)) := fun X h => by rw [← evIt_take]; exact (hinW.kept h).take _
             have hR2 : ∀ X, Below W.drew.heap.size W.drew X → CellsIn X (cutA (some ⟨A2, of2, none⟩) cO q 19) (evItCells (O.drop q)) := fun X h => by rw [← evIt_drop]; exact (hinW.kept h).cut (evIt_length O) HOC.out q
             have l1 : (evItCells (O.take q)).length = q * 19 := by rw [evIt_length, List.length_take, Nat.min_eq_left hq]
             have l2 : (evItCells (O.drop q)).length = (O.length - q) * 19 := by rw [evIt_length, List.length_drop]
             have hF : ∀ X, Below W.drew.heap.size W.drew X → X.rangeAt Q 0 (evCells r aw cw) := fun X h => rangeAt_kept (rangeAt_kept HER.out hBW) h
             clear hW
             refine wp_region_noPanic ?_
             refine wp_region_held_drew (S := fun W' => Below W.drew.heap.size W.drew W') (by kernel_rfl) (Below.refl _ _) (fun hHeld => ?_)
             refine tH (v := ?_) 1 53 rfl (Or.inl ⟨by rfl, ?_⟩) ?_
             case refine_2 => (intro w hSw; go_simp; try with_reducible rfl)
             try simp only [pS]
             refine tH (v := ?_) 2 54 rfl (Or.inl ⟨by rfl, ?_⟩) ?_
             case refine_2 => (intro w hSw; go_simp; try with_reducible rfl)
             try simp only [pS]
             refine tH 3 55 rfl (Or.inl ⟨by rfl, fun W hSW => exec_slice _ _ _ _ _ rfl _ (hcut W)⟩) ?_
             try simp only [pS]
             refine tH 5 57 rfl (yieldsIf_load_mid (by rfl) 43 _ rfl Q 0 rfl (evCells r aw cw) _ (fun X h => hF X h) Tryz.underlying43 rfl (by kernel_rfl)) ?_
             try simp only [pS]
             refine tH (v := ?_) 8 60 rfl (Or.inl ⟨by rfl, ?_⟩) ?_
             case refine_2 => (intro w hSw; go_simp; try with_reducible rfl)
             try simp only [pS]
             refine tH (v := ?_) 9 61 rfl (Or.inl ⟨by rfl, ?_⟩) ?_
             case refine_2 => (intro w hSw; go_simp; try with_reducible rfl)
             try simp only [pS]
             refine tH 10 62 rfl (Or.inl ⟨by rfl, fun W hSW => exec_slice _ _ _ _ _ rfl _ (hcut2 W)⟩) ?_
             try simp only [pS]
             refine wpAnyH_ready (rs := [0, 6]) (by kernel_rfl) (by simp) ?_
             refine AllReadyH.cons (o := ⟨some 52, _, _, _, _, _⟩) rfl (fun K hK => ?_) (AllReadyH.cons (o := ⟨some 58, _, _, _, _, _⟩) rfl (fun K hK => ?_) AllReadyH.nil)
             focus
              refine step_build_nil (by rfl) 28 43 rfl i0 _ 19 Tryz.underlying28 hi hz0 hz1 (by decide) ?_
              intro v0 X0 hown0 hbel0
              refine hK.out _ _ ?_ (fun hHeld2 => ?_)
              ·exact hHeld.trans (hbel0.mono hHeld.size)
              clear hK K hHeld
              have hHeld := hHeld2
              clear hHeld2
              try simp only [pS]
              refine wpAnyH_ready (rs := [4, 6]) (by kernel_rfl) (by simp) ?_
              refine AllReadyH.cons (o := ⟨some 56, _, _, _, _, _⟩) rfl (fun K hK => ?_) (AllReadyH.cons (o := ⟨some 58, _, _, _, _, _⟩) rfl (fun K hK => ?_) AllReadyH.nil)
              focus
               refine step_append_cells (by rfl) (.tmp 52) (.tmp 55) 28 rfl W.drew.heap.size 43 i0 _ 19 176 Tryz.underlying28 hi hz0 hz1 hz2 rfl (by decide) _ 0 _ rfl hown0 (some ⟨A2, of2, none⟩) q cO (evItCells (O.take q)) rfl l1 (hR1 _ hHeld) (evIt_one _) (by first | omega | (unfold maxLen; omega)) (by first | omega | (unfold maxLen; omega)) hHeld.size ?_
               intro v1 X1 hown1 hg1
               refine hK.out _ _ ?_ (fun hHeld2 => ?_)
               ·exact hHeld.grown hg1 hHeld.size (fun k hk => (hown0.lt k hk).1)
               clear hK K hHeld
               have hHeld := hHeld2
               clear hHeld2
               try simp only [pS]
               refine rH 6 58 rfl fun K hK => ?_
               refine step_build_one (by rfl) 28 43 _ rfl (evCells r aw cw).toArray 19 rfl rfl (by decide) (by decide) Tryz.underlying28 (by kernel_rfl) (by kernel_rfl) ?_
               refine hK.out _ _ ?_ (fun hHeld2 => ?_)
               ·exact hHeld.alloc hHeld.size _
               clear hK K hHeld
               have hHeld := hHeld2
               clear hHeld2
               try simp only [pS]
               have hN := (fun X => ev_cells_new X r aw cw) X1
               refine rH 7 59 rfl fun K hK => ?_
               refine step_append_cells (by rfl) (.tmp 56) (.tmp 58) 28 rfl W.drew.heap.size 43 i0 _ 19 176 Tryz.underlying28 hi hz0 hz1 hz2 rfl (by decide) _ (0 + q) _ rfl (hown1.alloc _) (some ⟨X1.heap.size, 0, none⟩) 1 1 (evCells r aw cw) rfl rfl hN (evCells_one _ _ _) (by first | omega | (unfold maxLen; omega)) (by first | omega | (unfold maxLen; omega)) hHeld.size ?_
               intro v2 X2 hown2 hg2
               refine hK.out _ _ ?_ (fun hHeld2 => ?_)
               ·exact hHeld.grown hg2 hHeld.size (fun k hk => (hown1.lt k hk).1)
               clear hK K hHeld
               have hHeld := hHeld2
               clear hHeld2
               try simp only [pS]
              rotate_left 1
              focus
               refine step_build_one (by rfl) 28 43 _ rfl (evCells r aw cw).toArray 19 rfl rfl (by decide) (by decide) Tryz.underlying28 (by kernel_rfl) (by kernel_rfl) ?_
               refine hK.out _ _ ?_ (fun hHeld2 => ?_)
               ·exact hHeld.alloc hHeld.size _
               clear hK K hHeld
               have hHeld := hHeld2
               clear hHeld2
               try simp only [pS]
               have hN := (fun X => ev_cells_new X r aw cw) X0
               refine rH 4 56 rfl fun K hK => ?_
               refine step_append_cells (by rfl) (.tmp 52) (.tmp 55) 28 rfl W.drew.heap.size 43 i0 _ 19 176 Tryz.underlying28 hi hz0 hz1 hz2 rfl (by decide) _ 0 _ rfl (hown0.alloc _) (some ⟨A2, of2, none⟩) q cO (evItCells (O.take q)) rfl l1 (hR1 _ hHeld) (evIt_one _) (by first | omega | (unfold maxLen; omega)) (by first | omega | (unfold maxLen; omega)) hHeld.size ?_
               intro v1 X1 hown1 hg1
               refine hK.out _ _ ?_ (fun hHeld2 => ?_)
               ·exact hHeld.grown hg1 hHeld.size (fun k hk => (hown0.lt k hk).1)
               clear hK K hHeld
               have hHeld := hHeld2
               clear hHeld2
               try simp only [pS]
               replace hN := hN.grown hg1 (fun q hq e => by have := (hown0.lt _ e).2; simp only [Option.some.injEq] at hq; subst hq; simp only at this; omega)
               refine rH 7 59 rfl fun K hK => ?_
               refine step_append_cells (by rfl) (.tmp 56) (.tmp 58) 28 rfl W.drew.heap.size 43 i0 _ 19 176 Tryz.underlying28 hi hz0 hz1 hz2 rfl (by decide) _ (0 + q) _ rfl hown1 (some ⟨X0.heap.size, 0, none⟩) 1 1 (evCells r aw cw) rfl rfl hN (evCells_one _ _ _) (by first | omega | (unfold maxLen; omega)) (by first | omega | (unfold maxLen; omega)) hHeld.size ?_
               intro v2 X2 hown2 hg2
               refine hK.out _ _ ?_ (fun hHeld2 => ?_)
               ·exact hHeld.grown hg2 hHeld.size (fun k hk => (hown1.lt k hk).1)
               clear hK K hHeld
               have hHeld := hHeld2
               clear hHeld2
               try simp only [pS]
             rotate_left 2
             focus
              refine step_build_one (by rfl) 28 43 _ rfl (evCells r aw cw).toArray 19 rfl rfl (by decide) (by decide) Tryz.underlying28 (by kernel_rfl) (by kernel_rfl) ?_
              refine hK.out _ _ ?_ (fun hHeld2 => ?_)
              ·exact hHeld.alloc hHeld.size _
              clear hK K hHeld
              have hHeld := hHeld2
              clear hHeld2
              try simp only [pS]
              have hN := (fun X => ev_cells_new X r aw cw) W.drew
              refine rH 0 52 rfl fun K hK => ?_
              refine step_build_nil (by rfl) 28 43 rfl i0 _ 19 Tryz.underlying28 hi hz0 hz1 (by decide) ?_
              intro v0 X0 hown0 hbel0
              refine hK.out _ _ ?_ (fun hHeld2 => ?_)
              ·exact hHeld.trans (hbel0.mono hHeld.size)
              clear hK K hHeld
              have hHeld := hHeld2
              clear hHeld2
              try simp only [pS]
              replace hN := hN.kept hbel0
              have hownB := hown0
              replace hown0 := own_base hown0 (b2 := W.drew.heap.size) (by first | exact Nat.le_refl _ | simp)
              refine rH 4 56 rfl fun K hK => ?_
              refine step_append_cells (by rfl) (.tmp 52) (.tmp 55) 28 rfl W.drew.heap.size 43 i0 _ 19 176 Tryz.underlying28 hi hz0 hz1 hz2 rfl (by decide) _ 0 _ rfl hown0 (some ⟨A2, of2, none⟩) q cO (evItCells (O.take q)) rfl l1 (hR1 _ hHeld) (evIt_one _) (by first | omega | (unfold maxLen; omega)) (by first | omega | (unfold maxLen; omega)) hHeld.size ?_
              intro v1 X1 hown1 hg1
              refine hK.out _ _ ?_ (fun hHeld2 => ?_)
              ·exact hHeld.grown hg1 hHeld.size (fun k hk => (hown0.lt k hk).1)
              clear hK K hHeld
              have hHeld := hHeld2
              clear hHeld2
              try simp only [pS]
              replace hN := hN.grown hg1 (fun q hq e => by have := (hownB.lt _ e).1; simp only [Option.some.injEq] at hq; subst hq; simp at this; omega)
              refine rH 7 59 rfl fun K hK => ?_
              refine step_append_cells (by rfl) (.tmp 56) (.tmp 58) 28 rfl W.drew.heap.size 43 i0 _ 19 176 Tryz.underlying28 hi hz0 hz1 hz2 rfl (by decide) _ (0 + q) _ rfl hown1 (some ⟨W.drew.heap.size, 0, none⟩) 1 1 (evCells r aw cw) rfl rfl hN (evCells_one _ _ _) (by first | omega | (unfold maxLen; omega)) (by first | omega | (unfold maxLen; omega)) hHeld.size ?_
              intro v2 X2 hown2 hg2
              refine hK.out _ _ ?_ (fun hHeld2 => ?_)
              ·exact hHeld.grown hg2 hHeld.size (fun k hk => (hown1.lt k hk).1)
              clear hK K hHeld
              have hHeld := hHeld2
              clear hHeld2
              try simp only [pS]
             all_goals
              refine rH 11 63 rfl fun K hK => ?_
              refine step_append_cells (by rfl) (.tmp 59) (.tmp 62) 28 rfl W.drew.heap.size 43 i0 _ 19 176 Tryz.underlying28 hi hz0 hz1 hz2 rfl (by decide) _ (0 + q + 1) _ rfl hown2 (cutA (some ⟨A2, of2, none⟩) cO q 19) (O.length - q) (cO - q) (evItCells (O.drop q)) rfl l2 (hR2 _ hHeld) (evIt_one _) (by first | omega | (unfold maxLen; omega)) (by first | omega | (unfold maxLen; omega)) hHeld.size ?_
              intro v3 X3 hown3 hg3
              refine hK.out _ _ ?_ (fun hHeld2 => ?_)
              ·exact hHeld.grown hg3 hHeld.size (fun k hk => (hown2.lt k hk).1)
              clear hK K hHeld
              have hHeld := hHeld2
              clear hHeld2
              try simp only [pS]
              refine tH (v := ?_) 12 3 rfl (Or.inl ⟨by rfl, ?_⟩) ?_
              case refine_2 => (intro w hSw; go_simp; try with_reducible rfl)
              try simp only [pS]
              refine wpAnyH_done (by kernel_rfl) ?_ _
              refine NoPanic.normal ?_
              have e1 : [] ++ evItCells (O.take q) ++ evCells r aw cw ++ evItCells (O.drop q) = evItCells (insKI O (r, aw, cw)) := by unfold insKI; rw [HI.out]; simp [evItCells]
              have e2 : 0 + q + 1 + (O.length - q) = (insKI O (r, aw, cw)).length := by rw [insKI_len]; omega
              rw [e1, e2] at hown3
              obtain ⟨a2, c2, rfl, hcell2, hc2⟩ := own_cellsIn hown3
              obtain ⟨a3, c3, he3, hin3⟩ := evsIn_own hown3 (fun x hx => (HD.out x hx).kept (hBW.trans (hHeld.mono hzW)))
              obtain ⟨rfl, rfl⟩ : a2 = a3 ∧ c2 = c3 := by cases he3; exact ⟨rfl, rfl⟩
              have HZ := Lib.hid (And.intro hin3 (And.intro hc2 (HBX.out.trans ((hBW.trans (hHeld.mono hzW)).mono hzp))))
              clear e1 e2 hR1 hR2 l1 l2 hF hcut hcut2 hown3 hHeld hinW hBW hbW hin3 hcell2 hc2 he3
              go_wp2
              go_roundw
              case rel => exact ⟨k + 1, a2, insKI O (r, aw, cw), c2, by go_num, HLT.out, rfl, HZ.out.1, HZ.out.2.1, by rw [insKI_len]; exact Nat.succ_le_succ HOL.out, by rw [evsOf_insK]; exact HS.out, HZ.out.2.2⟩
              case measure => have := HLT.out; simp [intOf] <;> omega
          ·have HI : Hid (aheadK O r.key = q) := by unfold Hid; rw [HA.out, List.drop_eq_nil_of_le (by omega)]; rfl
           have hqd : decide (q < O.length) = false := decide_eq_false hqt
           have hqi : decide ((q : Int) < (O.length : Int)) = false := decide_eq_false (by omega)
           go_upto_region 9 with fail
           refine wp_region_after (by kernel_rfl) (by kernel_rfl) (fun WA hWA => ?_)
           have hbA : Below wr.heap.size wr WA := by rw [hWA.out]; go_grown
           have pc7 : ∀ i : After WA, i.w.cell? ⟨Q, 7, none⟩ = some (.string r.key.name) := fun i => i.cell (kept hbA c7)
           have pc8 : ∀ i : After WA, i.w.cell? ⟨Q, 8, none⟩ = some (.string r.key.domain) := fun i => i.cell (kept hbA c8)
           have pc9 : ∀ i : After WA, i.w.cell? ⟨Q, 9, none⟩ = some (.string r.key.path) := fun i => i.cell (kept hbA c9)
           clear hWA
           iterate 14 go_big_quiet_step (fail)
           refine wpQuiet_nil ?_
           rintro _ ⟨i, rfl⟩
           have hiA := i.h
           generalize i.w = wq at hiA ⊢
           have hbY : Below wr.heap.size wr wq := below2 hbA hiA
           clear hbA hiA pc7 pc8 pc9
           replace hB := hB.trans (hbY.mono hB.size)
           clear hbY c7 c8 c9
           go_upto_region 11 with fail
           refine wp_name (fun W hW => ?_)
           have hbW : Below wq.heap.size wq W.drew := by rw [hW.out]; go_grown
           have hBW : Below wo.heap.size wo W.drew := hB.trans (hbW.mono hB.size)
           have hinW := HC.out.kept hBW
           have hzW := hBW.size
           have hq := HQ.out
           have hol := HOL.out
           have hcut : ∀ X, (Instr.sliceAt 28 (.slice aO O.length cO) none (some (.int .i64 (q : Nat))) none).run Tryz.prog X = .ok (.slice aO q cO) X := fun X => run_cut_hi X _ _ i0 aO O.length cO .i64 q Tryz.underlying28 hi (by have := HOC.out; omega)
           have hcut2 : ∀ X, (Instr.sliceAt 28 (.slice aO O.length cO) (some (.int .i64 (q : Nat))) none none).run Tryz.prog X = .ok (.slice (cutA aO cO q 19) (O.length - q) (cO - q)) X := fun X => run_cut_lo X _ _ i0 aO O.length cO .i64 q 19 Tryz.underlying28 hi hz1 (by omega)
           have hR1 : ∀ X, Below W.drew.heap.size W.drew X → CellsIn X aO (evItCells (O.take q)) := fun X h => by rw [← evIt_take]; exact (hinW.kept h).take _
           have hR2 : ∀ X, Below W.drew.heap.size W.drew X → CellsIn X (cutA aO cO q 19) (evItCells (O.drop q)) := fun X h => by rw [← evIt_drop]; exact (hinW.kept h).cut (evIt_length O) HOC.out q
           have l1 : (evItCells (O.take q)).length = q * 19 := by rw [evIt_length, List.length_take, Nat.min_eq_left hq]
           have l2 : (evItCells (O.drop q)).length = (O.length - q) * 19 := by rw [evIt_length, List.length_drop]
           have hF : ∀ X, Below W.drew.heap.size W.drew X → X.rangeAt Q 0 (evCells r aw cw) := fun X h => rangeAt_kept (rangeAt_kept HER.out hBW) h
           clear hW
           refine wp_region_noPanic ?_
           refine wp_region_held_drew (S := fun W' => Below W.drew.heap.size W.drew W') (by kernel_rfl) (Below.refl _ _) (fun hHeld => ?_)
           refine tH (v := ?_) 1 53 rfl (Or.inl ⟨by rfl, ?_⟩) ?_
           case refine_2 => (intro w hSw; go_simp; try with_reducible rfl)
           try simp only [pS]
           refine tH (v := ?_) 2 54 rfl (Or.inl ⟨by rfl, ?_⟩) ?_
           case refine_2 => (intro w hSw; go_simp; try with_reducible rfl)
           try simp only [pS]
           refine tH 3 55 rfl (Or.inl ⟨by rfl, fun W hSW => exec_slice _ _ _ _ _ rfl _ (hcut W)⟩) ?_
           try simp only [pS]
           refine tH 5 57 rfl (yieldsIf_load_mid (by rfl) 43 _ rfl Q 0 rfl (evCells r aw cw) _ (fun X h => hF X h) Tryz.underlying43 rfl (by kernel_rfl)) ?_
           try simp only [pS]
           refine tH (v := ?_) 8 60 rfl (Or.inl ⟨by rfl, ?_⟩) ?_
           case refine_2 => (intro w hSw; go_simp; try with_reducible rfl)
           try simp only [pS]
           refine tH (v := ?_) 9 61 rfl (Or.inl ⟨by rfl, ?_⟩) ?_
           case refine_2 => (intro w hSw; go_simp; try with_reducible rfl)
           try simp only [pS]
           refine tH 10 62 rfl (Or.inl ⟨by rfl, fun W hSW => exec_slice _ _ _ _ _ rfl _ (hcut2 W)⟩) ?_
           try simp only [pS]
           refine wpAnyH_ready (rs := [0, 6]) (by kernel_rfl) (by simp) ?_
           refine AllReadyH.cons (o := ⟨some 52, _, _, _, _, _⟩) rfl (fun K hK => ?_) (AllReadyH.cons (o := ⟨some 58, _, _, _, _, _⟩) rfl (fun K hK => ?_) AllReadyH.nil)
           focus
            refine step_build_nil (by rfl) 28 43 rfl i0 _ 19 Tryz.underlying28 hi hz0 hz1 (by decide) ?_
            intro v0 X0 hown0 hbel0
            refine hK.out _ _ ?_ (fun hHeld2 => ?_)
            ·exact hHeld.trans (hbel0.mono hHeld.size)
            clear hK K hHeld
            have hHeld := hHeld2
            clear hHeld2
            try simp only [pS]
            refine wpAnyH_ready (rs := [4, 6]) (by kernel_rfl) (by simp) ?_
            refine AllReadyH.cons (o := ⟨some 56, _, _, _, _, _⟩) rfl (fun K hK => ?_) (AllReadyH.cons (o := ⟨some 58, _, _, _, _, _⟩) rfl (fun K hK => ?_) AllReadyH.nil)
            focus
             refine step_append_cells (by rfl) (.tmp 52) (.tmp 55) 28 rfl W.drew.heap.size 43 i0 _ 19 176 Tryz.underlying28 hi hz0 hz1 hz2 rfl (by decide) _ 0 _ rfl hown0 aO q cO (evItCells (O.take q)) rfl l1 (hR1 _ hHeld) (evIt_one _) (by first | omega | (unfold maxLen; omega)) (by first | omega | (unfold maxLen; omega)) hHeld.size ?_
             intro v1 X1 hown1 hg1
             refine hK.out _ _ ?_ (fun hHeld2 => ?_)
             ·exact hHeld.grown hg1 hHeld.size (fun k hk => (hown0.lt k hk).1)
             clear hK K hHeld
             have hHeld := hHeld2
             clear hHeld2
             try simp only [pS]
             refine rH 6 58 rfl fun K hK => ?_
             refine step_build_one (by rfl) 28 43 _ rfl (evCells r aw cw).toArray 19 rfl rfl (by decide) (by decide) Tryz.underlying28 (by kernel_rfl) (by kernel_rfl) ?_
             refine hK.out _ _ ?_ (fun hHeld2 => ?_)
             ·exact hHeld.alloc hHeld.size _
             clear hK K hHeld
             have hHeld := hHeld2
             clear hHeld2
             try simp only [pS]
             have hN := (fun X => ev_cells_new X r aw cw) X1
             refine rH 7 59 rfl fun K hK => ?_
             refine step_append_cells (by rfl) (.tmp 56) (.tmp 58) 28 rfl W.drew.heap.size 43 i0 _ 19 176 Tryz.underlying28 hi hz0 hz1 hz2 rfl (by decide) _ (0 + q) _ rfl (hown1.alloc _) (some ⟨X1.heap.size, 0, none⟩) 1 1 (evCells r aw cw) rfl rfl hN (evCells_one _ _ _) (by first | omega | (unfold maxLen; omega)) (by first | omega | (unfold maxLen; omega)) hHeld.size ?_
             intro v2 X2 hown2 hg2
             refine hK.out _ _ ?_ (fun hHeld2 => ?_)
             ·exact hHeld.grown hg2 hHeld.size (fun k hk => (hown1.lt k hk).1)
             clear hK K hHeld
             have hHeld := hHeld2
             clear hHeld2
             try simp only [pS]
            rotate_left 1
            focus
             refine step_build_one (by rfl) 28 43 _ rfl (evCells r aw cw).toArray 19 rfl rfl (by decide) (by decide) Tryz.underlying28 (by kernel_rfl) (by kernel_rfl) ?_
             refine hK.out _ _ ?_ (fun hHeld2 => ?_)
             ·exact hHeld.alloc hHeld.size _
             clear hK K hHeld
             have hHeld := hHeld2
             clear hHeld2
             try simp only [pS]
             have hN := (fun X => ev_cells_new X r aw cw) X0
             refine rH 4 56 rfl fun K hK => ?_
             refine step_append_cells (by rfl) (.tmp 52) (.tmp 55) 28 rfl W.drew.heap.size 43 i0 _ 19 176 Tryz.underlying28 hi hz0 hz1 hz2 rfl (by decide) _ 0 _ rfl (hown0.alloc _) aO q cO (evItCells (O.take q)) rfl l1 (hR1 _ hHeld) (evIt_one _) (by first | omega | (unfold maxLen; omega)) (by first | omega | (unfold maxLen; omega)) hHeld.size ?_
             intro v1 X1 hown1 hg1
             refine hK.out _ _ ?_ (fun hHeld2 => ?_)
             ·exact hHeld.grown hg1 hHeld.size (fun k hk => (hown0.lt k hk).1)
             clear hK K hHeld
             have hHeld := hHeld2
             clear hHeld2
             try simp only [pS]
             replace hN := hN.grown hg1 (fun q hq e => by have := (hown0.lt _ e).2; simp only [Option.some.injEq] at hq; subst hq; simp only at this; omega)
             refine rH 7 59 rfl fun K hK => ?_
             refine step_append_cells (by rfl) (.tmp 56) (.tmp 58) 28 rfl W.drew.heap.size 43 i0 _ 19 176 Tryz.underlying28 hi hz0 hz1 hz2 rfl (by decide) _ (0 + q) _ rfl hown1 (some ⟨X0.heap.size, 0, none⟩) 1 1 (evCells r aw cw) rfl rfl hN (evCells_one _ _ _) (by first | omega | (unfold maxLen; omega)) (by first | omega | (unfold maxLen; omega)) hHeld.size ?_
             intro v2 X2 hown2 hg2
             refine hK.out _ _ ?_ (fun hHeld2 => ?_)
             ·exact hHeld.grown hg2 hHeld.size (fun k hk => (hown1.lt k hk).1)
             clear hK K hHeld
             have hHeld := hHeld2
             clear hHeld2
             try simp only [pS]
           rotate_left 2
           focus
            refine step_build_one (by rfl) 28 43 _ rfl (evCells r aw cw).toArray 19 rfl rfl (by decide) (by decide) Tryz.underlying28 (by kernel_rfl) (by kernel_rfl) ?_
            refine hK.out _ _ ?_ (fun hHeld2 => ?_)
            ·exact hHeld.alloc hHeld.size _
            clear hK K hHeld
            have hHeld := hHeld2
            clear hHeld2
            try simp only [pS]
            have hN := (fun X => ev_cells_new X r aw cw) W.drew
            refine rH 0 52 rfl fun K hK => ?_
            refine step_build_nil (by rfl) 28 43 rfl i0 _ 19 Tryz.underlying28 hi hz0 hz1 (by decide) ?_
            intro v0 X0 hown0 hbel0
            refine hK.out _ _ ?_ (fun hHeld2 => ?_)
            ·exact hHeld.trans (hbel0.mono hHeld.size)
            clear hK K hHeld
            have hHeld := hHeld2
            clear hHeld2
            try simp only [pS]
            replace hN := hN.kept hbel0
            have hownB := hown0
            replace hown0 := own_base hown0 (b2 := W.drew.heap.size) (by first | exact Nat.le_refl _ | simp)
            refine rH 4 56 rfl fun K hK => ?_
            refine step_append_cells (by rfl) (.tmp 52) (.tmp 55) 28 rfl W.drew.heap.size 43 i0 _ 19 176 Tryz.underlying28 hi hz0 hz1 hz2 rfl (by decide) _ 0 _ rfl hown0 aO q cO (evItCells (O.take q)) rfl l1 (hR1 _ hHeld) (evIt_one _) (by first | omega | (unfold maxLen; omega)) (by first | omega | (unfold maxLen; omega)) hHeld.size ?_
            intro v1 X1 hown1 hg1
            refine hK.out _ _ ?_ (fun hHeld2 => ?_)
            ·exact hHeld.grown hg1 hHeld.size (fun k hk => (hown0.lt k hk).1)
            clear hK K hHeld
            have hHeld := hHeld2
            clear hHeld2
            try simp only [pS]
            replace hN := hN.grown hg1 (fun q hq e => by have := (hownB.lt _ e).1; simp only [Option.some.injEq] at hq; subst hq; simp at this; omega)
            refine rH 7 59 rfl fun K hK => ?_
            refine step_append_cells (by rfl) (.tmp 56) (.tmp 58) 28 rfl W.drew.heap.size 43 i0 _ 19 176 Tryz.underlying28 hi hz0 hz1 hz2 rfl (by decide) _ (0 + q) _ rfl hown1 (some ⟨W.drew.heap.size, 0, none⟩) 1 1 (evCells r aw cw) rfl rfl hN (evCells_one _ _ _) (by first | omega | (unfold maxLen; omega)) (by first | omega | (unfold maxLen; omega)) hHeld.size ?_
            intro v2 X2 hown2 hg2
            refine hK.out _ _ ?_ (fun hHeld2 => ?_)
            ·exact hHeld.grown hg2 hHeld.size (fun k hk => (hown1.lt k hk).1)
            clear hK K hHeld
            have hHeld := hHeld2
            clear hHeld2
            try simp only [pS]
           all_goals
            refine rH 11 63 rfl fun K hK => ?_
            refine step_append_cells (by rfl) (.tmp 59) (.tmp 62) 28 rfl W.drew.heap.size 43 i0 _ 19 176 Tryz.underlying28 hi hz0 hz1 hz2 rfl (by decide) _ (0 + q + 1) _ rfl hown2 (cutA aO cO q 19) (O.length - q) (cO - q) (evItCells (O.drop q)) rfl l2 (hR2 _ hHeld) (evIt_one _) (by first | omega | (unfold maxLen; omega)) (by first | omega | (unfold maxLen; omega)) hHeld.size ?_
            intro v3 X3 hown3 hg3
            refine hK.out _ _ ?_ (fun hHeld2 => ?_)
            ·exact hHeld.grown hg3 hHeld.size (fun k hk => (hown2.lt k hk).1)
            clear hK K hHeld
            have hHeld := hHeld2
            clear hHeld2
            try simp only [pS]
            refine tH (v := ?_) 12 3 rfl (Or.inl ⟨by rfl, ?_⟩) ?_
            case refine_2 => (intro w hSw; go_simp; try with_reducible rfl)
            try simp only [pS]
            refine wpAnyH_done (by kernel_rfl) ?_ _
            refine NoPanic.normal ?_
            have e1 : [] ++ evItCells (O.take q) ++ evCells r aw cw ++ evItCells (O.drop q) = evItCells (insKI O (r, aw, cw)) := by unfold insKI; rw [HI.out]; simp [evItCells]
            have e2 : 0 + q + 1 + (O.length - q) = (insKI O (r, aw, cw)).length := by rw [insKI_len]; omega
            rw [e1, e2] at hown3
            obtain ⟨a2, c2, rfl, hcell2, hc2⟩ := own_cellsIn hown3
            obtain ⟨a3, c3, he3, hin3⟩ := evsIn_own hown3 (fun x hx => (HD.out x hx).kept (hBW.trans (hHeld.mono hzW)))
            obtain ⟨rfl, rfl⟩ : a2 = a3 ∧ c2 = c3 := by cases he3; exact ⟨rfl, rfl⟩
            have HZ := Lib.hid (And.intro hin3 (And.intro hc2 (HBX.out.trans ((hBW.trans (hHeld.mono hzW)).mono hzp))))
            clear e1 e2 hR1 hR2 l1 l2 hF hcut hcut2 hown3 hHeld hinW hBW hbW hin3 hcell2 hc2 he3
            go_wp2
            go_roundw
            case rel => exact ⟨k + 1, a2, insKI O (r, aw, cw), c2, by go_num, HLT.out, rfl, HZ.out.1, HZ.out.2.1, by rw [insKI_len]; exact Nat.succ_le_succ HOL.out, by rw [evsOf_insK]; exact HS.out, HZ.out.2.2⟩
            case measure => have := HLT.out; simp [intOf] <;> omega
        ·rw [decide_eq_false hde] at hEq
         have HS : Hid (evsOf O = ((evsOf L).take (k + 1)).foldl (rwStep (rwF L)) []) := by unfold Hid; rw [HT.out, List.foldl_append, ← HOV.out]; show _ = rwStep (rwF L) (evsOf O) e; unfold rwStep; rw [HR.out, if_neg hde]
         clear hde
         go_upto_region 7 with fail
         refine wp_region_after (by kernel_rfl) (by kernel_rfl) (fun WA hWA => ?_)
         have hbA : Below X.heap.size X WA := by rw [hWA.out]; go_grown
         have pd0 : ∀ i : After WA, i.w.cell? ⟨Q, 0, none⟩ = some (.int .i64 r.dot.a.dev) := fun i => i.cell (kept hbA d0)
         have pd1 : ∀ i : After WA, i.w.cell? ⟨Q, 1, none⟩ = some (.int .i64 r.dot.a.inc) := fun i => i.cell (kept hbA d1)
         have pd2 : ∀ i : After WA, i.w.cell? ⟨Q, 2, none⟩ = some (.int .i64 r.dot.seq) := fun i => i.cell (kept hbA d2)
         have pe0 : ∀ i : After WA, i.w.cell? ⟨A, off + k * 19, none⟩ = some (.int .i64 e.dot.a.dev) := fun i => i.cell (kept hbA e0)
         have pe1 : ∀ i : After WA, i.w.cell? ⟨A, off + k * 19 + 1, none⟩ = some (.int .i64 e.dot.a.inc) := fun i => i.cell (kept hbA e1)
         have pe2 : ∀ i : After WA, i.w.cell? ⟨A, off + k * 19 + 2, none⟩ = some (.int .i64 e.dot.seq) := fun i => i.cell (kept hbA e2)
         clear hWA
         iterate 8 go_big_quiet_step (fail)
         refine wpQuiet_nil ?_
         rintro _ ⟨i, rfl⟩
         have hiA := i.h
         generalize i.w = wp at hiA ⊢
         have hbY : Below X.heap.size X wp := below2 hbA hiA
         clear hbA hiA pd0 pd1 pd2 pe0 pe1 pe2
         have HZ := Lib.hid (And.intro (hEOX.kept hbY) (hbX.trans (hbY.mono hbX.size)))
         clear hbY hE hdX hEOX hbX d0 d1 d2 d7 d8 d9 e0 e1 e2 hEq hm
         go_wp2
         go_roundw
         case rel => exact ⟨k + 1, aO, O, cO, by go_num, HLT.out, rfl, HZ.out.1, HOC.out, Nat.le_succ_of_le HOL.out, HS.out, HZ.out.2⟩
         case measure => have := HLT.out; simp [intOf] <;> omega
  ·obtain rfl : k = L.length := by omega
   have hE : evsOf O = (evsOf L).foldl (rwStep (rwF L)) [] := by
        have h9 := HOV.out
        rwa [List.take_of_length_le (by rw [evsOf_length]; exact Nat.le_refl _)] at h9
   have HE := Lib.hid hE
   clear hE
   go_wp2
   go_ret
   exact ⟨aO, O, cO, rfl, hEO, HE.out, hbW0.trans (hbr.mono hbW0.size)⟩
end Go.Proofs.YtpbobhfnglikmaaGreat
