/- The reference's map: events in another order, plainly. Conditions: none. -/
import Derived.Test.YtpbobhfnglikmaaGreatRelP
import Derived.Test.YtpbobhfnglikmaaGreatCanS
import Derived.Test.YtpbobhfnglikmaaGreatCompR
set_option linter.unusedSimpArgs false
set_option linter.unusedVariables false
set_option linter.unnecessarySimpa false
set_option maxHeartbeats 16000000
set_option maxRecDepth 100000
namespace Go.Proofs.YtpbobhfnglikmaaGreat
open Go.RowKit
theorem getM_pos {l : List Dot} {a : Actor} (h : getM l a ≠ 0) : (⟨a, getM l a⟩ : Dot) ∈ l := by
 have h0 : getM l a = (match l.find? fun d => decide (d.a = a) with | some d => d.seq | none => 0) := rfl
 cases hf : l.find? fun d => decide (d.a = a) with
 | none => rw [hf] at h0; exact absurd h0 h
 | some d =>
   rw [hf] at h0
   have h1 : d.a = a := by simpa using List.find?_some hf
   have h2 := List.mem_of_find?_eq_some hf
   rw [h0, ← h1]
   exact h2
theorem dotOk_seq {d : Dot} (h : dotOk d = true) : d.seq ≠ 0 := by
 simp only [dotOk, Bool.and_eq_true, decide_eq_true_eq] at h
 omega
theorem srtM_ext {l m : List Dot} (hl : SrtM l) (hm : SrtM m) (ol : ∀ d ∈ l, dotOk d = true) (om : ∀ d ∈ m, dotOk d = true) (h : ∀ a, getM l a = getM m a) : l = m := by
 have key : ∀ {l m : List Dot}, SrtM l → (∀ d ∈ l, dotOk d = true) → (∀ a, getM l a = getM m a) → ∀ x, x ∈ l → x ∈ m := fun {l m} hl ol h x hx => by
  have h1 := getM_mem hl hx
  rw [h] at h1
  have h2 := getM_pos (l := m) (a := x.a) (by rw [h1]; exact dotOk_seq (ol x hx))
  rwa [h1] at h2
 exact srt_ext (lt := fun x y : Dot => actorLt x.a y.a) (fun x => actorLt_irrefl x.a) (fun _ _ _ => actorLt_trans) hl hm fun x => ⟨key hl ol h x, key hm om (fun a => (h a).symm) x⟩
/-- what every map of the reference has -/
structure RInv (r : RM) : Prop where
 srt : SrtM r.ctx
 ok : ∀ d ∈ r.ctx, dotOk d = true
 kept : SrtE r.kept
 has : ∀ x ∈ r.kept, hasM r.ctx x.dot = true
theorem RInv.empty : RInv RM.empty := ⟨List.Pairwise.nil, fun d hd => (nomatch hd), List.Pairwise.nil, fun d hd => (nomatch hd)⟩
theorem rmOk_parts {r : RM} {e : Ev} (h : rmOk r e = true) : evOk e = true ∧ hasM r.ctx e.dot = false ∧ getM r.ctx e.dot.a + 1 = e.dot.seq ∧ r.kept.length < 2048 := by
 unfold rmOk at h
 simpa [Bool.and_eq_true] using h
theorem rmAp_yes {r : RM} {e : Ev} (h : RInv r) (ho : rmOk r e = true) : rmAp r e = ⟨setM r.ctx e.dot.a e.dot.seq, insE e r.kept, sortD (r.dead ++ e.over)⟩ := by
 unfold rmAp
 rw [ho, if_pos rfl, rsetM_srt h.srt]
theorem rmAp_no {r : RM} {e : Ev} (ho : rmOk r e = false) : rmAp r e = r := by
 unfold rmAp
 rw [ho, if_neg (by decide)]
theorem RInv.ap {r : RM} (h : RInv r) (e : Ev) : RInv (rmAp r e) := by
 cases ho : rmOk r e with
 | false => rw [rmAp_no ho]; exact h
 | true =>
   obtain ⟨q1, q2, q3, q4⟩ := rmOk_parts ho
   have hde : dotOk e.dot = true := (evOk_parts q1).1
   rw [rmAp_yes h ho]
   refine ⟨setM_srt h.srt, fun d hd => ?_, insE_srt h.kept fun x hx e9 => ?_, fun x hx => ?_⟩
   ·rcases setM_mem hd with rfl | hd
    ·exact hde
    ·exact h.ok d hd
   ·have := h.has x hx
    rw [e9, q2] at this
    cases this
   ·show hasM (setM r.ctx e.dot.a e.dot.seq) x.dot = true
    rcases insE_mem.1 hx with rfl | hx
    ·rw [hasM_set hde q3, decide_eq_true rfl, Bool.or_true]
    ·have h1 := h.has x hx
     have h2 : dotOk x.dot = true := by unfold hasM at h1; simp only [Bool.and_eq_true] at h1; exact h1.1
     rw [hasM_set h2 q3, h1, Bool.true_or]
theorem RInv.fold {r : RM} (h : RInv r) : ∀ l : List Ev, RInv (l.foldl rmAp r)
 | [] => h
 | e :: l => (h.ap e).fold l
theorem rmAp_len (r : RM) (e : Ev) : (rmAp r e).kept.length ≤ r.kept.length + 1 := by
 unfold rmAp
 split
 ·show (insE e r.kept).length ≤ _
  rw [insE_length]
  exact Nat.le_refl _
 ·omega
theorem rmOk_other {r : RM} (h : RInv r) {x y : Ev} (hne : y.dot.a ≠ x.dot.a) (hl : r.kept.length + 2 ≤ 2048) : rmOk (rmAp r x) y = rmOk r y := by
 cases ho : rmOk r x with
 | false => rw [rmAp_no ho]
 | true =>
   rw [rmAp_yes h ho]
   have h1 : getM (setM r.ctx x.dot.a x.dot.seq) y.dot.a = getM r.ctx y.dot.a := by rw [getM_set, if_neg hne]
   have h2 : hasM (setM r.ctx x.dot.a x.dot.seq) y.dot = hasM r.ctx y.dot := by unfold hasM; rw [h1]
   unfold rmOk
   show (evOk y && (!hasM (setM r.ctx x.dot.a x.dot.seq) y.dot && (decide (getM (setM r.ctx x.dot.a x.dot.seq) y.dot.a + 1 = y.dot.seq) && decide ((insE x r.kept).length < 2048)))) = _
   rw [h1, h2, insE_length, decide_eq_true (show r.kept.length + 1 < 2048 by omega), decide_eq_true (show r.kept.length < 2048 by omega)]
theorem rmAp_swap {r : RM} (h : RInv r) {x y : Ev} (hne : y.dot.a ≠ x.dot.a) (hl : r.kept.length + 2 ≤ 2048) : rmAp (rmAp r x) y = rmAp (rmAp r y) x := by
 have hox := rmOk_other h hne hl
 have hoy := rmOk_other h (Ne.symm hne) hl
 cases hx : rmOk r x with
 | false =>
   rw [rmAp_no hx]
   exact (rmAp_no (hoy.trans hx)).symm
 | true =>
   cases hy : rmOk r y with
   | false =>
     rw [rmAp_no hy]
     exact rmAp_no (hox.trans hy)
   | true =>
     have hI1 := (h.ap x).ap y
     have hI2 := (h.ap y).ap x
     have h1 : rmAp (rmAp r x) y = _ := rmAp_yes (h.ap x) (hox.trans hy)
     have h2 : rmAp (rmAp r y) x = _ := rmAp_yes (h.ap y) (hoy.trans hx)
     rw [h1] at hI1
     rw [h2] at hI2
     rw [h1, h2]
     rw [rmAp_yes h hx] at hI1 ⊢
     rw [rmAp_yes h hy] at hI2 ⊢
     have e1 : setM (setM r.ctx x.dot.a x.dot.seq) y.dot.a y.dot.seq = setM (setM r.ctx y.dot.a y.dot.seq) x.dot.a x.dot.seq := by
        refine srtM_ext hI1.srt hI2.srt hI1.ok hI2.ok fun a => ?_
        rw [getM_set, getM_set, getM_set, getM_set]
        by_cases ha : a = y.dot.a
        ·subst ha
         rw [if_pos rfl, if_neg hne, if_pos rfl]
        ·rw [if_neg ha, if_neg ha]
     have e2 : insE y (insE x r.kept) = insE x (insE y r.kept) := by
        refine srtE_ext hI1.kept hI2.kept fun z => ?_
        rw [insE_mem, insE_mem, insE_mem, insE_mem]
        constructor
        ·rintro (h | h | h)
         ·exact Or.inr (Or.inl h)
         ·exact Or.inl h
         ·exact Or.inr (Or.inr h)
        ·rintro (h | h | h)
         ·exact Or.inr (Or.inl h)
         ·exact Or.inl h
         ·exact Or.inr (Or.inr h)
     have e3 : sortD (sortD (r.dead ++ x.over) ++ y.over) = sortD (sortD (r.dead ++ y.over) ++ x.over) := by
        refine sortD_congr fun z => ?_
        rw [List.mem_append, sortD_mem, List.mem_append, List.mem_append, sortD_mem, List.mem_append]
        constructor
        ·rintro ((h | h) | h)
         ·exact Or.inl (Or.inl h)
         ·exact Or.inr h
         ·exact Or.inl (Or.inr h)
        ·rintro ((h | h) | h)
         ·exact Or.inl (Or.inl h)
         ·exact Or.inr h
         ·exact Or.inl (Or.inr h)
     show (⟨_, _, _⟩ : RM) = ⟨_, _, _⟩
     rw [e1, e2, e3]
/-- one event ahead of others, of other actors -/
theorem rmAp_ahead : ∀ (l : List Ev) {r : RM} (x : Ev), RInv r → (∀ y ∈ l, y.dot.a ≠ x.dot.a) → r.kept.length + l.length + 1 ≤ 2048 → l.foldl rmAp (rmAp r x) = rmAp (l.foldl rmAp r) x
 | [], r, x, _, _, _ => rfl
 | y :: l, r, x, h, hn, hl => by
   rw [List.length_cons] at hl
   rw [List.foldl_cons, List.foldl_cons, rmAp_swap h (hn y List.mem_cons_self) (by omega)]
   refine rmAp_ahead l x (h.ap y) (fun z hz => hn z (List.mem_cons_of_mem _ hz)) ?_
   have := rmAp_len r y
   omega
/-- those of some actors ahead of all others -/
theorem fold_split (p : Ev → Bool) (hp : ∀ x y : Ev, x.dot.a = y.dot.a → p x = p y) : ∀ (l : List Ev) {r : RM}, RInv r → r.kept.length + l.length ≤ 2048 → (l.filter p ++ l.filter (fun x => !p x)).foldl rmAp r = l.foldl rmAp r
 | [], r, _, _ => rfl
 | x :: l, r, h, hl => by
   rw [List.length_cons] at hl
   have hlen := rmAp_len r x
   have ih := fold_split p hp l (h.ap x) (by omega)
   rw [List.foldl_cons, ← ih]
   cases hx : p x with
   | true => rw [List.filter_cons, List.filter_cons, if_pos hx, if_neg (by rw [hx]; decide)]; rfl
   | false =>
     rw [List.filter_cons, List.filter_cons, if_neg (by rw [hx]; decide), if_pos (by rw [hx]; rfl), List.foldl_append, List.foldl_append, List.foldl_cons]
     have h9 : ∀ y ∈ l.filter p, y.dot.a ≠ x.dot.a := fun y hy e => by
        have h1 := (List.mem_filter.1 hy).2
        rw [hp y x e, hx] at h1
        cases h1
     have h8 : r.kept.length + (l.filter p).length + 1 ≤ 2048 := by
        have := List.length_filter_le p l
        omega
     rw [rmAp_ahead (l.filter p) x h h9 h8]
theorem ofNat_eq9 {n m : Nat} (hn : n < 256) (hm : m < 256) (h : UInt8.ofNat n = UInt8.ofNat m) : n = m := by
 have h1 := congrArg UInt8.toNat h
 simp only [UInt8.toNat_ofNat'] at h1
 omega
theorem shortB_inj : ∀ (n m : Nat) {r r' : Bytes}, shortB n ++ r = shortB m ++ r' → n = m ∧ r = r' := by
 intro n
 induction n using Nat.strongRecOn with
 | ind n ih =>
   intro m r r' h
   by_cases hn : n < 128
   ·rw [shortB_small n hn] at h
    by_cases hm : m < 128
    ·rw [shortB_small m hm] at h
     simp only [List.cons_append, List.nil_append, List.cons.injEq] at h
     exact ⟨ofNat_eq9 (by omega) (by omega) h.1, h.2⟩
    ·rw [shortB_big m hm] at h
     simp only [List.cons_append, List.nil_append, List.cons.injEq] at h
     have := ofNat_eq9 (by omega) (by omega) h.1
     omega
   ·rw [shortB_big n hn] at h
    by_cases hm : m < 128
    ·rw [shortB_small m hm] at h
     simp only [List.cons_append, List.nil_append, List.cons.injEq] at h
     have := ofNat_eq9 (by omega) (by omega) h.1
     omega
    ·rw [shortB_big m hm] at h
     simp only [List.cons_append, List.cons.injEq] at h
     have h1 := ofNat_eq9 (by omega) (by omega) h.1
     obtain ⟨h2, h3⟩ := ih (n / 128) (by omega) (m / 128) h.2
     exact ⟨by omega, h3⟩
theorem dotB_inj {d e : Dot} {r r' : Bytes} (hd : dotOk d = true) (he : dotOk e = true) (h : dotB d ++ r = dotB e ++ r') : d = e ∧ r = r' := by
 unfold dotB at h
 rw [if_pos hd, if_pos he, List.append_assoc, List.append_assoc, List.append_assoc, List.append_assoc] at h
 obtain ⟨h1, h⟩ := shortB_inj _ _ h
 obtain ⟨h2, h⟩ := shortB_inj _ _ h
 obtain ⟨h3, h⟩ := shortB_inj _ _ h
 refine ⟨?_, h⟩
 unfold dotOk actorOk at hd he
 simp only [Bool.and_eq_true, decide_eq_true_eq] at hd he
 obtain ⟨⟨a, b⟩, c⟩ := d
 obtain ⟨⟨a', b'⟩, c'⟩ := e
 simp only at h1 h2 h3 hd he
 obtain rfl : a = a' := by omega
 obtain rfl : b = b' := by omega
 obtain rfl : c = c' := by omega
 rfl
theorem dotsB_inj : ∀ (l m : List Dot) {r r' : Bytes}, l.length = m.length → (∀ d ∈ l, dotOk d = true) → (∀ d ∈ m, dotOk d = true) → dotsB l ++ r = dotsB m ++ r' → l = m ∧ r = r'
 | [], [], _, _, _, _, _, h => ⟨rfl, h⟩
 | [], _ :: _, _, _, hl, _, _, _ => by simp at hl
 | _ :: _, [], _, _, hl, _, _, _ => by simp at hl
 | d :: l, e :: m, r, r', hl, h1, h2, h => by
   have e1 : dotsB (d :: l) = dotB d ++ dotsB l := rfl
   have e2 : dotsB (e :: m) = dotB e ++ dotsB m := rfl
   rw [e1, e2, List.append_assoc, List.append_assoc] at h
   obtain ⟨h8, h9⟩ := dotB_inj (h1 d List.mem_cons_self) (h2 e List.mem_cons_self) h
   obtain ⟨h6, h7⟩ := dotsB_inj l m (by simpa using hl) (fun x hx => h1 x (List.mem_cons_of_mem _ hx)) (fun x hx => h2 x (List.mem_cons_of_mem _ hx)) h9
   exact ⟨by rw [h8, h6], h7⟩
theorem marksB_inj {l m : List Dot} {r r' : Bytes} (h1 : ∀ d ∈ l, dotOk d = true) (h2 : ∀ d ∈ m, dotOk d = true) (h : marksB l ++ r = marksB m ++ r') : l = m := by
 unfold marksB at h
 rw [List.append_assoc, List.append_assoc] at h
 obtain ⟨hl, h⟩ := shortB_inj _ _ h
 exact (dotsB_inj l m hl h1 h2 h).1
theorem viewB_ctx {s t : MS} (hs : MInv s) (ht : MInv t) (h : viewB s = viewB t) : s.ctx = t.ctx := by
 unfold viewB at h
 rw [List.append_assoc, List.append_assoc] at h
 exact marksB_inj hs.ctxOk ht.ctxOk h
theorem viewB_eq {s t : MS} (hc : s.ctx = t.ctx) (ha : (aliveOf s).map bareEv = (aliveOf t).map bareEv) : viewB s = viewB t := by
 have hl : (aliveOf s).length = (aliveOf t).length := by
  have := congrArg List.length ha
  rwa [List.length_map, List.length_map] at this
 show marksB s.ctx ++ shortB (aliveOf s).length ++ evsB ((aliveOf s).map bareEv) = marksB t.ctx ++ shortB (aliveOf t).length ++ evsB ((aliveOf t).map bareEv)
 rw [hc, ha, hl]
theorem coversM_self9 {l : List Dot} (h : SrtM l) : coversM l l = true := by
 unfold coversM
 rw [List.all_eq_true]
 intro d hd
 rw [decide_eq_true_eq, getM_mem h hd]
 exact Int.le_refl _
/-- a map, and one of the same made by another road and compacted: their views are the same -/
theorem view_cp {s t t' : MS} {n n' : Nat} {r : RM} (hs : SGood s n) (ht : SGood t n') (ht' : SGood t' n') (h1 : Rel s r) (h2 : Rel t r) (h3 : Rel t' (cpDo t.ctx t.rm)) : viewB s = viewB t' := by
 have hr : t.rm = r := ht.rel.uniq h2
 have hc := CK.of ht.rinv t.ctx
 have e1 : t'.ctx = t.ctx := by
  have := hc.ctx
  rw [h3.ctx] at this
  exact this
 refine viewB_eq ?_ ?_
 ·rw [e1, ← h1.ctx, ← h2.ctx]
 ·rw [← aliveR_eq ht'.inv h3, hc.alive, ← aliveR_eq hs.inv h1]
  show _ = (aliveR t.rm).map bareEv
  rw [hr]
/-- an event more is seen -/
theorem view_ap {s t t' : MS} {e : Ev} (hs : MInv s) (ht : MInv t) (ht' : MInv t') (h : viewB s = viewB t) (ha : if apOk t e = true then Applied t e t' else t' = t) : decide (viewB s = viewB t') = !apOk t e := by
 cases ho : apOk t e with
 | false =>
   rw [ho, if_neg (by decide)] at ha
   subst ha
   rw [decide_eq_true h]
   rfl
 | true =>
   rw [ho, if_pos rfl] at ha
   obtain ⟨q1, q2, q3, _⟩ := apOk_parts ho
   refine decide_eq_false fun h9 => ?_
   have e1 := viewB_ctx hs ht h
   have e2 := viewB_ctx hs ht' h9
   have h4 : hasM t'.ctx e.dot = true := by
    rw [ha.ctx, hasM_set (evOk_parts q1).1 q3, decide_eq_true rfl, Bool.or_true]
   rw [← e2, e1, q2] at h4
   cases h4
end Go.Proofs.YtpbobhfnglikmaaGreat
