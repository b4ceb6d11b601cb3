/- The law OrmapKeys, plainly. Conditions: none. -/
import Derived.Test.YtcijajjngmmbeaaGreatRefX
import Derived.Test.YtcijajjngmmbeaaGreatAlive
import Derived.Test.YtcijajjngmmbeaaGreatRefR
import Derived.Test.YtcijajjngmmbeaaGreatOpen
set_option linter.unusedSimpArgs false
set_option linter.unusedVariables false
set_option linter.unnecessarySimpa false
namespace Go.Proofs.YtcijajjngmmbeaaGreat
open Go.RowKit

theorem evsOf_filter (p : Ev → Bool) (l : List EvIt) : evsOf (l.filter fun z => p z.1) = (evsOf l).filter p := by
  unfold evsOf
  rw [List.filter_map]
  rfl
theorem evAt_srt {K : List EvIt} (hnd : (K.map (·.1.dot)).Nodup) {l : List Dot} (hs : SrtD l) (hm : ∀ d ∈ l, ∃ x ∈ K, x.1.dot = d) : SrtE (l.map (evAt K)) := by
  refine List.pairwise_map.2 (hs.imp_of_mem fun {a b} ha hb hab => ?_)
  obtain ⟨x, hx, rfl⟩ := hm a ha
  obtain ⟨z, hz, rfl⟩ := hm b hb
  rw [evAt_nd hnd hx, evAt_nd hnd hz]
  exact hab
theorem evAt_memL {K : List EvIt} (hnd : (K.map (·.1.dot)).Nodup) {l : List Dot} (hm : ∀ d ∈ l, ∃ x ∈ K, x.1.dot = d) {e : Ev} : e ∈ (sortD l).map (evAt K) ↔ ∃ x ∈ K, x.1.dot ∈ l ∧ x.1 = e := by
  rw [List.mem_map]
  constructor
  · rintro ⟨d, hd, rfl⟩
    obtain ⟨x, hx, rfl⟩ := hm d (sortD_mem.1 hd)
    exact ⟨x, hx, sortD_mem.1 hd, (evAt_nd hnd hx).symm⟩
  · rintro ⟨x, hx, hd, rfl⟩
    exact ⟨x.1.dot, sortD_mem.2 hd, evAt_nd hnd hx⟩
theorem same_kept {s : MS} (hnd : (s.K.map (·.1.dot)).Nodup) {x z : EvIt} (hx : x ∈ s.K) (hz : z ∈ s.K) (e : x.1.dot = z.1.dot) : x.1 = z.1 := by
  rw [← evAt_nd hnd hx, ← evAt_nd hnd hz, e]
theorem keyOfS_mem {s : MS} (hi : MInv s) (hnd : (s.K.map (·.1.dot)).Nodup) (k : Key) {e : Ev} : e ∈ keyOfS s k ↔ (∃ x ∈ s.K, x.1 = e) ∧ e.kind = 1 ∧ e.dot ∉ s.dead ∧ e.key = k := by
  have hm : ∀ d ∈ atK s.pairs k, ∃ x ∈ s.K, x.1.dot = d := fun d hd => by
    obtain ⟨x, hx, _, h3, _⟩ := (hi.pairs k d).1 (atK_mem.1 hd)
    exact ⟨x, hx, h3⟩
  unfold keyOfS
  rw [evAt_memL hnd hm]
  constructor
  · rintro ⟨x, hx, hd, rfl⟩
    obtain ⟨z, hz, h2, h3, h4, h5⟩ := (hi.pairs k _).1 (atK_mem.1 hd)
    have hxz := same_kept hnd hz hx h3
    rw [hxz] at h2 h4
    exact ⟨⟨x, hx, rfl⟩, h2, h5, h4⟩
  · rintro ⟨⟨x, hx, rfl⟩, h2, h3, h4⟩
    exact ⟨x, hx, atK_mem.2 ((hi.pairs k _).2 ⟨x, hx, h2, rfl, h4, h3⟩), rfl⟩
theorem aliveOf_mem {s : MS} (hi : MInv s) (hnd : (s.K.map (·.1.dot)).Nodup) {e : Ev} : e ∈ aliveOf s ↔ (∃ x ∈ s.K, x.1 = e) ∧ e.kind = 1 ∧ e.dot ∉ s.dead := by
  have hm : ∀ d ∈ s.pairs.map (·.2), ∃ x ∈ s.K, x.1.dot = d := fun d hd => by
    obtain ⟨q, hq, rfl⟩ := List.mem_map.1 hd
    obtain ⟨x, hx, _, h3, _⟩ := (hi.pairs q.1 q.2).1 hq
    exact ⟨x, hx, h3⟩
  unfold aliveOf
  rw [evAt_memL hnd hm]
  constructor
  · rintro ⟨x, hx, hd, rfl⟩
    obtain ⟨q, hq, e9⟩ := List.mem_map.1 hd
    obtain ⟨z, hz, h2, h3, h4, h5⟩ := (hi.pairs q.1 q.2).1 hq
    have hxz := same_kept hnd hz hx (h3.trans e9)
    rw [hxz] at h2
    rw [e9] at h5
    exact ⟨⟨x, hx, rfl⟩, h2, h5⟩
  · rintro ⟨⟨x, hx, rfl⟩, h2, h3⟩
    exact ⟨x, hx, List.mem_map.2 ⟨(x.1.key, x.1.dot), (hi.pairs _ _).2 ⟨x, hx, h2, rfl, rfl, h3⟩, rfl⟩, rfl⟩
/-- the reference's alive events are the map's -/
theorem alive_eq {s : MS} (hi : MInv s) {y : RMIt} (hr : Rel s y.rm) : evsOf (y.K.filter (aliveB y.dead)) = aliveOf s := by
  have hk : evsOf y.K = eventsOf s := hr.kept
  have hd : y.dead = sortD s.dead := hr.dead
  have hm : ∀ d ∈ s.pairs.map (·.2), ∃ x ∈ s.K, x.1.dot = d := fun d hd => by
    obtain ⟨q, hq, rfl⟩ := List.mem_map.1 hd
    obtain ⟨x, hx, _, h3, _⟩ := (hi.pairs q.1 q.2).1 hq
    exact ⟨x, hx, h3⟩
  have h1 : evsOf (y.K.filter (aliveB y.dead)) = (evsOf y.K).filter (fun e : Ev => decide (e.kind = 1) && !decide (e.dot ∈ y.dead)) := evsOf_filter (fun e : Ev => decide (e.kind = 1) && !decide (e.dot ∈ y.dead)) y.K
  rw [h1, hk]
  refine srtE_ext ((eventsOf_srt hr.nd).sublist List.filter_sublist) (evAt_srt hr.nd (sortD_srt _) fun d h => hm d (sortD_mem.1 h)) fun e => ?_
  rw [aliveOf_mem hi hr.nd, List.mem_filter, eventsOf_mem hr.nd, Bool.and_eq_true, decide_eq_true_eq, Bool.not_eq_true', decide_eq_false_iff_not, hd, sortD_mem]
theorem key_eq {s : MS} (hi : MInv s) {y : RMIt} (hr : Rel s y.rm) (k : Key) : evsOf ((y.K.filter (aliveB y.dead)).filter (keyB k)) = keyOfS s k := by
  have hm : ∀ d ∈ atK s.pairs k, ∃ x ∈ s.K, x.1.dot = d := fun d hd => by
    obtain ⟨x, hx, _, h3, _⟩ := (hi.pairs k d).1 (atK_mem.1 hd)
    exact ⟨x, hx, h3⟩
  have hm2 : ∀ d ∈ s.pairs.map (·.2), ∃ x ∈ s.K, x.1.dot = d := fun d hd => by
    obtain ⟨q, hq, rfl⟩ := List.mem_map.1 hd
    obtain ⟨x, hx, _, h3, _⟩ := (hi.pairs q.1 q.2).1 hq
    exact ⟨x, hx, h3⟩
  have h1 : evsOf ((y.K.filter (aliveB y.dead)).filter (keyB k)) = (evsOf (y.K.filter (aliveB y.dead))).filter (fun e : Ev => decide (e.key = k)) := evsOf_filter (fun e : Ev => decide (e.key = k)) _
  rw [h1, alive_eq hi hr]
  refine srtE_ext ((evAt_srt hr.nd (sortD_srt _) fun d h => hm2 d (sortD_mem.1 h)).sublist List.filter_sublist) (evAt_srt hr.nd (sortD_srt _) fun d h => hm d (sortD_mem.1 h)) fun e => ?_
  rw [keyOfS_mem hi hr.nd k, List.mem_filter, decide_eq_true_eq, aliveOf_mem hi hr.nd]
  constructor
  · rintro ⟨⟨h1, h2, h3⟩, h4⟩
    exact ⟨h1, h2, h3, h4⟩
  · rintro ⟨h1, h2, h3, h4⟩
    exact ⟨⟨h1, h2, h3⟩, h4⟩
theorem deads_eq {s : MS} {y : RMIt} (hr : Rel s y.rm) (d : Dot) : decide (d ∈ y.dead) = decide (d ∈ s.dead) := by
  have hd : y.dead = sortD s.dead := hr.dead
  rw [hd]
  exact decide_eq_decide.2 sortD_mem
end Go.Proofs.YtcijajjngmmbeaaGreat

/- The law OrmapKeys, walked. Conditions: none. -/
namespace Go.Proofs.YtcijajjngmmbeaaGreat
open Go.RowKit

section
variable {H : Type} {enc : TypeId × Value → H} {w : World} {base : Nat} {spare : Nat → Bool} {held : Bool}
open Go.ChangeShapes Go.WideShapes Go.ChangeAt
set_option maxRecDepth 100000 in
theorem arg_key {r : Reach} {b0 : Nat} {v : Value} {d : DataW H} {p : List MemPlace} (hv : Value.okWide Tryz.prog w r b0 24 v) (h : DataW.Trod enc Tryz.prog w 0 spare held 24 v d p) :
    ∃ k : Key, v = keyVal k ∧ KeyW k := by
  obtain ⟨⟨cs⟩, rfl, hsz⟩ := okWide_struct Tryz.underlying24 hv
  rw [cellsKey] at hsz
  obtain ⟨fuel, hf⟩ := h
  match cs, hsz with
  | [c0, c1, c2], _ =>
    simp only [Value.cells] at hf
    obtain ⟨_, _, h0⟩ := trod_field Tryz.underlying24 hf 0 _ rfl 1 (by kernel_rfl) [c0] rfl
    obtain ⟨_, _, h1⟩ := trod_field Tryz.underlying24 hf 1 _ rfl 1 (by kernel_rfl) [c1] rfl
    obtain ⟨_, _, h2⟩ := trod_field Tryz.underlying24 hf 2 _ rfl 1 (by kernel_rfl) [c2] rfl
    obtain ⟨x0, e0, _, w0⟩ := DataW.trod_string Tryz.underlying9 h0
    obtain ⟨x1, e1, _, w1⟩ := DataW.trod_string Tryz.underlying9 h1
    obtain ⟨x2, e2, _, w2⟩ := DataW.trod_string Tryz.underlying9 h2
    simp only [List.cons.injEq, and_true] at e0 e1 e2
    subst e0 e1 e2
    exact ⟨⟨x0, x1, x2⟩, rfl, ⟨w0, w1, w2⟩⟩
set_option maxRecDepth 100000 in
theorem arg_dot {r : Reach} {b0 : Nat} {v : Value} {d : DataW H} {p : List MemPlace} (hv : Value.okWide Tryz.prog w r b0 28 v) (h : DataW.Trod enc Tryz.prog w 0 spare held 28 v d p) :
    ∃ q : Dot, v = dotVal q ∧ DotW q := by
  obtain ⟨⟨cs⟩, rfl, hsz⟩ := okWide_struct Tryz.underlying28 hv
  rw [cellsDot] at hsz
  obtain ⟨fuel, hf⟩ := h
  match cs, hsz with
  | [c0, c1, c2], _ =>
    simp only [Value.cells] at hf
    obtain ⟨_, _, hA⟩ := trod_field Tryz.underlying28 hf 0 _ rfl 2 (by kernel_rfl) [c0, c1] rfl
    obtain ⟨_, _, hS⟩ := trod_field Tryz.underlying28 hf 1 _ rfl 1 (by kernel_rfl) [c2] rfl
    obtain ⟨_, _, hD⟩ := trod_field Tryz.underlying26 hA 0 _ rfl 1 (by kernel_rfl) [c0] rfl
    obtain ⟨_, _, hI⟩ := trod_field Tryz.underlying26 hA 1 _ rfl 1 (by kernel_rfl) [c1] rfl
    obtain ⟨x0, e0, _, w0⟩ := DataW.trod_int Tryz.underlying3 hD
    obtain ⟨x1, e1, _, w1⟩ := DataW.trod_int Tryz.underlying3 hI
    obtain ⟨x2, e2, _, w2⟩ := DataW.trod_int Tryz.underlying3 hS
    simp only [List.cons.injEq, and_true] at e0 e1 e2
    subst e0 e1 e2
    exact ⟨⟨⟨x0, x1⟩, x2⟩, rfl, ⟨⟨w0, w1⟩, w2⟩⟩
end
theorem light_evs9 {n : Nat} {ls : List EvIt} (h : lightAll n (evsOf ls) = true) : ls.length ≤ n ∧ EvsSmall ls := by
  unfold lightAll at h
  simp only [Bool.and_eq_true, decide_eq_true_eq, List.all_eq_true] at h
  exact ⟨by rw [← evsOf_length]; exact h.1, fun x hx => light_small (h.2 x.1 (List.mem_map_of_mem hx))⟩
theorem Merged.come9 {s : MS} {l : List Ev} {s' : MS} {n : Nat} {f : Int} (h : Merged s l s' n f) : ∀ x ∈ s'.K, (∃ y ∈ s.K, y.1 = x.1) ∨ x.1 ∈ l := by
  induction h with
  | nil => exact fun x hx => Or.inl ⟨x, hx, rfl⟩
  | snoc _ hap ih =>
    intro x hx
    split at hap
    · obtain ⟨a, c, hk⟩ := hap.kept
      rcases List.mem_cons.1 (hk.mem_iff.1 hx) with rfl | hx
      · exact Or.inr (by simp)
      · exact (ih x hx).imp id fun h => by simp [h]
    · rw [hap] at hx
      exact (ih x hx).imp id fun h => by simp [h]
/-- what the law's last row calls -/
structure KeysEnd (m : Nat) (b : MB) (s : MS) (y : RMIt) (k : Key) (q : Dot) (cH cD : Bool) (r : Ev × Bool) : Prop where
  win : ∀ X : World, MpIn X m b s → Calls Tryz.prog 19 #[.pointer (some ⟨m, 0, none⟩), keyVal k] X (RetWin r X)
  rwin : ∀ X : World, RMIn X y → Calls Tryz.prog 20 #[rmVal y, keyVal k] X (RetWin r X)
  key : ∀ X : World, MpIn X m b s → Calls Tryz.prog 22 #[.pointer (some ⟨m, 0, none⟩), keyVal k] X fun e w' => ∃ a d c, e = .returned (.slice a d.length c) ∧ EvsIn w' a d ∧ evsOf d = keyOfS s k ∧ Below X.heap.size X w'
  rkey : ∀ X : World, RMIn X y → Calls Tryz.prog 23 #[rmVal y, keyVal k] X fun e w' => ∃ a d c, e = .returned (.slice a d.length c) ∧ EvsIn w' a d ∧ evsOf d = keyOfS s k ∧ Below X.heap.size X w'
  all : ∀ (X : World) (a1 a2 : Option Addr) (c1 c2 : Nat) (d1 d2 : List EvIt), EvsIn X a1 d1 → EvsIn X a2 d2 → evsOf d1 = keyOfS s k → evsOf d2 = keyOfS s k → Calls Tryz.prog 21 #[.slice a1 d1.length c1, .slice a2 d2.length c2] X fun e w' => e = .returned (.bool true) ∧ Below X.heap.size X w'
  same : ∀ (X : World) (a1 a2 : Option Addr) (c1 c2 : Nat), DotsIn X a1 r.1.over → DotsIn X a2 r.1.over → Calls Tryz.prog 24 #[.agg (evCells r.1 a1 c1).toArray, .agg (evCells r.1 a2 c2).toArray] X fun e w' => e = .returned (.bool true) ∧ Below X.heap.size X w'
  has : ∀ X : World, MpIn X m b s → Calls Tryz.prog 25 #[.pointer (some ⟨m, 0, none⟩), dotVal q] X fun e w' => e = .returned (.bool cH) ∧ Below X.heap.size X w'
  rhas : ∀ X : World, RMIn X y → Calls Tryz.prog 26 #[.slice y.ac y.ctx.length y.cc, dotVal q] X fun e w' => e = .returned (.bool cH) ∧ Below X.heap.size X w'
  dead : ∀ X : World, MpIn X m b s → Calls Tryz.prog 27 #[.pointer (some ⟨m, 0, none⟩), dotVal q] X fun e w' => e = .returned (.bool cD) ∧ Below X.heap.size X w'
  rdead : ∀ X : World, RMIn X y → Calls Tryz.prog 28 #[.slice y.ad y.dead.length y.cd, dotVal q] X fun e w' => e = .returned (.bool cD) ∧ Below X.heap.size X w'
theorem keysEnd {m : Nat} {b : MB} {s : MS} {y : RMIt} (hi : MInv s) (hr : Rel s y.rm) (hsz : RMSize y) (hK : y.K.length ≤ 4096) {w : World} (hm : MpIn w m b s) (hsm : ∀ x ∈ s.K, EvSmall x.1) (k : Key) (hk : KeyW k) (q : Dot) (hq : DotW q) :
    KeysEnd m b s y k q (hasM s.ctx q) (decide (q ∈ s.dead)) (winOf (keyOfS s k)) := by
  have hctx : y.ctx = s.ctx := hr.ctx
  have hke := key_eq hi hr k
  obtain ⟨hkl, hkm⟩ := keyOfS_ok hm hi k
  have hsmk : ∀ (d : List EvIt), evsOf d = keyOfS s k → EvsSmall d ∧ d.length ≤ 1073741824 := fun d hd => by
    refine ⟨fun x hx => ?_, by rw [← evsOf_length, hd]; omega⟩
    have h1 : x.1 ∈ keyOfS s k := by rw [← hd]; exact List.mem_map_of_mem hx
    obtain ⟨z, hz, e⟩ := hkm _ h1
    rw [← e]
    exact hsm z hz
  have hover : (winOf (keyOfS s k)).1.over.length ≤ 1073741824 := by
    have h1 : (winOf (keyOfS s k)).1 = ev0 ∨ (winOf (keyOfS s k)).1 ∈ keyOfS s k := by
      have hfold : ∀ (l : List Ev) (x : Ev), l.foldl winStep x = x ∨ l.foldl winStep x ∈ l := by
        intro l
        induction l with
        | nil => exact fun x => Or.inl rfl
        | cons e l ih =>
          intro x
          rw [List.foldl_cons]
          rcases ih (winStep x e) with h | h
          · rw [h]
            unfold winStep
            split
            · exact Or.inl rfl
            · exact Or.inr List.mem_cons_self
          · exact Or.inr (List.mem_cons_of_mem _ h)
      cases hL : keyOfS s k with
      | nil => exact Or.inl rfl
      | cons x r =>
        refine Or.inr ?_
        show r.foldl winStep x ∈ x :: r
        rcases hfold r x with h | h
        · rw [h]; exact List.mem_cons_self
        · exact List.mem_cons_of_mem _ h
    rcases h1 with h1 | h1
    · rw [h1]; decide
    · obtain ⟨z, hz, e⟩ := hkm _ h1
      rw [← e]
      exact (hsm z hz).over
  have hovy : ∀ z ∈ y.K, ∀ d ∈ z.1.over, dotOk d = true := fun z hz => by
    have h1 : z.1 ∈ eventsOf s := by rw [← (hr.kept : evsOf y.K = eventsOf s)]; exact List.mem_map_of_mem hz
    obtain ⟨x, hx, e⟩ := (eventsOf_mem hr.nd).1 h1
    rw [← e]
    exact hi.overOk hx
  refine ⟨fun X h => mWinner_any k hk X h hi, fun X h => ?_, fun X h => ?_, fun X h => ?_, fun X a1 a2 c1 c2 d1 d2 h1 h2 e1 e2 => ?_, fun X a1 a2 c1 c2 h1 h2 => ?_, fun X h => mHas_any q X h, fun X h => ?_, fun X h => mDead_any q hq X h, fun X h => ?_⟩
  · have h1 := rWinner21_any y k X hK (by have := hsz.dead; omega) h hovy
    rw [hke] at h1
    exact h1
  · refine (mKey_any k hk X h hi).mono ?_
    rintro e w' ⟨a, d, c, rfl, h1, ⟨h2, _⟩, h3⟩
    exact ⟨a, d, c, rfl, h1, h2, h3⟩
  · refine (rKey21_any y k X hK (by have := hsz.dead; omega) h).mono ?_
    rintro e w' ⟨a, c, rfl, h1, _, h3⟩
    exact ⟨a, _, c, rfl, h1, hke, h3⟩
  · obtain ⟨s1, l1⟩ := hsmk d1 e1
    obtain ⟨s2, l2⟩ := hsmk d2 e2
    have h3 := rSameEvs_any a1 a2 c1 c2 d1 d2 X l1 l2 s1 s2 h1 h2
    rw [decide_eq_true (e1.trans e2.symm)] at h3
    exact h3
  · have h3 := rSameEv_any (winOf (keyOfS s k)).1 (winOf (keyOfS s k)).1 a1 a2 c1 c2 X hover hover h1 h2
    rw [decide_eq_true rfl] at h3
    exact h3
  · have h1 := rHasM_any y.ac y.cc y.ctx q X (by have := hsz.ctx; omega) h.ctx
    rw [hctx] at h1 ⊢
    exact h1
  · have h1 := rHasD_any y.ad y.cd y.dead q X (by have := hsz.dead; omega) h.dead
    rw [deads_eq hr q] at h1
    exact h1

set_option maxRecDepth 100000 in
set_option maxHeartbeats 16000000 in
theorem lawKeys_any (a : Option Addr) (ca : Nat) (ls : List EvIt) (k : Key) (q : Dot) (w : World) (hE : EvsArg w a ls) (hkw : KeyW k) (hq : DotW q) :
    Calls Tryz.prog 3 #[.slice a ls.length ca, keyVal k, dotVal q] w fun x w' => x = .returned (.bool true) ∧ Below w.heap.size w w' := by
  have HL0 : ∀ X, EvsIn X a ls → Calls Tryz.prog 14 #[.slice a ls.length ca, .int .i64 40] X fun x w' => x = .returned (.bool (lightAll 40 (evsOf ls))) ∧ Below X.heap.size X w' := fun X h => LightAll_any a ca 40 ls X (by decide) hE.len h (fun x hx => ⟨(hE.each x hx).over, (hE.each x hx).name, (hE.each x hx).domain, (hE.each x hx).path, (hE.each x hx).value⟩)
  have HA := Lib.hid awake21_any
  have hEi := hE.evs
  clear hE
  cases hli : lightAll 40 (evsOf ls) with
  | false =>
    rw [hli] at HL0
    have HL := Lib.hid HL0
    clear HL0 hli
    go_enter Tryz.func3, Tryz.ntmps3
    go_upto_region 1 with fail
    refine wp_name (fun V hV => ?_)
    have hb0 : Below w.heap.size w V := by rw [hV.out]; go_grown
    have K0 : V.cell? ⟨w.heap.size, 0, none⟩ = some (.string k.name) := by rw [hV.out]; go_simp
    have K1 : V.cell? ⟨w.heap.size, 1, none⟩ = some (.string k.domain) := by rw [hV.out]; go_simp
    have K2 : V.cell? ⟨w.heap.size, 2, none⟩ = some (.string k.path) := by rw [hV.out]; go_simp
    have D0 : V.cell? ⟨w.heap.size + 1, 0, none⟩ = some (.int .i64 q.a.dev) := by rw [hV.out]; go_simp
    have D1 : V.cell? ⟨w.heap.size + 1, 1, none⟩ = some (.int .i64 q.a.inc) := by rw [hV.out]; go_simp
    have D2 : V.cell? ⟨w.heap.size + 1, 2, none⟩ = some (.int .i64 q.seq) := by rw [hV.out]; go_simp
    have hE0 := hEi.kept hb0
    clear hV
    go_wp2_with (first
      | (go_at_call 14; (with_reducible refine (HL.out _ hE0).mono ?_); rintro x w1 ⟨rfl, hb1⟩; have hK0 := kept hb1 K0; have hK1 := kept hb1 K1; have hK2 := kept hb1 K2)
      | (go_at_call 15; (with_reducible refine (HA.out _).mono ?_); rintro x w2 ⟨rfl, hb2⟩))
    go_ret
    exact ⟨rfl, (hb0.trans (hb1.mono hb0.size)).trans (hb2.mono (Nat.le_trans hb0.size hb1.size))⟩
  | true =>
    obtain ⟨hls, hsl⟩ := light_evs9 hli
    rw [hli] at HL0
    have HL := Lib.hid HL0
    clear HL0 hli
    by_cases h1 : k.name.size ≤ 2000
    · have hd1 : decide ((2000 : Int) < (k.name.size : Int)) = false := decide_eq_false (by omega)
      by_cases h2 : k.domain.size ≤ 2000
      · have hd2 : decide ((2000 : Int) < (k.domain.size : Int)) = false := decide_eq_false (by omega)
        by_cases h3 : k.path.size ≤ 2000
        · have hd3 : decide ((2000 : Int) < (k.path.size : Int)) = false := decide_eq_false (by omega)
          clear h1 h2 h3
          have HN := Lib.hid (fun X => mNew_any X)
          have HFo := Lib.hid (fun (X : World) (hE : EvsIn X a ls) => rFold_any a ca ls X (by omega) hE hsl)
          have HSM := Lib.hid hsl
          go_enter Tryz.func3, Tryz.ntmps3
          go_upto_region 1 with fail
          refine wp_name (fun V hV => ?_)
          have hb0 : Below w.heap.size w V := by rw [hV.out]; go_grown
          have K0 : V.cell? ⟨w.heap.size, 0, none⟩ = some (.string k.name) := by rw [hV.out]; go_simp
          have K1 : V.cell? ⟨w.heap.size, 1, none⟩ = some (.string k.domain) := by rw [hV.out]; go_simp
          have K2 : V.cell? ⟨w.heap.size, 2, none⟩ = some (.string k.path) := by rw [hV.out]; go_simp
          have D0 : V.cell? ⟨w.heap.size + 1, 0, none⟩ = some (.int .i64 q.a.dev) := by rw [hV.out]; go_simp
          have D1 : V.cell? ⟨w.heap.size + 1, 1, none⟩ = some (.int .i64 q.a.inc) := by rw [hV.out]; go_simp
          have D2 : V.cell? ⟨w.heap.size + 1, 2, none⟩ = some (.int .i64 q.seq) := by rw [hV.out]; go_simp
          have hE0 := hEi.kept hb0
          clear hV
          go_upto_region 4 with (first
            | (go_at_call 14; (with_reducible refine (HL.out _ hE0).mono ?_); rintro x w9 ⟨rfl, hb9⟩; have hK0 := kept hb9 K0; have hK1 := kept hb9 K1; have hK2 := kept hb9 K2)
            | (go_at_call 16; (with_reducible refine (HN.out _).mono ?_); rintro x w1 ⟨m, b, rfl, hm, hb1, hlo, hfo⟩))
          have hE9 := hE0.kept hb9
          replace K0 := kept hb9 K0
          replace K1 := kept hb9 K1
          replace K2 := kept hb9 K2
          replace D0 := kept hb9 D0
          replace D1 := kept hb9 D1
          replace D2 := kept hb9 D2
          have hbw9 : Below w.heap.size w w9 := hb0.trans (hb9.mono hb0.size)
          clear hE0 hEi hb0 hb9 hlo HL HN
          go_wp2
          go_loopw [8] (fun i wr => ∃ (j : Nat) (s : MS) (n : Nat) (f : Int), i = .int .i64 j ∧ j ≤ ls.length ∧ MpIn wr m b s ∧ Merged MS.empty ((evsOf ls).take j) s n f ∧ (∀ z, foot b s.A z → w9.heap.size ≤ z) ∧ Below w9.heap.size w9 wr) (fun i _ => ls.length - (intOf i).toNat)
          case atStart => exact ⟨0, MS.empty, 0, 0, rfl, Nat.zero_le _, hm, Merged.nil, hfo, hb1⟩
          case round =>
            obtain ⟨j, s, n, f, rfl, hj, hmr, hM, hfr, hbr⟩ := hrel
            clear hm hfo hb1
            obtain ⟨hi, g1, g2, g3⟩ := hM.facts MInv.empty
            rw [List.length_take, evsOf_length] at g1 g2 g3
            have hMe : MS.empty.ctx.length = 0 ∧ MS.empty.dead.length = 0 := ⟨rfl, rfl⟩
            have HM := Lib.hid hM
            by_cases hlt : j < ls.length
            · obtain ⟨A, off, rfl, hra, hda⟩ := (hE9.kept hbr).at hlt
              have r1 := hra j hlt
              have hse := HSM.out _ (List.getElem_mem hlt)
              have HT : Hid ((evsOf ls).take (j + 1) = (evsOf ls).take j ++ [ls[j].1]) := by
                unfold Hid
                rw [List.take_add_one, List.getElem?_eq_getElem (by rw [evsOf_length]; exact hlt), evsOf_at hlt]
                rfl
              have HLT := Lib.hid hlt
              have hkl : j ≤ 40 := by omega
              generalize ls[j] = x at *
              obtain ⟨e, ax, cx⟩ := x
              simp only [itEv] at r1
              simp only at hda hse HT
              have hn0 : ax = none → e.over = [] := fun hn => by rcases hda with h | ⟨A, off, h3, _⟩; exact h; rw [hn] at h3; cases h3
              have HAp := Lib.hid (mApply_any e ax cx wr hmr hi hse hda hn0 (by omega) (by omega))
              have HB := Lib.hid (And.intro hbr (And.intro hfr hmr))
              clear hra hse hda hM hmr hfr hi g1 g2 g3 hbr hn0
              go_wp2_with (first
                | ((with_reducible refine wpList_load_evo _ A (off + j * 19) e ax cx r1 ?_ rfl ?_); exact rfl)
                | (go_at_call 17; (with_reducible refine HAp.out.mono ?_); rintro v w2 ⟨s2, rfl, hm2, hf2, hft2, hap2⟩))
              have HZ : Hid (MpIn w2 m b s2 ∧ Merged MS.empty ((evsOf ls).take (j + 1)) s2 (if apOk s e = true then n + 1 else n) (if f = 0 then apErr s e else f) ∧ (∀ z, foot b s2.A z → w9.heap.size ≤ z) ∧ Below w9.heap.size w9 w2) := by
                obtain ⟨hbr, hfr, hmr⟩ := HB.out
                refine ⟨hm2, by rw [HT.out]; exact Merged.snoc HM.out hap2, fun z hz => ?_, hbr.trans (hf2.below hbr.size hfr)⟩
                rcases hft2 z hz with h3 | h3
                · exact hfr z h3
                · exact Nat.le_trans hbr.size h3
              clear hm2 hf2 hft2 hap2 HAp r1
              go_roundw
              case rel => exact ⟨j + 1, s2, _, _, by go_num, HLT.out, HZ.out.1, HZ.out.2.1, HZ.out.2.2.1, HZ.out.2.2.2⟩
              case measure => have := HLT.out; simp [intOf] <;> omega
            · obtain rfl : j = ls.length := by omega
              have hM2 : Merged MS.empty (evsOf ls) s n f := by
                have := HM.out
                rwa [List.take_of_length_le (by rw [evsOf_length]; exact Nat.le_refl _)] at this
              have HFo1 := Lib.hid (HFo.out wr (hE9.kept hbr))
              replace K0 := kept hbr K0
              replace K1 := kept hbr K1
              replace K2 := kept hbr K2
              replace D0 := kept hbr D0
              replace D1 := kept hbr D1
              replace D2 := kept hbr D2
              have hbwr : Below w.heap.size w wr := hbw9.trans (hbr.mono hbw9.size)
              have HM2 := Lib.hid hM2
              have HI := Lib.hid hi
              clear hM hfr hi hM2 HM g1 g2 g3 hMe hbr hE9 hbw9 HFo
              go_upto_region 9 with (first
                | (go_at_call 18; (with_reducible refine HFo1.out.mono ?_); rintro v w3 ⟨y, rfl, hIn, hy, hb3⟩)
                | (refine wpList_store_new 45 _ _ _ (rmRow y) rfl rfl (by kernel_rfl) rfl (by kernel_rfl) ?_))
              have hbA := (Below.refl w3.heap.size w3).alloc (Nat.le_refl _) (.cells (rmRow y) 45)
              have hAt : RMAt (w3.alloc (.cells (rmRow y) 45)) w3.heap.size y := heap_last0 _ _
              obtain ⟨W3, hW3⟩ : ∃ W3, W3 = w3.alloc (.cells (rmRow y) 45) := ⟨_, rfl⟩
              rw [← hW3] at hbA hAt ⊢
              have hb3A : Below wr.heap.size wr W3 := hb3.trans (hbA.mono hb3.size)
              have hrel := HM2.out.rel Rel.empty MInv.empty
              rw [← hy] at hrel
              have hgood := RMGood.empty.fold (evsOf ls)
              rw [← hy, Nat.zero_add, evsOf_length] at hgood
              have hyK : y.K.length ≤ 4096 := by
                have h9 := hgood.kept
                have h8 : (evsOf y.K).length ≤ ls.length := h9
                rw [evsOf_length] at h8
                omega
              have hsmK : ∀ x ∈ s.K, EvSmall x.1 := fun x hx => by
                rcases HM2.out.come9 x hx with ⟨z9, hz9, _⟩ | h9
                · cases hz9
                · obtain ⟨v, hv, e8⟩ := List.mem_map.1 h9
                  rw [← e8]
                  exact HSM.out v hv
              obtain ⟨cH, cD, r, hEnd⟩ : ∃ cH cD r, KeysEnd m b s y k q cH cD r := ⟨_, _, _, keysEnd HI.out hrel (hgood.size (by omega)) hyK hmr hsmK k hkw q hq⟩
              have HEn := Lib.hid hEnd
              have hm3 := hmr.kept_w hb3A
              have hI3 := hIn.keep hbA
              replace K0 := kept hb3A K0
              replace K1 := kept hb3A K1
              replace K2 := kept hb3A K2
              replace D0 := kept hb3A D0
              replace D1 := kept hb3A D1
              replace D2 := kept hb3A D2
              have hB3 : Below w.heap.size w W3 := hbwr.trans (hb3A.mono hbwr.size)
              generalize w3.heap.size = B9 at *
              clear hW3 hbA hb3 hrel hgood hyK hsmK hEnd hmr hIn hy hb3A hbwr HFo1
              go_upto_region 10 with (first
                | (go_at_call 19; (with_reducible refine (HEn.out.win _ hm3).mono ?_); rintro v w4 ⟨aw, cw, rfl, hdw, hb4⟩)
                | (refine wpList_store_new 42 _ _ _ (evCells r.1 aw cw).toArray rfl rfl (by kernel_rfl) rfl (by kernel_rfl) ?_))
              have hbB := (Below.refl w4.heap.size w4).alloc (Nat.le_refl _) (.cells (evCells r.1 aw cw).toArray 42)
              have hR10 := evCells_box r.1 aw cw w4 42
              obtain ⟨W4, hW4⟩ : ∃ W4, W4 = w4.alloc (.cells (evCells r.1 aw cw).toArray 42) := ⟨_, rfl⟩
              have hR10' : W4.rangeAt w4.heap.size 0 (evCells r.1 aw cw) := by rw [hW4]; exact hR10
              rw [← hW4] at hbB ⊢
              have hb4A : Below W3.heap.size W3 W4 := hb4.trans (hbB.mono hb4.size)
              have hm4 := hm3.kept_w hb4A
              have hI4 := hI3.keep hb4A
              have hA4 := hAt.kept hb4A
              have hdw4 := hdw.kept hbB
              replace K0 := kept hb4A K0
              replace K1 := kept hb4A K1
              replace K2 := kept hb4A K2
              replace D0 := kept hb4A D0
              replace D1 := kept hb4A D1
              replace D2 := kept hb4A D2
              have hB4 : Below w.heap.size w W4 := hB3.trans (hb4A.mono hB3.size)
              obtain ⟨c0, c1, c2⟩ := hA4.cells
              generalize w4.heap.size = B10 at *
              clear hW4 hbB hR10 hb4 hb4A hm3 hI3 hAt hdw hB3
              go_upto_region 11 with (first
                | (go_at_call 20; (with_reducible refine (HEn.out.rwin _ hI4).mono ?_); rintro v w5 ⟨af, cf, rfl, hdf, hb5⟩)
                | (refine wpList_store_new 42 _ _ _ (evCells r.1 af cf).toArray rfl rfl (by kernel_rfl) rfl (by kernel_rfl) ?_))
              refine wp_name (fun V5 hV5 => ?_)
              have hbC : Below w5.heap.size w5 V5.drew := by rw [hV5.out]; exact ((Below.refl w5.heap.size w5).alloc (Nat.le_refl _) _).drew
              have vF : V5.drew.rangeAt w5.heap.size 0 (evCells r.1 af cf) := by rw [hV5.out]; exact evCells_box r.1 af cf w5 42
              have hb5A : Below W4.heap.size W4 V5.drew := hb5.trans (hbC.mono hb5.size)
              have vm := hm4.kept_w hb5A
              have vI := hI4.keep hb5A
              have vE := rangeAt_kept hR10' hb5A
              have vdw := hdw4.kept hb5A
              have vdf := hdf.kept hbC
              have vK0 := kept hb5A K0
              have vK1 := kept hb5A K1
              have vK2 := kept hb5A K2
              have vD0 := kept hb5A D0
              have vD1 := kept hb5A D1
              have vD2 := kept hb5A D2
              have vC0 := kept hb5A c0
              have vC1 := kept hb5A c1
              have vC2 := kept hb5A c2
              have HBV := Lib.hid (hB4.trans (hb5A.mono hB4.size))
              generalize w5.heap.size = B12 at *
              clear hV5 hbC hb5 hb5A hm4 hI4 hA4 hdw4 hdf hR10' hB4 K0 K1 K2 D0 D1 D2 c0 c1 c2
              have hx1 : (cH == cH) = true := by cases cH <;> rfl
              have hx2 : (cD == cD) = true := by cases cD <;> rfl
              have hx3 : (r.2 == r.2) = true := by cases r.2 <;> rfl
              refine wp_region_noPanic ?_
              refine wp_region_held_drew (S := fun W' => Below V5.drew.heap.size V5.drew W') (by kernel_rfl) (Below.refl _ _) (fun hHeld => ?_)
              refine wpAnyH_take (i := 0) (oi := ⟨some 63, _, _, _, _, _⟩) (v := ?_) rfl (by kernel_rfl) (by kernel_rfl) (by kernel_rfl) (fun _ _ _ h => h) (Or.inl ⟨by rfl, ?_⟩) (by assumption) ?_
              case refine_2 => (intro w hSw; have sK0 := kept hSw vK0; have sK1 := kept hSw vK1; have sK2 := kept hSw vK2; have sD0 := kept hSw vD0; have sD1 := kept hSw vD1; have sD2 := kept hSw vD2; have sC0 := kept hSw vC0; have sC1 := kept hSw vC1; have sC2 := kept hSw vC2; go_simp; try with_reducible rfl)
              try simp only [Act.put, List.setIfInBounds_toArray, List.set_cons_zero, List.set_cons_succ]
              refine wpAnyH_take (i := 1) (oi := ⟨some 64, _, _, _, _, _⟩) (v := ?_) rfl (by kernel_rfl) (by kernel_rfl) (by kernel_rfl) (fun _ _ _ h => h) (Or.inl ⟨by rfl, ?_⟩) (by assumption) ?_
              case refine_2 => (intro w hSw; have sK0 := kept hSw vK0; have sK1 := kept hSw vK1; have sK2 := kept hSw vK2; have sD0 := kept hSw vD0; have sD1 := kept hSw vD1; have sD2 := kept hSw vD2; have sC0 := kept hSw vC0; have sC1 := kept hSw vC1; have sC2 := kept hSw vC2; go_simp; try with_reducible rfl)
              try simp only [Act.put, List.setIfInBounds_toArray, List.set_cons_zero, List.set_cons_succ]
              refine wpAnyH_take (i := 3) (oi := ⟨some 66, _, _, _, _, _⟩) (v := ?_) rfl (by kernel_rfl) (by kernel_rfl) (by kernel_rfl) (fun _ _ _ h => h) (Or.inl ⟨by rfl, ?_⟩) (by assumption) ?_
              case refine_2 => (intro w hSw; have sK0 := kept hSw vK0; have sK1 := kept hSw vK1; have sK2 := kept hSw vK2; have sD0 := kept hSw vD0; have sD1 := kept hSw vD1; have sD2 := kept hSw vD2; have sC0 := kept hSw vC0; have sC1 := kept hSw vC1; have sC2 := kept hSw vC2; go_simp; try with_reducible rfl)
              try simp only [Act.put, List.setIfInBounds_toArray, List.set_cons_zero, List.set_cons_succ]
              refine wpAnyH_take (i := 4) (oi := ⟨some 67, _, _, _, _, _⟩) (v := ?_) rfl (by kernel_rfl) (by kernel_rfl) (by kernel_rfl) (fun _ _ _ h => h) (Or.inl ⟨by rfl, ?_⟩) (by assumption) ?_
              case refine_2 => (intro w hSw; have sK0 := kept hSw vK0; have sK1 := kept hSw vK1; have sK2 := kept hSw vK2; have sD0 := kept hSw vD0; have sD1 := kept hSw vD1; have sD2 := kept hSw vD2; have sC0 := kept hSw vC0; have sC1 := kept hSw vC1; have sC2 := kept hSw vC2; go_simp; try with_reducible rfl)
              try simp only [Act.put, List.setIfInBounds_toArray, List.set_cons_zero, List.set_cons_succ]
              refine wpAnyH_ready (rs := [2]) (by kernel_rfl) (by simp) ?_
              refine AllReadyH.cons (o := ⟨some 65, _, _, _, _, _⟩) rfl (fun K hK => ?_) AllReadyH.nil
              go_simp
              go_at_call 22
              (with_reducible refine (HEn.out.key _ (vm.kept_w hHeld)).mono ?_)
              rintro v x6 ⟨a6, d6, c6, rfl, hE6, hv6, hb6⟩
              go_simp
              have hNext := hHeld.trans (hb6.mono hHeld.size)
              refine hK.out _ _ hNext (fun hHeld2 => ?_)
              clear hK K hHeld
              have hHeld := hNext
              clear hHeld2 hNext
              try simp only [Act.put, List.setIfInBounds_toArray, List.set_cons_zero, List.set_cons_succ]
              have HV6 := Lib.hid hv6
              clear hv6
              refine wpAnyH_ready (rs := [5]) (by kernel_rfl) (by simp) ?_
              refine AllReadyH.cons (o := ⟨some 68, _, _, _, _, _⟩) rfl (fun K hK => ?_) AllReadyH.nil
              go_simp
              go_at_call 23
              (with_reducible refine (HEn.out.rkey _ (vI.keep hHeld)).mono ?_)
              rintro v x7 ⟨a7, d7, c7, rfl, hE7, hv7, hb7⟩
              go_simp
              have hNext := hHeld.trans (hb7.mono hHeld.size)
              refine hK.out _ _ hNext (fun hHeld2 => ?_)
              clear hK K hHeld
              have hHeld := hNext
              clear hHeld2 hNext
              try simp only [Act.put, List.setIfInBounds_toArray, List.set_cons_zero, List.set_cons_succ]
              have HV7 := Lib.hid hv7
              clear hv7
              refine wpAnyH_ready (rs := [6]) (by kernel_rfl) (by simp) ?_
              refine AllReadyH.cons (o := ⟨some 69, _, _, _, _, _⟩) rfl (fun K hK => ?_) AllReadyH.nil
              go_simp
              go_at_call 21
              (with_reducible refine (HEn.out.all _ a6 a7 c6 c7 d6 d7 (hE6.kept hb7) hE7 HV6.out HV7.out).mono ?_)
              rintro v x8 ⟨rfl, hb8⟩
              go_simp
              have hNext := hHeld.trans (hb8.mono hHeld.size)
              refine hK.out _ _ hNext (fun hHeld2 => ?_)
              clear hK K hHeld
              have hHeld := hNext
              clear hHeld2 hNext
              try simp only [Act.put, List.setIfInBounds_toArray, List.set_cons_zero, List.set_cons_succ]
              clear hE6 hE7 hb6 hb7 hb8
              refine wpAnyH_take (i := 7) (oi := ⟨some 70, _, _, _, _, _⟩) (v := ?_) rfl (by kernel_rfl) (by kernel_rfl) (by kernel_rfl) (fun _ _ _ h => h) (Or.inl ⟨by rfl, ?_⟩) (by assumption) ?_
              case refine_2 => (intro w hSw; have sK0 := kept hSw vK0; have sK1 := kept hSw vK1; have sK2 := kept hSw vK2; have sD0 := kept hSw vD0; have sD1 := kept hSw vD1; have sD2 := kept hSw vD2; have sC0 := kept hSw vC0; have sC1 := kept hSw vC1; have sC2 := kept hSw vC2; go_simp; try with_reducible rfl)
              try simp only [Act.put, List.setIfInBounds_toArray, List.set_cons_zero, List.set_cons_succ]
              refine wpAnyH_take (i := 8) (oi := ⟨some 71, _, _, _, _, _⟩) (v := ?_) rfl (by kernel_rfl) (by kernel_rfl) (by kernel_rfl) (fun _ _ _ h => h) (Or.inl ⟨by rfl, ?_⟩) (by assumption) ?_
              case refine_2 => (intro w hSw; have sK0 := kept hSw vK0; have sK1 := kept hSw vK1; have sK2 := kept hSw vK2; have sD0 := kept hSw vD0; have sD1 := kept hSw vD1; have sD2 := kept hSw vD2; have sC0 := kept hSw vC0; have sC1 := kept hSw vC1; have sC2 := kept hSw vC2; go_simp; try with_reducible rfl)
              try simp only [Act.put, List.setIfInBounds_toArray, List.set_cons_zero, List.set_cons_succ]
              refine wpAnyH_take (i := 9) (oi := ⟨some 72, _, _, _, _, _⟩) (v := ?_) rfl (by kernel_rfl) (by kernel_rfl) (by kernel_rfl) (fun _ _ _ h => h) (Or.inl ⟨by rfl, ?_⟩) (by assumption) ?_
              case refine_2 => (intro w hSw; have sK0 := kept hSw vK0; have sK1 := kept hSw vK1; have sK2 := kept hSw vK2; have sD0 := kept hSw vD0; have sD1 := kept hSw vD1; have sD2 := kept hSw vD2; have sC0 := kept hSw vC0; have sC1 := kept hSw vC1; have sC2 := kept hSw vC2; go_simp; try with_reducible rfl)
              try simp only [Act.put, List.setIfInBounds_toArray, List.set_cons_zero, List.set_cons_succ]
              refine wpAnyH_take (i := 10) (oi := ⟨some 73, _, _, _, _, _⟩) (v := ?_) rfl (by kernel_rfl) (by kernel_rfl) (by kernel_rfl) (fun _ _ _ h => h) (Or.inl ⟨by rfl, ?_⟩) (by assumption) ?_
              case refine_2 => (intro w hSw; have sK0 := kept hSw vK0; have sK1 := kept hSw vK1; have sK2 := kept hSw vK2; have sD0 := kept hSw vD0; have sD1 := kept hSw vD1; have sD2 := kept hSw vD2; have sC0 := kept hSw vC0; have sC1 := kept hSw vC1; have sC2 := kept hSw vC2; go_simp; try with_reducible rfl)
              try simp only [Act.put, List.setIfInBounds_toArray, List.set_cons_zero, List.set_cons_succ]
              refine wpAnyH_take (i := 11) (oi := ⟨some 74, _, _, _, _, _⟩) (v := ?_) rfl (by kernel_rfl) (by kernel_rfl) (by kernel_rfl) (fun _ _ _ h => h) (Or.inl ⟨by rfl, ?_⟩) (by assumption) ?_
              case refine_2 => (intro w hSw; have sK0 := kept hSw vK0; have sK1 := kept hSw vK1; have sK2 := kept hSw vK2; have sD0 := kept hSw vD0; have sD1 := kept hSw vD1; have sD2 := kept hSw vD2; have sC0 := kept hSw vC0; have sC1 := kept hSw vC1; have sC2 := kept hSw vC2; go_simp; try with_reducible rfl)
              try simp only [Act.put, List.setIfInBounds_toArray, List.set_cons_zero, List.set_cons_succ]
              refine wpAnyH_take (i := 12) (oi := ⟨some 75, _, _, _, _, _⟩) (v := ?_) rfl (by kernel_rfl) (by kernel_rfl) (by kernel_rfl) (fun _ _ _ h => h) (Or.inl ⟨by rfl, ?_⟩) (by assumption) ?_
              case refine_2 => (intro w hSw; have sK0 := kept hSw vK0; have sK1 := kept hSw vK1; have sK2 := kept hSw vK2; have sD0 := kept hSw vD0; have sD1 := kept hSw vD1; have sD2 := kept hSw vD2; have sC0 := kept hSw vC0; have sC1 := kept hSw vC1; have sC2 := kept hSw vC2; go_simp; try with_reducible rfl)
              try simp only [Act.put, List.setIfInBounds_toArray, List.set_cons_zero, List.set_cons_succ]
              refine wpAnyH_take (i := 13) (oi := ⟨some 76, _, _, _, _, _⟩) rfl (by kernel_rfl) (by kernel_rfl) (by kernel_rfl) (fun _ _ _ h => h) (yieldsIf_load_mid (by rfl) 42 _ rfl B10 0 rfl (evCells r.1 aw cw) _ (fun X h => rangeAt_kept vE h) Tryz.underlying42 rfl (by kernel_rfl)) (by assumption) ?_
              try simp only [Act.put, List.setIfInBounds_toArray, List.set_cons_zero, List.set_cons_succ]
              refine wpAnyH_take (i := 14) (oi := ⟨some 77, _, _, _, _, _⟩) rfl (by kernel_rfl) (by kernel_rfl) (by kernel_rfl) (fun _ _ _ h => h) (yieldsIf_load_mid (by rfl) 42 _ rfl B12 0 rfl (evCells r.1 af cf) _ (fun X h => rangeAt_kept vF h) Tryz.underlying42 rfl (by kernel_rfl)) (by assumption) ?_
              try simp only [Act.put, List.setIfInBounds_toArray, List.set_cons_zero, List.set_cons_succ]
              refine wpAnyH_ready (rs := [15]) (by kernel_rfl) (by simp) ?_
              refine AllReadyH.cons (o := ⟨some 78, _, _, _, _, _⟩) rfl (fun K hK => ?_) AllReadyH.nil
              go_simp
              go_at_call 24
              (with_reducible refine (HEn.out.same _ aw af cw cf (vdw.kept hHeld) (vdf.kept hHeld)).mono ?_)
              rintro v x9 ⟨rfl, hb9⟩
              go_simp
              have hNext := hHeld.trans (hb9.mono hHeld.size)
              refine hK.out _ _ hNext (fun hHeld2 => ?_)
              clear hK K hHeld
              have hHeld := hNext
              clear hHeld2 hNext
              try simp only [Act.put, List.setIfInBounds_toArray, List.set_cons_zero, List.set_cons_succ]
              refine wpAnyH_take (i := 16) (oi := ⟨some 79, _, _, _, _, _⟩) (v := ?_) rfl (by kernel_rfl) (by kernel_rfl) (by kernel_rfl) (fun _ _ _ h => h) (Or.inl ⟨by rfl, ?_⟩) (by assumption) ?_
              case refine_2 => (intro w hSw; have sK0 := kept hSw vK0; have sK1 := kept hSw vK1; have sK2 := kept hSw vK2; have sD0 := kept hSw vD0; have sD1 := kept hSw vD1; have sD2 := kept hSw vD2; have sC0 := kept hSw vC0; have sC1 := kept hSw vC1; have sC2 := kept hSw vC2; go_simp; try with_reducible rfl)
              try simp only [Act.put, List.setIfInBounds_toArray, List.set_cons_zero, List.set_cons_succ]
              refine wpAnyH_take (i := 17) (oi := ⟨some 80, _, _, _, _, _⟩) (v := ?_) rfl (by kernel_rfl) (by kernel_rfl) (by kernel_rfl) (fun _ _ _ h => h) (Or.inl ⟨by rfl, ?_⟩) (by assumption) ?_
              case refine_2 => (intro w hSw; have sK0 := kept hSw vK0; have sK1 := kept hSw vK1; have sK2 := kept hSw vK2; have sD0 := kept hSw vD0; have sD1 := kept hSw vD1; have sD2 := kept hSw vD2; have sC0 := kept hSw vC0; have sC1 := kept hSw vC1; have sC2 := kept hSw vC2; go_simp; try with_reducible rfl)
              try simp only [Act.put, List.setIfInBounds_toArray, List.set_cons_zero, List.set_cons_succ]
              refine wpAnyH_take (i := 18) (oi := ⟨some 81, _, _, _, _, _⟩) (v := ?_) rfl (by kernel_rfl) (by kernel_rfl) (by kernel_rfl) (fun _ _ _ h => h) (Or.inl ⟨by rfl, ?_⟩) (by assumption) ?_
              case refine_2 => (intro w hSw; have sK0 := kept hSw vK0; have sK1 := kept hSw vK1; have sK2 := kept hSw vK2; have sD0 := kept hSw vD0; have sD1 := kept hSw vD1; have sD2 := kept hSw vD2; have sC0 := kept hSw vC0; have sC1 := kept hSw vC1; have sC2 := kept hSw vC2; go_simp; try with_reducible rfl)
              try simp only [Act.put, List.setIfInBounds_toArray, List.set_cons_zero, List.set_cons_succ]
              refine wpAnyH_take (i := 19) (oi := ⟨some 82, _, _, _, _, _⟩) (v := ?_) rfl (by kernel_rfl) (by kernel_rfl) (by kernel_rfl) (fun _ _ _ h => h) (Or.inl ⟨by rfl, ?_⟩) (by assumption) ?_
              case refine_2 => (intro w hSw; have sK0 := kept hSw vK0; have sK1 := kept hSw vK1; have sK2 := kept hSw vK2; have sD0 := kept hSw vD0; have sD1 := kept hSw vD1; have sD2 := kept hSw vD2; have sC0 := kept hSw vC0; have sC1 := kept hSw vC1; have sC2 := kept hSw vC2; go_simp; try with_reducible rfl)
              try simp only [Act.put, List.setIfInBounds_toArray, List.set_cons_zero, List.set_cons_succ]
              refine wpAnyH_take (i := 21) (oi := ⟨some 84, _, _, _, _, _⟩) (v := ?_) rfl (by kernel_rfl) (by kernel_rfl) (by kernel_rfl) (fun _ _ _ h => h) (Or.inl ⟨by rfl, ?_⟩) (by assumption) ?_
              case refine_2 => (intro w hSw; have sK0 := kept hSw vK0; have sK1 := kept hSw vK1; have sK2 := kept hSw vK2; have sD0 := kept hSw vD0; have sD1 := kept hSw vD1; have sD2 := kept hSw vD2; have sC0 := kept hSw vC0; have sC1 := kept hSw vC1; have sC2 := kept hSw vC2; go_simp; try with_reducible rfl)
              try simp only [Act.put, List.setIfInBounds_toArray, List.set_cons_zero, List.set_cons_succ]
              refine wpAnyH_take (i := 22) (oi := ⟨some 85, _, _, _, _, _⟩) (v := ?_) rfl (by kernel_rfl) (by kernel_rfl) (by kernel_rfl) (fun _ _ _ h => h) (Or.inl ⟨by rfl, ?_⟩) (by assumption) ?_
              case refine_2 => (intro w hSw; have sK0 := kept hSw vK0; have sK1 := kept hSw vK1; have sK2 := kept hSw vK2; have sD0 := kept hSw vD0; have sD1 := kept hSw vD1; have sD2 := kept hSw vD2; have sC0 := kept hSw vC0; have sC1 := kept hSw vC1; have sC2 := kept hSw vC2; go_simp; try with_reducible rfl)
              try simp only [Act.put, List.setIfInBounds_toArray, List.set_cons_zero, List.set_cons_succ]
              refine wpAnyH_take (i := 23) (oi := ⟨some 86, _, _, _, _, _⟩) (v := ?_) rfl (by kernel_rfl) (by kernel_rfl) (by kernel_rfl) (fun _ _ _ h => h) (Or.inl ⟨by rfl, ?_⟩) (by assumption) ?_
              case refine_2 => (intro w hSw; have sK0 := kept hSw vK0; have sK1 := kept hSw vK1; have sK2 := kept hSw vK2; have sD0 := kept hSw vD0; have sD1 := kept hSw vD1; have sD2 := kept hSw vD2; have sC0 := kept hSw vC0; have sC1 := kept hSw vC1; have sC2 := kept hSw vC2; go_simp; try with_reducible rfl)
              try simp only [Act.put, List.setIfInBounds_toArray, List.set_cons_zero, List.set_cons_succ]
              refine wpAnyH_ready (rs := [20]) (by kernel_rfl) (by simp) ?_
              refine AllReadyH.cons (o := ⟨some 83, _, _, _, _, _⟩) rfl (fun K hK => ?_) AllReadyH.nil
              go_simp
              go_at_call 25
              (with_reducible refine (HEn.out.has _ (vm.kept_w hHeld)).mono ?_)
              rintro v x10 ⟨rfl, hb10⟩
              go_simp
              have hNext := hHeld.trans (hb10.mono hHeld.size)
              refine hK.out _ _ hNext (fun hHeld2 => ?_)
              clear hK K hHeld
              have hHeld := hNext
              clear hHeld2 hNext
              try simp only [Act.put, List.setIfInBounds_toArray, List.set_cons_zero, List.set_cons_succ]
              refine wpAnyH_ready (rs := [24]) (by kernel_rfl) (by simp) ?_
              refine AllReadyH.cons (o := ⟨some 87, _, _, _, _, _⟩) rfl (fun K hK => ?_) AllReadyH.nil
              go_simp
              go_at_call 26
              (with_reducible refine (HEn.out.rhas _ (vI.keep hHeld)).mono ?_)
              rintro v x11 ⟨rfl, hb11⟩
              go_simp
              have hNext := hHeld.trans (hb11.mono hHeld.size)
              refine hK.out _ _ hNext (fun hHeld2 => ?_)
              clear hK K hHeld
              have hHeld := hNext
              clear hHeld2 hNext
              try simp only [Act.put, List.setIfInBounds_toArray, List.set_cons_zero, List.set_cons_succ]
              clear hb9 hb10 hb11
              refine wpAnyH_take (i := 25) (oi := ⟨some 88, _, _, _, _, _⟩) (v := ?_) rfl (by kernel_rfl) (by kernel_rfl) (by kernel_rfl) (fun _ _ _ h => h) (Or.inl ⟨by rfl, ?_⟩) (by assumption) ?_
              case refine_2 => (intro w hSw; have sK0 := kept hSw vK0; have sK1 := kept hSw vK1; have sK2 := kept hSw vK2; have sD0 := kept hSw vD0; have sD1 := kept hSw vD1; have sD2 := kept hSw vD2; have sC0 := kept hSw vC0; have sC1 := kept hSw vC1; have sC2 := kept hSw vC2; go_simp; try with_reducible rfl)
              try simp only [Act.put, List.setIfInBounds_toArray, List.set_cons_zero, List.set_cons_succ]
              refine wpAnyH_take (i := 26) (oi := ⟨some 89, _, _, _, _, _⟩) (v := ?_) rfl (by kernel_rfl) (by kernel_rfl) (by kernel_rfl) (fun _ _ _ h => h) (Or.inl ⟨by rfl, ?_⟩) (by assumption) ?_
              case refine_2 => (intro w hSw; have sK0 := kept hSw vK0; have sK1 := kept hSw vK1; have sK2 := kept hSw vK2; have sD0 := kept hSw vD0; have sD1 := kept hSw vD1; have sD2 := kept hSw vD2; have sC0 := kept hSw vC0; have sC1 := kept hSw vC1; have sC2 := kept hSw vC2; go_simp; try with_reducible rfl)
              try simp only [Act.put, List.setIfInBounds_toArray, List.set_cons_zero, List.set_cons_succ]
              refine wpAnyH_take (i := 27) (oi := ⟨some 90, _, _, _, _, _⟩) (v := ?_) rfl (by kernel_rfl) (by kernel_rfl) (by kernel_rfl) (fun _ _ _ h => h) (Or.inl ⟨by rfl, ?_⟩) (by assumption) ?_
              case refine_2 => (intro w hSw; have sK0 := kept hSw vK0; have sK1 := kept hSw vK1; have sK2 := kept hSw vK2; have sD0 := kept hSw vD0; have sD1 := kept hSw vD1; have sD2 := kept hSw vD2; have sC0 := kept hSw vC0; have sC1 := kept hSw vC1; have sC2 := kept hSw vC2; go_simp; try with_reducible rfl)
              try simp only [Act.put, List.setIfInBounds_toArray, List.set_cons_zero, List.set_cons_succ]
              refine wpAnyH_take (i := 28) (oi := ⟨some 91, _, _, _, _, _⟩) (v := ?_) rfl (by kernel_rfl) (by kernel_rfl) (by kernel_rfl) (fun _ _ _ h => h) (Or.inl ⟨by rfl, ?_⟩) (by assumption) ?_
              case refine_2 => (intro w hSw; have sK0 := kept hSw vK0; have sK1 := kept hSw vK1; have sK2 := kept hSw vK2; have sD0 := kept hSw vD0; have sD1 := kept hSw vD1; have sD2 := kept hSw vD2; have sC0 := kept hSw vC0; have sC1 := kept hSw vC1; have sC2 := kept hSw vC2; go_simp; try with_reducible rfl)
              try simp only [Act.put, List.setIfInBounds_toArray, List.set_cons_zero, List.set_cons_succ]
              refine wpAnyH_take (i := 29) (oi := ⟨some 92, _, _, _, _, _⟩) (v := ?_) rfl (by kernel_rfl) (by kernel_rfl) (by kernel_rfl) (fun _ _ _ h => h) (Or.inl ⟨by rfl, ?_⟩) (by assumption) ?_
              case refine_2 => (intro w hSw; have sK0 := kept hSw vK0; have sK1 := kept hSw vK1; have sK2 := kept hSw vK2; have sD0 := kept hSw vD0; have sD1 := kept hSw vD1; have sD2 := kept hSw vD2; have sC0 := kept hSw vC0; have sC1 := kept hSw vC1; have sC2 := kept hSw vC2; go_simp; try with_reducible rfl)
              try simp only [Act.put, List.setIfInBounds_toArray, List.set_cons_zero, List.set_cons_succ]
              refine wpAnyH_take (i := 31) (oi := ⟨some 94, _, _, _, _, _⟩) (v := ?_) rfl (by kernel_rfl) (by kernel_rfl) (by kernel_rfl) (fun _ _ _ h => h) (Or.inl ⟨by rfl, ?_⟩) (by assumption) ?_
              case refine_2 => (intro w hSw; have sK0 := kept hSw vK0; have sK1 := kept hSw vK1; have sK2 := kept hSw vK2; have sD0 := kept hSw vD0; have sD1 := kept hSw vD1; have sD2 := kept hSw vD2; have sC0 := kept hSw vC0; have sC1 := kept hSw vC1; have sC2 := kept hSw vC2; go_simp; try with_reducible rfl)
              try simp only [Act.put, List.setIfInBounds_toArray, List.set_cons_zero, List.set_cons_succ]
              refine wpAnyH_take (i := 32) (oi := ⟨some 95, _, _, _, _, _⟩) (v := ?_) rfl (by kernel_rfl) (by kernel_rfl) (by kernel_rfl) (fun _ _ _ h => h) (Or.inl ⟨by rfl, ?_⟩) (by assumption) ?_
              case refine_2 => (intro w hSw; have sK0 := kept hSw vK0; have sK1 := kept hSw vK1; have sK2 := kept hSw vK2; have sD0 := kept hSw vD0; have sD1 := kept hSw vD1; have sD2 := kept hSw vD2; have sC0 := kept hSw vC0; have sC1 := kept hSw vC1; have sC2 := kept hSw vC2; go_simp; try with_reducible rfl)
              try simp only [Act.put, List.setIfInBounds_toArray, List.set_cons_zero, List.set_cons_succ]
              refine wpAnyH_take (i := 33) (oi := ⟨some 96, _, _, _, _, _⟩) (v := ?_) rfl (by kernel_rfl) (by kernel_rfl) (by kernel_rfl) (fun _ _ _ h => h) (Or.inl ⟨by rfl, ?_⟩) (by assumption) ?_
              case refine_2 => (intro w hSw; have sK0 := kept hSw vK0; have sK1 := kept hSw vK1; have sK2 := kept hSw vK2; have sD0 := kept hSw vD0; have sD1 := kept hSw vD1; have sD2 := kept hSw vD2; have sC0 := kept hSw vC0; have sC1 := kept hSw vC1; have sC2 := kept hSw vC2; go_simp; try with_reducible rfl)
              try simp only [Act.put, List.setIfInBounds_toArray, List.set_cons_zero, List.set_cons_succ]
              refine wpAnyH_ready (rs := [30]) (by kernel_rfl) (by simp) ?_
              refine AllReadyH.cons (o := ⟨some 93, _, _, _, _, _⟩) rfl (fun K hK => ?_) AllReadyH.nil
              go_simp
              go_at_call 27
              (with_reducible refine (HEn.out.dead _ (vm.kept_w hHeld)).mono ?_)
              rintro v x12 ⟨rfl, hb12⟩
              go_simp
              have hNext := hHeld.trans (hb12.mono hHeld.size)
              refine hK.out _ _ hNext (fun hHeld2 => ?_)
              clear hK K hHeld
              have hHeld := hNext
              clear hHeld2 hNext
              try simp only [Act.put, List.setIfInBounds_toArray, List.set_cons_zero, List.set_cons_succ]
              refine wpAnyH_ready (rs := [34]) (by kernel_rfl) (by simp) ?_
              refine AllReadyH.cons (o := ⟨some 97, _, _, _, _, _⟩) rfl (fun K hK => ?_) AllReadyH.nil
              go_simp
              go_at_call 28
              (with_reducible refine (HEn.out.rdead _ (vI.keep hHeld)).mono ?_)
              rintro v x13 ⟨rfl, hb13⟩
              go_simp
              have hNext := hHeld.trans (hb13.mono hHeld.size)
              refine hK.out _ _ hNext (fun hHeld2 => ?_)
              clear hK K hHeld
              have hHeld := hNext
              clear hHeld2 hNext
              try simp only [Act.put, List.setIfInBounds_toArray, List.set_cons_zero, List.set_cons_succ]
              clear hb12 hb13
              refine wpAnyH_take (i := 35) (oi := ⟨some 98, _, _, _, _, _⟩) (v := ?_) rfl (by kernel_rfl) (by kernel_rfl) (by kernel_rfl) (fun _ _ _ h => h) (Or.inl ⟨by rfl, ?_⟩) (by assumption) ?_
              case refine_2 => (intro w hSw; have sK0 := kept hSw vK0; have sK1 := kept hSw vK1; have sK2 := kept hSw vK2; have sD0 := kept hSw vD0; have sD1 := kept hSw vD1; have sD2 := kept hSw vD2; have sC0 := kept hSw vC0; have sC1 := kept hSw vC1; have sC2 := kept hSw vC2; go_simp; try with_reducible rfl)
              try simp only [Act.put, List.setIfInBounds_toArray, List.set_cons_zero, List.set_cons_succ]
              refine wpAnyH_take (i := 36) (oi := ⟨some 99, _, _, _, _, _⟩) (v := ?_) rfl (by kernel_rfl) (by kernel_rfl) (by kernel_rfl) (fun _ _ _ h => h) (Or.inl ⟨by rfl, ?_⟩) (by assumption) ?_
              case refine_2 => (intro w hSw; have sK0 := kept hSw vK0; have sK1 := kept hSw vK1; have sK2 := kept hSw vK2; have sD0 := kept hSw vD0; have sD1 := kept hSw vD1; have sD2 := kept hSw vD2; have sC0 := kept hSw vC0; have sC1 := kept hSw vC1; have sC2 := kept hSw vC2; go_simp; try with_reducible rfl)
              try simp only [Act.put, List.setIfInBounds_toArray, List.set_cons_zero, List.set_cons_succ]
              refine wpAnyH_take (i := 37) (oi := ⟨some 100, _, _, _, _, _⟩) (v := ?_) rfl (by kernel_rfl) (by kernel_rfl) (by kernel_rfl) (fun _ _ _ h => h) (Or.inl ⟨by rfl, ?_⟩) (by assumption) ?_
              case refine_2 => (intro w hSw; have sK0 := kept hSw vK0; have sK1 := kept hSw vK1; have sK2 := kept hSw vK2; have sD0 := kept hSw vD0; have sD1 := kept hSw vD1; have sD2 := kept hSw vD2; have sC0 := kept hSw vC0; have sC1 := kept hSw vC1; have sC2 := kept hSw vC2; go_simp; try with_reducible rfl)
              try simp only [Act.put, List.setIfInBounds_toArray, List.set_cons_zero, List.set_cons_succ]
              refine wpAnyH_ready (rs := [38]) (by kernel_rfl) (by simp) ?_
              refine AllReadyH.cons (o := ⟨some 101, _, _, _, _, _⟩) rfl (fun K hK => ?_) AllReadyH.nil
              go_simp
              go_at_call 15
              (with_reducible refine (HA.out _).mono ?_)
              rintro v x14 ⟨rfl, hb14⟩
              go_simp
              have hNext := hHeld.trans (hb14.mono hHeld.size)
              refine hK.out _ _ hNext (fun hHeld2 => ?_)
              clear hK K hHeld
              have hHeld := hNext
              clear hHeld2 hNext
              try simp only [Act.put, List.setIfInBounds_toArray, List.set_cons_zero, List.set_cons_succ]
              refine wpAnyH_take (i := 39) (oi := ⟨some 102, _, _, _, _, _⟩) (v := ?_) rfl (by kernel_rfl) (by kernel_rfl) (by kernel_rfl) (fun _ _ _ h => h) (Or.inl ⟨by rfl, ?_⟩) (by assumption) ?_
              case refine_2 => (intro w hSw; have sK0 := kept hSw vK0; have sK1 := kept hSw vK1; have sK2 := kept hSw vK2; have sD0 := kept hSw vD0; have sD1 := kept hSw vD1; have sD2 := kept hSw vD2; have sC0 := kept hSw vC0; have sC1 := kept hSw vC1; have sC2 := kept hSw vC2; go_simp; try with_reducible rfl)
              try simp only [Act.put, List.setIfInBounds_toArray, List.set_cons_zero, List.set_cons_succ]
              refine wpAnyH_take (i := 40) (oi := ⟨some 6, _, _, _, _, _⟩) (v := ?_) rfl (by kernel_rfl) (by kernel_rfl) (by kernel_rfl) (fun _ _ _ h => h) (Or.inl ⟨by rfl, ?_⟩) (by assumption) ?_
              case refine_2 => (intro w hSw; have sK0 := kept hSw vK0; have sK1 := kept hSw vK1; have sK2 := kept hSw vK2; have sD0 := kept hSw vD0; have sD1 := kept hSw vD1; have sD2 := kept hSw vD2; have sC0 := kept hSw vC0; have sC1 := kept hSw vC1; have sC2 := kept hSw vC2; go_simp; try with_reducible rfl)
              try simp only [Act.put, List.setIfInBounds_toArray, List.set_cons_zero, List.set_cons_succ]
              refine wpAnyH_done (by kernel_rfl) ?_ _
              refine NoPanic.normal ?_
              have HZ := Lib.hid (HBV.out.trans (hHeld.mono HBV.out.size))
              clear hHeld hb14 vm vI vE vF vdw vdf vK0 vK1 vK2 vD0 vD1 vD2 vC0 vC1 vC2
              go_wp2
              go_ret
              exact ⟨rfl, HZ.out⟩
        · have hd9 : decide ((2000 : Int) < (k.path.size : Int)) = true := decide_eq_true (by omega)
          clear h1 h2 h3
          go_enter Tryz.func3, Tryz.ntmps3
          go_upto_region 1 with fail
          refine wp_name (fun V hV => ?_)
          have hb0 : Below w.heap.size w V := by rw [hV.out]; go_grown
          have K0 : V.cell? ⟨w.heap.size, 0, none⟩ = some (.string k.name) := by rw [hV.out]; go_simp
          have K1 : V.cell? ⟨w.heap.size, 1, none⟩ = some (.string k.domain) := by rw [hV.out]; go_simp
          have K2 : V.cell? ⟨w.heap.size, 2, none⟩ = some (.string k.path) := by rw [hV.out]; go_simp
          have D0 : V.cell? ⟨w.heap.size + 1, 0, none⟩ = some (.int .i64 q.a.dev) := by rw [hV.out]; go_simp
          have D1 : V.cell? ⟨w.heap.size + 1, 1, none⟩ = some (.int .i64 q.a.inc) := by rw [hV.out]; go_simp
          have D2 : V.cell? ⟨w.heap.size + 1, 2, none⟩ = some (.int .i64 q.seq) := by rw [hV.out]; go_simp
          have hE0 := hEi.kept hb0
          clear hV
          go_wp2_with (first
            | (go_at_call 14; (with_reducible refine (HL.out _ hE0).mono ?_); rintro x w1 ⟨rfl, hb1⟩; have hK0 := kept hb1 K0; have hK1 := kept hb1 K1; have hK2 := kept hb1 K2)
            | (go_at_call 15; (with_reducible refine (HA.out _).mono ?_); rintro x w2 ⟨rfl, hb2⟩))
          go_ret
          exact ⟨rfl, (hb0.trans (hb1.mono hb0.size)).trans (hb2.mono (Nat.le_trans hb0.size hb1.size))⟩
      · have hd9 : decide ((2000 : Int) < (k.domain.size : Int)) = true := decide_eq_true (by omega)
        clear h1 h2
        go_enter Tryz.func3, Tryz.ntmps3
        go_upto_region 1 with fail
        refine wp_name (fun V hV => ?_)
        have hb0 : Below w.heap.size w V := by rw [hV.out]; go_grown
        have K0 : V.cell? ⟨w.heap.size, 0, none⟩ = some (.string k.name) := by rw [hV.out]; go_simp
        have K1 : V.cell? ⟨w.heap.size, 1, none⟩ = some (.string k.domain) := by rw [hV.out]; go_simp
        have K2 : V.cell? ⟨w.heap.size, 2, none⟩ = some (.string k.path) := by rw [hV.out]; go_simp
        have D0 : V.cell? ⟨w.heap.size + 1, 0, none⟩ = some (.int .i64 q.a.dev) := by rw [hV.out]; go_simp
        have D1 : V.cell? ⟨w.heap.size + 1, 1, none⟩ = some (.int .i64 q.a.inc) := by rw [hV.out]; go_simp
        have D2 : V.cell? ⟨w.heap.size + 1, 2, none⟩ = some (.int .i64 q.seq) := by rw [hV.out]; go_simp
        have hE0 := hEi.kept hb0
        clear hV
        go_wp2_with (first
          | (go_at_call 14; (with_reducible refine (HL.out _ hE0).mono ?_); rintro x w1 ⟨rfl, hb1⟩; have hK0 := kept hb1 K0; have hK1 := kept hb1 K1; have hK2 := kept hb1 K2)
          | (go_at_call 15; (with_reducible refine (HA.out _).mono ?_); rintro x w2 ⟨rfl, hb2⟩))
        go_ret
        exact ⟨rfl, (hb0.trans (hb1.mono hb0.size)).trans (hb2.mono (Nat.le_trans hb0.size hb1.size))⟩
    · have hd9 : decide ((2000 : Int) < (k.name.size : Int)) = true := decide_eq_true (by omega)
      clear h1
      go_enter Tryz.func3, Tryz.ntmps3
      go_upto_region 1 with fail
      refine wp_name (fun V hV => ?_)
      have hb0 : Below w.heap.size w V := by rw [hV.out]; go_grown
      have K0 : V.cell? ⟨w.heap.size, 0, none⟩ = some (.string k.name) := by rw [hV.out]; go_simp
      have K1 : V.cell? ⟨w.heap.size, 1, none⟩ = some (.string k.domain) := by rw [hV.out]; go_simp
      have K2 : V.cell? ⟨w.heap.size, 2, none⟩ = some (.string k.path) := by rw [hV.out]; go_simp
      have D0 : V.cell? ⟨w.heap.size + 1, 0, none⟩ = some (.int .i64 q.a.dev) := by rw [hV.out]; go_simp
      have D1 : V.cell? ⟨w.heap.size + 1, 1, none⟩ = some (.int .i64 q.a.inc) := by rw [hV.out]; go_simp
      have D2 : V.cell? ⟨w.heap.size + 1, 2, none⟩ = some (.int .i64 q.seq) := by rw [hV.out]; go_simp
      have hE0 := hEi.kept hb0
      clear hV
      go_wp2_with (first
        | (go_at_call 14; (with_reducible refine (HL.out _ hE0).mono ?_); rintro x w1 ⟨rfl, hb1⟩; have hK0 := kept hb1 K0; have hK1 := kept hb1 K1; have hK2 := kept hb1 K2)
        | (go_at_call 15; (with_reducible refine (HA.out _).mono ?_); rintro x w2 ⟨rfl, hb2⟩))
      go_ret
      exact ⟨rfl, (hb0.trans (hb1.mono hb0.size)).trans (hb2.mono (Nat.le_trans hb0.size hb1.size))⟩
end Go.Proofs.YtcijajjngmmbeaaGreat
