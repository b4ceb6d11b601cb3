/- What may be loaded: ormap.fits, ormap.rising; the reference's Load. Conditions: as in the text. -/
import Derived.Test.YtohcmljigcdmbaaGreatRefR
set_option linter.unusedSimpArgs false
set_option linter.unusedVariables false
set_option linter.unnecessarySimpa false
set_option maxHeartbeats 16000000
set_option maxRecDepth 100000
namespace Go.Proofs.YtohcmljigcdmbaaGreat
open Go.RowKit
/-! ### rising -/
def keyDot (e : Ev) : Key × Dot := (e.key, e.dot)
def livB (D : List Dot) (e : Ev) : Bool := decide (e.kind = 1) && !decide (e.dot ∈ D)
/-- a map behind the first kept events that are loaded -/
structure LoadK (ctx D : List Dot) (E : List Ev) (s : MS) : Prop where
 ctx : s.ctx = ctx
 dead : s.dead = D
 kept : evsOf s.K = E.reverse
 pairs : s.pairs = (E.reverse.filter (livB D)).map keyDot
theorem LoadK.dots {ctx D : List Dot} {E : List Ev} {s : MS} (h : LoadK ctx D E s) : ∀ x ∈ s.K, x.1 ∈ E := fun x hx => by
 have : x.1 ∈ evsOf s.K := List.mem_map_of_mem hx
 rw [h.kept, List.mem_reverse] at this
 exact this
/-- what may be loaded -/
structure LoadOk (C : List Dot) (E : List Ev) (Dd : List Dot) : Prop where
 ctx : SrtM C
 ctxOk : ∀ d ∈ C, dotOk d = true
 kept : ∀ e ∈ E, evOk e = true ∧ hasM C e.dot = true
 srt : SrtE E
 dead : ∀ d ∈ Dd, dotOk d = true
 dsrt : SrtD Dd
 len : E.length ≤ 2048
 dlen : Dd.length ≤ 65536
 clen : C.length ≤ 4096
theorem LoadK.done {ctx dead D : List Dot} {E : List Ev} {s : MS} (h : LoadK ctx D E s) (ho : LoadOk ctx E dead) (hD : ∀ d, d ∈ D ↔ d ∈ dead) : MInv s ∧ Rel s ⟨ctx, E, dead⟩ := by
 have hne : (E.reverse.map (·.dot)).Nodup := by
  rw [List.map_reverse]
  exact List.pairwise_reverse.2 (List.pairwise_map.2 (ho.srt.imp fun {a b} h e => by rw [e, dotLt_irrefl] at h; cases h))
 have hnd : (s.K.map (·.1.dot)).Nodup := by
  have h1 : s.K.map (·.1.dot) = (evsOf s.K).map (·.dot) := by unfold evsOf; rw [List.map_map]; rfl
  rw [h1, h.kept]
  exact hne
 have hmem : ∀ e, (∃ x ∈ s.K, x.1 = e) ↔ e ∈ E := fun e => by
  rw [← List.mem_reverse, ← h.kept]
  exact (List.mem_map (f := fun x : EvIt => x.1)).symm
 refine ⟨⟨by rw [h.ctx]; exact ho.ctx, by rw [h.ctx]; exact ho.ctxOk, fun x hx => by rw [h.ctx]; exact ho.kept _ (h.dots x hx), fun k d => ?_, ?_, fun d hd => ho.dead d (by rw [h.dead] at hd; exact (hD d).1 hd), ?_⟩, ⟨hnd, h.ctx.symm, ?_, ?_⟩⟩
 ·rw [h.pairs, List.mem_map, h.dead]
  constructor
  ·rintro ⟨e, he, e9⟩
   obtain ⟨h1, h2⟩ := List.mem_filter.1 he
   obtain ⟨x, hx, rfl⟩ := (hmem e).2 (List.mem_reverse.1 h1)
   simp only [livB, Bool.and_eq_true, decide_eq_true_eq, Bool.not_eq_true', decide_eq_false_iff_not] at h2
   simp only [keyDot, Prod.mk.injEq] at e9
   exact ⟨x, hx, h2.1, e9.2, e9.1, by rw [← e9.2]; exact h2.2⟩
  ·rintro ⟨x, hx, h1, rfl, rfl, h2⟩
   refine ⟨x.1, List.mem_filter.2 ⟨List.mem_reverse.2 (h.dots x hx), ?_⟩, rfl⟩
   simp only [livB, Bool.and_eq_true, decide_eq_true_eq, Bool.not_eq_true', decide_eq_false_iff_not]
   exact ⟨h1, h2⟩
 ·rw [h.pairs]
  have h1 : (E.reverse.filter (livB D)).Pairwise fun a b => a.dot ≠ b.dot := (List.pairwise_map.1 hne).sublist List.filter_sublist
  exact List.pairwise_map.2 (h1.imp fun {a b} h e => h (by simp only [keyDot, Prod.mk.injEq] at e; exact e.2))
 ·rw [← evsOf_length, h.kept, List.length_reverse]
  exact ho.len
 ·show E = eventsOf s
  exact srtE_ext ho.srt (eventsOf_srt hnd) fun e => by rw [eventsOf_mem hnd, hmem]
 ·show dead = sortD s.dead
  rw [h.dead, sortD_congr hD, sortD_self ho.dsrt]
end Go.Proofs.YtohcmljigcdmbaaGreat
