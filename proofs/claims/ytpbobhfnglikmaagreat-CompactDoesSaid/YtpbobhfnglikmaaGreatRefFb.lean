/- The reference's map: find, Forget, Bare, Clear. Conditions: as in the text. -/
import Derived.Test.YtpbobhfnglikmaaGreatStepP
set_option linter.unusedSimpArgs false
set_option linter.unusedVariables false
set_option linter.unnecessarySimpa false
set_option maxHeartbeats 16000000
set_option maxRecDepth 100000
namespace Go.Proofs.YtpbobhfnglikmaaGreat
open Go.RowKit
def findAt : Nat → List EvIt → Dot → Int
 | _, [], _ => -1
 | k, x :: r, d => if x.1.dot = d then (k : Int) else findAt (k + 1) r d
theorem findAt_step (ls : List EvIt) (k : Nat) (d : Dot) (h : k < ls.length) : findAt k (ls.drop k) d = if ls[k].1.dot = d then (k : Int) else findAt (k + 1) (ls.drop (k + 1)) d := by
 rw [List.drop_eq_getElem_cons h, findAt]
theorem findAt_cases : ∀ (ls : List EvIt) (k : Nat) (d : Dot), (findAt k ls d = -1 ∧ ∀ x ∈ ls, x.1.dot ≠ d) ∨ ∃ (j : Nat) (h : j < ls.length), findAt k ls d = ((k + j : Nat) : Int) ∧ ls[j].1.dot = d
 | [], _, _ => Or.inl ⟨rfl, fun x hx => (nomatch hx)⟩
 | x :: r, k, d => by
   unfold findAt
   by_cases hx : x.1.dot = d
   ·exact Or.inr ⟨0, by simp, by rw [if_pos hx]; simp, hx⟩
   ·rw [if_neg hx]
    rcases findAt_cases r (k + 1) d with ⟨h1, h2⟩ | ⟨j, h1, h2, h3⟩
    ·refine Or.inl ⟨h1, fun z hz => ?_⟩
     rcases List.mem_cons.1 hz with rfl | hz
     ·exact hx
     ·exact h2 z hz
    ·exact Or.inr ⟨j + 1, by simp; omega, by rw [h2]; congr 1; omega, h3⟩
/-- without the one at a place -/
def rmAt (ls : List EvIt) (j : Nat) : List EvIt := ls.take j ++ ls.drop (j + 1)
theorem rmAt_len {ls : List EvIt} {j : Nat} (h : j < ls.length) : (rmAt ls j).length = j + (ls.length - (j + 1)) := by
 unfold rmAt
 rw [List.length_append, List.length_take, List.length_drop]
 omega
theorem rmAt_mem {ls : List EvIt} {j : Nat} {x : EvIt} (h : x ∈ rmAt ls j) : x ∈ ls := by
 rcases List.mem_append.1 h with h | h
 ·exact List.mem_of_mem_take h
 ·exact List.mem_of_mem_drop h
/-- with the one at a place bared -/
def baAt : List EvIt → Nat → List EvIt
 | [], _ => []
 | x :: r, 0 => bareIt x :: r
 | x :: r, j + 1 => x :: baAt r j
theorem baAt_len : ∀ (ls : List EvIt) (j : Nat), (baAt ls j).length = ls.length
 | [], _ => rfl
 | _ :: _, 0 => rfl
 | _ :: r, j + 1 => by
   show (baAt r j).length + 1 = _
   rw [baAt_len r j]
   rfl
theorem baAt_get : ∀ (ls : List EvIt) (j i : Nat) (h : i < ls.length), (baAt ls j)[i]'(by rw [baAt_len]; exact h) = if i = j then bareIt ls[i] else ls[i]
 | [], _, i, h => by simp at h
 | x :: r, 0, 0, h => rfl
 | x :: r, 0, i + 1, h => by simp [baAt]
 | x :: r, j + 1, 0, h => by simp [baAt]
 | x :: r, j + 1, i + 1, h => by
   have := baAt_get r j i (by simpa using h)
   simp only [baAt, List.getElem_cons_succ, this, Nat.add_right_cancel_iff]
theorem baAt_mem : ∀ {ls : List EvIt} {j : Nat} {x : EvIt}, x ∈ baAt ls j → x ∈ ls ∨ ∃ y ∈ ls, x = bareIt y
 | [], _, _, h => (nomatch h)
 | y :: r, 0, x, h => by
   rcases List.mem_cons.1 h with rfl | h
   ·exact Or.inr ⟨y, List.mem_cons_self, rfl⟩
   ·exact Or.inl (List.mem_cons_of_mem _ h)
 | y :: r, j + 1, x, h => by
   rcases List.mem_cons.1 h with rfl | h
   ·exact Or.inl List.mem_cons_self
   ·rcases baAt_mem h with h | ⟨z, hz, e⟩
    ·exact Or.inl (List.mem_cons_of_mem _ h)
    ·exact Or.inr ⟨z, List.mem_cons_of_mem _ hz, e⟩
/-! ### the answers, plainly -/
def rmFgOk (r : RM) (d : Dot) : Bool := r.kept.any fun e => decide (e.dot = d) && (!decide (e.kind = 1) || decide (d ∈ r.dead))
def rmFg (r : RM) (d : Dot) : RM := if rmFgOk r d = true then ⟨r.ctx, r.kept.filter (fun e => decide (e.dot ≠ d)), r.dead⟩ else r
def bareEv (e : Ev) : Ev := { e with over := [] }
def rmBrOk (r : RM) (d : Dot) : Bool := r.kept.any fun e => decide (e.dot = d) && (decide (e.kind = 1) && !decide (e.over.length = 0))
def rmBr (r : RM) (d : Dot) : RM := if rmBrOk r d = true then ⟨r.ctx, r.kept.map (fun e => if e.dot = d then bareEv e else e), r.dead⟩ else r
def rmClOk (r : RM) (d : Dot) : Bool := decide (d ∈ r.dead) && (hasM r.ctx d && !(r.kept.any fun e => decide (e.dot = d)))
def rmCl (r : RM) (d : Dot) : RM := if rmClOk r d = true then ⟨r.ctx, r.kept, r.dead.filter fun x => decide (x ≠ d)⟩ else r
theorem any_no {p : Ev → Bool} {l : List Ev} {d : Dot} (h : ∀ e ∈ l, e.dot ≠ d) : (l.any fun e => decide (e.dot = d) && p e) = false := by
 rw [List.any_eq_false]
 intro e he h2
 rw [Bool.and_eq_true, decide_eq_true_eq] at h2
 exact h e he h2.1
theorem any_at {p : Ev → Bool} {l : List Ev} (hnd : (l.map (·.dot)).Nodup) {e : Ev} (he : e ∈ l) : (l.any fun x => decide (x.dot = e.dot) && p x) = p e := by
 rw [Bool.eq_iff_iff, List.any_eq_true]
 constructor
 ·rintro ⟨x, hx, h2⟩
  rw [Bool.and_eq_true, decide_eq_true_eq] at h2
  have : x = e := by
   obtain ⟨i, hi, rfl⟩ := List.getElem_of_mem hx
   obtain ⟨j, hj, rfl⟩ := List.getElem_of_mem he
   have hp := List.pairwise_iff_getElem.1 (List.pairwise_map.1 hnd)
   rcases Nat.lt_trichotomy i j with hij | hij | hij
   ·exact absurd h2.1 (hp i j hi hj hij)
   ·subst hij; rfl
   ·exact absurd h2.1.symm (hp j i hj hi hij)
  rw [← this]; exact h2.2
 ·intro h
  exact ⟨e, he, by rw [Bool.and_eq_true, decide_eq_true_eq]; exact ⟨rfl, h⟩⟩
theorem rmAt_filter : ∀ {ls : List EvIt} (hnd : ((evsOf ls).map (·.dot)).Nodup) {j : Nat} (h : j < ls.length), evsOf (rmAt ls j) = (evsOf ls).filter fun e => decide (e.dot ≠ ls[j].1.dot)
 | [], _, _, h => by simp at h
 | x :: r, hnd, 0, _ => by
   have h1 := (List.nodup_cons.1 (show (x.1.dot :: (evsOf r).map (·.dot)).Nodup from hnd)).1
   show evsOf r = ((x.1 :: evsOf r).filter fun e => decide (e.dot ≠ x.1.dot))
   rw [List.filter_cons, if_neg (by simp)]
   refine (List.filter_eq_self.2 fun e he => decide_eq_true (p := e.dot ≠ x.1.dot) (fun e9 => h1 ?_)).symm
   rw [← e9]
   exact List.mem_map_of_mem he
 | x :: r, hnd, j + 1, h => by
   obtain ⟨h1, h2⟩ := List.nodup_cons.1 (show (x.1.dot :: (evsOf r).map (·.dot)).Nodup from hnd)
   have hj : j < r.length := by simpa using h
   have ih := rmAt_filter h2 hj
   show x.1 :: evsOf (rmAt r j) = ((x.1 :: evsOf r).filter fun e => decide (e.dot ≠ r[j].1.dot))
   rw [List.filter_cons, if_pos (decide_eq_true (p := x.1.dot ≠ r[j].1.dot) (fun e9 => h1 (by rw [e9]; exact List.mem_map_of_mem (List.mem_map_of_mem (f := fun x : EvIt => x.1) (List.getElem_mem hj))))), ih]
theorem baAt_map : ∀ {ls : List EvIt} (hnd : ((evsOf ls).map (·.dot)).Nodup) {j : Nat} (h : j < ls.length), evsOf (baAt ls j) = (evsOf ls).map fun e => if e.dot = ls[j].1.dot then bareEv e else e
 | [], _, _, h => by simp at h
 | x :: r, hnd, 0, _ => by
   have h1 := (List.nodup_cons.1 (show (x.1.dot :: (evsOf r).map (·.dot)).Nodup from hnd)).1
   show bareEv x.1 :: evsOf r = (if x.1.dot = x.1.dot then bareEv x.1 else x.1) :: (evsOf r).map fun e => if e.dot = x.1.dot then bareEv e else e
   rw [if_pos rfl]
   congr 1
   conv => lhs; rw [← List.map_id (evsOf r)]
   refine List.map_congr_left fun e he => ?_
   rw [if_neg fun e9 => h1 (by rw [← e9]; exact List.mem_map_of_mem he)]
   rfl
 | x :: r, hnd, j + 1, h => by
   obtain ⟨h1, h2⟩ := List.nodup_cons.1 (show (x.1.dot :: (evsOf r).map (·.dot)).Nodup from hnd)
   have hj : j < r.length := by simpa using h
   have ih := baAt_map h2 hj
   show x.1 :: evsOf (baAt r j) = (if x.1.dot = r[j].1.dot then bareEv x.1 else x.1) :: (evsOf r).map fun e => if e.dot = r[j].1.dot then bareEv e else e
   rw [if_neg fun e9 => h1 (by rw [e9]; exact List.mem_map_of_mem (List.mem_map_of_mem (f := fun x : EvIt => x.1) (List.getElem_mem hj))), ih]
/-! ### find -/
theorem rFindE_any (a : Option Addr) (cap : Nat) (ls : List EvIt) (d : Dot) (w : World) (hl : ls.length ≤ 1048576) (hE : EvsIn w a ls) :
 Calls Tryz.prog 81 #[.slice a ls.length cap, dotVal d] w fun x w' => x = .returned (.int .i64 (findAt 0 ls d)) ∧ Below w.heap.size w w' := by
 have HM : Hid (findAt 0 ls d = findAt 0 (ls.drop 0) d) := rfl
 go_enter Tryz.func81, Tryz.ntmps81
 go_upto_region 1 with fail
 refine wp_name (fun V hV => ?_)
 have hb0 : Below w.heap.size w V := by rw [hV.out]; go_grown
 have E0 : V.cell? ⟨w.heap.size, 0, none⟩ = some (.int .i64 d.a.dev) := by rw [hV.out]; go_simp
 have E1 : V.cell? ⟨w.heap.size, 1, none⟩ = some (.int .i64 d.a.inc) := by rw [hV.out]; go_simp
 have E2 : V.cell? ⟨w.heap.size, 2, none⟩ = some (.int .i64 d.seq) := by rw [hV.out]; go_simp
 have hE0 := hE.kept hb0
 clear hV hE
 go_wp2
 go_loopw [5] (fun i wr => ∃ k : Nat, k ≤ ls.length ∧ i = .int .i64 k ∧ findAt 0 ls d = findAt k (ls.drop k) d ∧ Below V.heap.size V wr) (fun i _ => ls.length - (intOf i).toNat)
 case atStart => exact ⟨0, Nat.zero_le _, rfl, HM.out, Below.refl _ _⟩
 case round =>
  obtain ⟨k, hk, rfl, hpre, hB⟩ := hrel
  have HP := Lib.hid hpre
  clear hpre HM
  have D0 := kept hB E0
  have D1 := kept hB E1
  have D2 := kept hB E2
  by_cases hlt : k < ls.length
  ·obtain ⟨A, off, rfl, hra, _⟩ := (hE0.kept hB).at hlt
   have r1 := hra k hlt
   have hst := findAt_step ls k d hlt
   have HT : Hid (findAt 0 ls d = if ls[k].1.dot = d then (k : Int) else findAt (k + 1) (ls.drop (k + 1)) d) := by rw [Hid, HP.out, hst]
   clear hst HP hra
   generalize ls[k] = x at r1 HT
   obtain ⟨e, ax, cx⟩ := x
   simp only [itEv] at r1
   simp only at HT
   have F0 := r1 0 _ rfl
   have F1 := r1 1 _ rfl
   have F2 := r1 2 _ rfl
   simp only [Nat.add_zero] at F0
   have hEq := fun (W : World) => eqDot W 9997 e.dot d
   have hm := noGuardDot
   clear r1
   by_cases hed : e.dot = d
   ·rw [decide_eq_true hed] at hEq
    have HE : Hid (findAt 0 ls d = (k : Int)) := by rw [Hid, HT.out, if_pos hed]
    clear hed HT
    go_upto_region 4 with fail
    refine wp_region_after (by kernel_rfl) (by kernel_rfl) (fun WA hWA => ?_)
    have hbA : Below wr.heap.size wr WA := by rw [hWA.out]; go_grown
    have pD0 : ∀ i : After WA, i.w.cell? ⟨w.heap.size, 0, none⟩ = some (.int .i64 d.a.dev) := fun i => i.cell (kept hbA D0)
    have pD1 : ∀ i : After WA, i.w.cell? ⟨w.heap.size, 1, none⟩ = some (.int .i64 d.a.inc) := fun i => i.cell (kept hbA D1)
    have pD2 : ∀ i : After WA, i.w.cell? ⟨w.heap.size, 2, none⟩ = some (.int .i64 d.seq) := fun i => i.cell (kept hbA D2)
    have pF0 : ∀ i : After WA, i.w.cell? ⟨A, off + k * 19, none⟩ = some (.int .i64 e.dot.a.dev) := fun i => i.cell (kept hbA F0)
    have pF1 : ∀ i : After WA, i.w.cell? ⟨A, off + k * 19 + 1, none⟩ = some (.int .i64 e.dot.a.inc) := fun i => i.cell (kept hbA F1)
    have pF2 : ∀ i : After WA, i.w.cell? ⟨A, off + k * 19 + 2, none⟩ = some (.int .i64 e.dot.seq) := fun i => i.cell (kept hbA F2)
    clear hWA
    iterate 7 go_big_quiet_step (fail)
    refine wpQuiet_nil ?_
    rintro _ ⟨i, rfl⟩
    have hiA := i.h
    generalize i.w = wq at hiA ⊢
    have hbY : Below wr.heap.size wr wq := below2 hbA hiA
    clear hbA hiA pD0 pD1 pD2 pF0 pF1 pF2
    go_wp2
    go_ret
    exact ⟨ret_int HE.out.symm, hb0.trans ((hB.trans (hbY.mono hB.size)).mono hb0.size)⟩
   ·rw [decide_eq_false hed] at hEq
    have HE : Hid (findAt 0 ls d = findAt (k + 1) (ls.drop (k + 1)) d) := by rw [Hid, HT.out, if_neg hed]
    clear hed HT
    go_upto_region 4 with fail
    refine wp_region_after (by kernel_rfl) (by kernel_rfl) (fun WA hWA => ?_)
    have hbA : Below wr.heap.size wr WA := by rw [hWA.out]; go_grown
    have pD0 : ∀ i : After WA, i.w.cell? ⟨w.heap.size, 0, none⟩ = some (.int .i64 d.a.dev) := fun i => i.cell (kept hbA D0)
    have pD1 : ∀ i : After WA, i.w.cell? ⟨w.heap.size, 1, none⟩ = some (.int .i64 d.a.inc) := fun i => i.cell (kept hbA D1)
    have pD2 : ∀ i : After WA, i.w.cell? ⟨w.heap.size, 2, none⟩ = some (.int .i64 d.seq) := fun i => i.cell (kept hbA D2)
    have pF0 : ∀ i : After WA, i.w.cell? ⟨A, off + k * 19, none⟩ = some (.int .i64 e.dot.a.dev) := fun i => i.cell (kept hbA F0)
    have pF1 : ∀ i : After WA, i.w.cell? ⟨A, off + k * 19 + 1, none⟩ = some (.int .i64 e.dot.a.inc) := fun i => i.cell (kept hbA F1)
    have pF2 : ∀ i : After WA, i.w.cell? ⟨A, off + k * 19 + 2, none⟩ = some (.int .i64 e.dot.seq) := fun i => i.cell (kept hbA F2)
    clear hWA
    iterate 7 go_big_quiet_step (fail)
    refine wpQuiet_nil ?_
    rintro _ ⟨i, rfl⟩
    have hiA := i.h
    generalize i.w = wq at hiA ⊢
    have hbY : Below wr.heap.size wr wq := below2 hbA hiA
    clear hbA hiA pD0 pD1 pD2 pF0 pF1 pF2
    go_wp2
    go_roundw
    case rel => exact ⟨k + 1, by omega, by go_num, HE.out, hB.trans (hbY.mono hB.size)⟩
    case measure => simp [intOf] <;> omega
  ·have HE : Hid (findAt 0 ls d = -1) := by rw [Hid, HP.out, List.drop_eq_nil_of_le (by omega)]; rfl
   clear HP
   go_wp2
   go_ret
   exact ⟨ret_int HE.out.symm, hb0.trans (hB.mono hb0.size)⟩
def RetRF (r : RM) (ok : Bool) (w : World) (e : Ending) (w' : World) : Prop := ∃ y, e = .returned (.tuple #[rmVal y, .bool ok]) ∧ RMIn w' y ∧ y.rm = r ∧ Below w.heap.size w w'
theorem slz {w : World} {R : Nat} {t : TypeId} {f : Nat × Nat} (h : w.heap[R]? = some (.cells #[.slice none 0 0, .slice none 0 0, .slice none 0 0] t f)) : Sl3 w R := ⟨_, _, _, _, _, _, _, _, _, _, _, h⟩
/-- the blocks that Forget, Bare, Clear begin with -/
theorem rmHead {w V : World} {ac aK ad : Option Addr} {ctx dead : List Dot} {K : List EvIt} {cc cK cd : Nat} {d : Dot} (hV : V = ((w.alloc (.cells #[.slice ac ctx.length cc, .slice aK K.length cK, .slice ad dead.length cd] 31)).alloc (.cells #[.int .i64 d.a.dev, .int .i64 d.a.inc, .int .i64 d.seq] 35)).alloc (.cells #[.slice none 0 0, .slice none 0 0, .slice none 0 0] 31)) (hI : RMIn w ⟨ac, ctx, cc, aK, K, cK, ad, dead, cd⟩) :
 Below w.heap.size w V ∧ V.cell? ⟨w.heap.size, 0, none⟩ = some (.slice ac ctx.length cc) ∧ V.cell? ⟨w.heap.size, 1, none⟩ = some (.slice aK K.length cK) ∧ V.cell? ⟨w.heap.size, 2, none⟩ = some (.slice ad dead.length cd) ∧
 V.cell? ⟨w.heap.size + 1, 0, none⟩ = some (.int .i64 d.a.dev) ∧ V.cell? ⟨w.heap.size + 1, 1, none⟩ = some (.int .i64 d.a.inc) ∧ V.cell? ⟨w.heap.size + 1, 2, none⟩ = some (.int .i64 d.seq) ∧
 V.heap[w.heap.size + 1 + 1]? = some (.cells #[.slice none 0 0, .slice none 0 0, .slice none 0 0] 31 (0, 0)) ∧ RMIn V ⟨ac, ctx, cc, aK, K, cK, ad, dead, cd⟩ := by
 have hb0 : Below w.heap.size w V := by rw [hV]; go_grown
 refine ⟨hb0, by rw [hV]; go_simp, by rw [hV]; go_simp, by rw [hV]; go_simp, by rw [hV]; go_simp, by rw [hV]; go_simp, by rw [hV]; go_simp, ?_, hI.keep hb0⟩
 rw [hV]
 have h9 := heap_last0 ((w.alloc (.cells #[.slice ac ctx.length cc, .slice aK K.length cK, .slice ad dead.length cd] 31)).alloc (.cells #[.int .i64 d.a.dev, .int .i64 d.a.inc, .int .i64 d.seq] 35)) (.cells #[.slice none 0 0, .slice none 0 0, .slice none 0 0] 31)
 rwa [show ((w.alloc (.cells #[.slice ac ctx.length cc, .slice aK K.length cK, .slice ad dead.length cd] 31)).alloc (.cells #[.int .i64 d.a.dev, .int .i64 d.a.inc, .int .i64 d.seq] 35)).heap.size = w.heap.size + 1 + 1 by simp] at h9
theorem set3_in {w : World} {R : Nat} {y : RMIt} {cs : Array Value} (h : RMIn w y) (hR : Sl3 w R) : RMIn (w.setRow R cs) y := h.not3 hR (fun k hk => heap_setRow_other _ _ _ _ (fun e => hk e.symm))
/-- a row of events, one of which is bared -/
theorem bare_row {w : World} {g : Nat} {ls : List EvIt} {j : Nat} {cur : Array Value} {t : TypeId} (hg : w.heap[g]? = some (.cells cur t (0, 0))) (hrow : ∀ i (h : i < ls.length), w.rangeAt g (i * 19) (itEv ls[i])) (hd : ∀ x ∈ ls, DotsIn w x.2.1 x.1.over) (hnd : ∀ x ∈ ls, ∀ A off, x.2.1 = some ⟨A, off, none⟩ → x.1.over ≠ [] → A ≠ g) :
 EvsIn (w.setCell ⟨g, j * 19 + 18, none⟩ (.slice none 0 0)) (some ⟨g, 0, none⟩) (baAt ls j) := by
 have hk : ∀ k, k ≠ g → (w.setCell ⟨g, j * 19 + 18, none⟩ (.slice none 0 0)).heap[k]? = w.heap[k]? := fun k hk => heap_setCell_other _ _ _ _ (fun e => hk e.symm)
 have hdk : ∀ x ∈ ls, DotsIn (w.setCell ⟨g, j * 19 + 18, none⟩ (.slice none 0 0)) x.2.1 x.1.over := fun x hx => by
  rcases hd x hx with h | ⟨A, off, h1, h2⟩
  ·exact Or.inl h
  ·by_cases h0 : x.1.over = []
   ·exact Or.inl h0
   ·have hA := hk A (hnd x hx A off h1 h0)
    exact Or.inr ⟨A, off, h1, ⟨fun i hi => (World.cell?_of_block hA).trans (h2.dev i hi), fun i hi => (World.cell?_of_block hA).trans (h2.inc i hi), fun i hi => (World.cell?_of_block hA).trans (h2.seq i hi)⟩⟩
 refine ⟨Or.inr ⟨g, 0, rfl, fun i hi => ?_⟩, fun x hx => ?_⟩
 ·have hi' : i < ls.length := by rwa [baAt_len] at hi
  rw [baAt_get ls j i hi', Nat.zero_add]
  have hr := hrow i hi'
  intro o v hv
  by_cases hij : i = j
  ·subst hij
   rw [if_pos rfl] at hv
   have ho : o < 19 := by
        have := (List.getElem?_eq_some_iff.1 hv).1
        simpa [itEv, evCells] using this
   by_cases h18 : o = 18
   ·subst h18
    obtain rfl : v = .slice none 0 0 := by
     have : (itEv (bareIt ls[i]))[18]? = some (.slice none 0 0) := rfl
     rw [this] at hv
     simpa using hv.symm
    have h9 := hr 18 _ rfl
    exact World.cell?_setCell_same w _ _ h9
   ·have h9 : (itEv ls[i])[o]? = some v := by
     rw [← hv]
     match o, ho, h18 with
     | 0, _, _ | 1, _, _ | 2, _, _ | 3, _, _ | 4, _, _ | 5, _, _ | 6, _, _ | 7, _, _ | 8, _, _ | 9, _, _ | 10, _, _ | 11, _, _ | 12, _, _ | 13, _, _ | 14, _, _ | 15, _, _ | 16, _, _ | 17, _, _ => rfl
     | 18, _, h => exact absurd rfl h
    exact (World.cell?_setCell_other w _ _ _ (by simp only [ne_eq, Addr.mk.injEq, true_and, and_true]; omega)).trans (hr o v h9)
  ·rw [if_neg hij] at hv
   have ho : o < 19 := by
        have := (List.getElem?_eq_some_iff.1 hv).1
        simpa [itEv, evCells] using this
   exact (World.cell?_setCell_other w _ _ _ (by simp only [ne_eq, Addr.mk.injEq, true_and, and_true]; omega)).trans (hr o v hv)
 ·rcases baAt_mem hx with h | ⟨y, _, rfl⟩
  ·exact hdk x h
  ·exact Or.inl rfl
theorem rForget21_any (x : RMIt) (d : Dot) (w : World) (hK : x.K.length ≤ 4096) (hdl : x.dead.length ≤ 1048576) (hnd : ((evsOf x.K).map (·.dot)).Nodup) (hI : RMIn w x) :
 Calls Tryz.prog 18 #[rmVal x, dotVal d] w (RetRF (rmFg x.rm d) (rmFgOk x.rm d) w) := by
 obtain ⟨ac, ctx, cc, aK, K, cK, ad, dead, cd⟩ := x
 simp only at hK hdl hnd
 show Calls Tryz.prog 18 #[.agg #[.slice ac ctx.length cc, .slice aK K.length cK, .slice ad dead.length cd], dotVal d] w (RetRF (rmFg ⟨ctx, evsOf K, dead⟩ d) (rmFgOk ⟨ctx, evsOf K, dead⟩ d) w)
 obtain ⟨i0, hi, hz0, hz1, hz2⟩ := info_parts Tryz.infoEv
 have hFi := fun (X : World) (h : EvsIn X aK K) => rFindE_any aK cK K d X (by omega) h
 have hHd := fun (X : World) (h : DotsIn X ad dead) => rHasD_any ad cd dead d X (by omega) h
 have hun : rmFgOk (⟨ctx, evsOf K, dead⟩ : RM) d = (evsOf K).any fun e => decide (e.dot = d) && (!decide (e.kind = 1) || decide (d ∈ dead)) := rfl
 rcases findAt_cases K 0 d with ⟨h1, h2⟩ | ⟨j, hj, h1, h2⟩
 ·have HF : Hid (rmFgOk (⟨ctx, evsOf K, dead⟩ : RM) d = false) := by
   unfold Hid
   rw [hun]
   exact any_no (fun e he => by obtain ⟨z, hz, rfl⟩ := List.mem_map.1 he; exact h2 z hz)
  rw [h1] at hFi
  have HFi := Lib.hid hFi
  clear hFi h1 h2 hun hnd hHd
  go_enter Tryz.func18, Tryz.ntmps18
  go_upto_region 1 with fail
  refine wp_name (fun V hV => ?_)
  obtain ⟨hb0, x0, x1, x2, D0, D1, D2, hZ, hI0⟩ := rmHead hV.out hI
  clear hV hI
  go_upto_region 2 with (go_at_call 81; (with_reducible refine (HFi.out _ hI0.kept).mono ?_); rintro v w1 ⟨rfl, hb1⟩)
  replace x0 := kept hb1 x0
  replace x1 := kept hb1 x1
  replace x2 := kept hb1 x2
  replace D0 := kept hb1 D0
  replace D1 := kept hb1 D1
  replace D2 := kept hb1 D2
  replace hZ := (hb1.block _ (lt_of_block hZ)).trans hZ
  replace hI0 := hI0.keep hb1
  replace hb0 := hb0.trans (hb1.mono hb0.size)
  clear hb1
  go_upto_region 3 with fail
  go_wp2_with (refine wpList_store_row rfl 31 _ _ rfl (w.heap.size + 1 + 1) #[.slice ac ctx.length cc, .slice aK K.length cK, .slice ad dead.length cd] rfl rfl 31 #[.slice none 0 0, .slice none 0 0, .slice none 0 0] hZ (by kernel_rfl) rfl (by kernel_rfl) ?_)
  refine ret_cell_tmp 4 5 31 31 (w.heap.size + 1 + 1) #[.slice ac ctx.length cc, .slice aK K.length cK, .slice ad dead.length cd] _ _ rfl rfl rfl (setRow_heap _ _ _ _ _ _ hZ) Tryz.underlying31 rfl (by kernel_rfl) rfl ?_
  exact ⟨⟨ac, ctx, cc, aK, K, cK, ad, dead, cd⟩, by rw [HF.out]; rfl, set3_in hI0 (slz hZ), by unfold rmFg; rw [HF.out]; rfl, below_setRow hb0 (by omega) _⟩
 ·have hmem : K[j].1 ∈ evsOf K := List.mem_map_of_mem (List.getElem_mem hj)
  have hval : rmFgOk (⟨ctx, evsOf K, dead⟩ : RM) d = (!decide (K[j].1.kind = 1) || decide (d ∈ dead)) := by
   rw [hun, ← h2]
   exact any_at (p := fun e => !decide (e.kind = 1) || decide (K[j].1.dot ∈ dead)) hnd hmem
  have hfil := rmAt_filter hnd hj
  rw [h2] at hfil
  have HFL := Lib.hid hfil
  rw [h1, Nat.zero_add] at hFi
  have HFi := Lib.hid hFi
  have hji : decide ((j : Int) < 0) = false := decide_eq_false (by omega)
  clear hFi h1 hun hfil hmem hnd
  by_cases hk1 : K[j].1.kind = 1
  ·have hkb : (K[j].1.kind == 1) = true := beq_iff_eq.2 hk1
   by_cases hdd : d ∈ dead
   ·have HF : Hid (rmFgOk (⟨ctx, evsOf K, dead⟩ : RM) d = true) := by rw [Hid, hval, decide_eq_true hdd, Bool.or_true]
    rw [decide_eq_true hdd] at hHd
    have HHd := Lib.hid hHd
    clear hHd hval hdd hk1 h2
    go_enter Tryz.func18, Tryz.ntmps18
    go_upto_region 1 with fail
    refine wp_name (fun V hV => ?_)
    obtain ⟨hb0, x0, x1, x2, D0, D1, D2, hZ, hI0⟩ := rmHead hV.out hI
    clear hV hI
    go_upto_region 2 with (go_at_call 81; (with_reducible refine (HFi.out _ hI0.kept).mono ?_); rintro v w1 ⟨rfl, hb1⟩)
    replace x0 := kept hb1 x0
    replace x1 := kept hb1 x1
    replace x2 := kept hb1 x2
    replace D0 := kept hb1 D0
    replace D1 := kept hb1 D1
    replace D2 := kept hb1 D2
    replace hZ := (hb1.block _ (lt_of_block hZ)).trans hZ
    replace hI0 := hI0.keep hb1
    replace hb0 := hb0.trans (hb1.mono hb0.size)
    clear hb1
    obtain ⟨A, off, haK, hra, _⟩ := hI0.kept.at hj
    simp only at haK
    subst haK
    have r1 := hra j hj
    have r6 : w1.cell? ⟨A, off + j * 19 + 6, none⟩ = some (.int .i64 K[j].1.kind) := r1 6 _ rfl
    clear hra r1
    go_upto_region 4 with (go_at_call 82; (with_reducible refine (HHd.out _ hI0.dead).mono ?_); rintro v w2 ⟨rfl, hb2⟩)
    clear r6
    replace x0 := kept hb2 x0
    replace x1 := kept hb2 x1
    replace x2 := kept hb2 x2
    replace D0 := kept hb2 D0
    replace D1 := kept hb2 D1
    replace D2 := kept hb2 D2
    replace hZ := (hb2.block _ (lt_of_block hZ)).trans hZ
    replace hI0 := hI0.keep hb2
    replace hb0 := hb0.trans (hb2.mono hb0.size)
    clear hb2
    refine wp_name (fun W hW => ?_)
    have hbW : Below w2.heap.size w2 W.drew := by rw [hW.out]; go_grown
    have v0 := kept hbW x0
    have v1 := kept hbW x1
    have v2 := kept hbW x2
    have vI := hI0.keep hbW
    have vZ := (hbW.block _ (lt_of_block hZ)).trans hZ
    have hb0W := hb0.trans (hbW.mono hb0.size)
    have hzB : w.heap.size + 1 + 1 < W.drew.heap.size := lt_of_block vZ
    have hww : IntKind.i64.wrap ((j : Int) + 1) = (j : Int) + 1 := IntWalk.i64_in _ (by omega)
    have hKc : K.length ≤ cK := vI.cK
    have hcut : ∀ X, (Instr.sliceAt 28 (.slice (some ⟨A, off, none⟩) K.length cK) none (some (.int .i64 (j : Nat))) none).run Tryz.prog X = .ok (.slice (some ⟨A, off, none⟩) j cK) X := fun X => run_cut_hi X _ _ i0 (some ⟨A, off, none⟩) K.length cK .i64 j Tryz.underlying28 hi (by omega)
    have hcut2 : ∀ X, (Instr.sliceAt 28 (.slice (some ⟨A, off, none⟩) K.length cK) (some (.int .i64 ((j : Int) + 1))) none none).run Tryz.prog X = .ok (.slice (cutA (some ⟨A, off, none⟩) cK (j + 1) 19) (K.length - (j + 1)) (cK - (j + 1))) X := fun X => by
     have hj1 : j + 1 ≤ K.length := hj
     exact run_cut_lo X 28 43 i0 (some ⟨A, off, none⟩) K.length cK .i64 (j + 1) 19 Tryz.underlying28 hi hz1 hj1
    have hinW := vI.kept.cells
    have hR1 : ∀ X, Below W.drew.heap.size W.drew X → CellsIn X (some ⟨A, off, none⟩) (evItCells (K.take j)) := fun X h => by rw [← evIt_take]; exact (hinW.kept h).take _
    have hR2 : ∀ X, Below W.drew.heap.size W.drew X → CellsIn X (cutA (some ⟨A, off, none⟩) cK (j + 1) 19) (evItCells (K.drop (j + 1))) := fun X h => by rw [← evIt_drop]; exact (hinW.kept h).cut (evIt_length K) hKc (j + 1)
    have l1 : (evItCells (K.take j)).length = j * 19 := by rw [evIt_length, List.length_take, Nat.min_eq_left (by omega)]
    have l2 : (evItCells (K.drop (j + 1))).length = (K.length - (j + 1)) * 19 := by rw [evIt_length, List.length_drop]
    clear hW hbW x0 x1 x2 D0 D1 D2 hI0 hZ hb0
    refine wp_region_noPanic ?_
    refine wp_region_held_drew (S := fun W' => Below W.drew.heap.size W.drew W') (by kernel_rfl) (Below.refl _ _) (fun hHeld => ?_)
    refine tH (v := ?_) 1 32 rfl (Or.inl ⟨by rfl, ?_⟩) ?_
    case refine_2 => (intro w hSw; have s0 := kept hSw v0; have s1 := kept hSw v1; have s2 := kept hSw v2; go_simp; try with_reducible rfl)
    try simp only [pS]
    refine tH (v := ?_) 2 33 rfl (Or.inl ⟨by rfl, ?_⟩) ?_
    case refine_2 => (intro w hSw; have s0 := kept hSw v0; have s1 := kept hSw v1; have s2 := kept hSw v2; go_simp; try with_reducible rfl)
    try simp only [pS]
    refine tH (v := ?_) 3 34 rfl (Or.inl ⟨by rfl, ?_⟩) ?_
    case refine_2 => (intro w hSw; have s0 := kept hSw v0; have s1 := kept hSw v1; have s2 := kept hSw v2; go_simp; try with_reducible rfl)
    try simp only [pS]
    refine tH 4 35 rfl (Or.inl ⟨by rfl, fun W hSW => exec_slice _ _ _ _ _ rfl _ (hcut W)⟩) ?_
    try simp only [pS]
    refine tH (v := ?_) 6 37 rfl (Or.inl ⟨by rfl, ?_⟩) ?_
    case refine_2 => (intro w hSw; have s0 := kept hSw v0; have s1 := kept hSw v1; have s2 := kept hSw v2; go_simp; try with_reducible rfl)
    try simp only [pS]
    refine tH (v := ?_) 7 38 rfl (Or.inl ⟨by rfl, ?_⟩) ?_
    case refine_2 => (intro w hSw; have s0 := kept hSw v0; have s1 := kept hSw v1; have s2 := kept hSw v2; go_simp; try with_reducible rfl)
    try simp only [pS]
    refine tH (v := ?_) 8 39 rfl (Or.inl ⟨by rfl, ?_⟩) ?_
    case refine_2 => (intro w hSw; have s0 := kept hSw v0; have s1 := kept hSw v1; have s2 := kept hSw v2; go_simp; try with_reducible rfl)
    try simp only [pS]
    refine tH (v := ?_) 9 40 rfl (Or.inl ⟨by rfl, ?_⟩) ?_
    case refine_2 => (intro w hSw; have s0 := kept hSw v0; have s1 := kept hSw v1; have s2 := kept hSw v2; go_simp; try with_reducible rfl)
    try simp only [pS]
    refine tH 10 41 rfl (Or.inl ⟨by rfl, fun W hSW => exec_slice _ _ _ _ _ rfl _ (hcut2 W)⟩) ?_
    try simp only [pS]
    refine wpAnyH_ready (rs := [0]) (by kernel_rfl) (by simp) ?_
    refine AllReadyH.cons (o := ⟨some 31, _, _, _, _, _⟩) rfl (fun KK hKK => ?_) AllReadyH.nil
    refine step_build_nil (by rfl) 28 43 rfl i0 _ 19 Tryz.underlying28 hi hz0 hz1 (by decide) ?_
    intro v0' X0 hown0 hbel0
    refine hKK.out _ _ ?_ (fun hHeld2 => ?_)
    ·exact hHeld.trans (hbel0.mono hHeld.size)
    clear hKK KK hHeld
    have hHeld := hHeld2
    clear hHeld2
    try simp only [pS]
    replace hown0 := own_base hown0 (b2 := W.drew.heap.size) (by first | exact Nat.le_refl _ | simp)
    refine wpAnyH_ready (rs := [5]) (by kernel_rfl) (by simp) ?_
    refine AllReadyH.cons (o := ⟨some 36, _, _, _, _, _⟩) rfl (fun KK hKK => ?_) AllReadyH.nil
    refine step_append_cells (by rfl) (.tmp 31) (.tmp 35) 28 rfl W.drew.heap.size 43 i0 _ 19 176 Tryz.underlying28 hi hz0 hz1 hz2 rfl (by decide) _ 0 _ rfl hown0 (some ⟨A, off, none⟩) j cK (evItCells (K.take j)) rfl l1 (hR1 _ hHeld) (evIt_one _) (by first | omega | (unfold maxLen; omega)) (by first | omega | (unfold maxLen; omega)) hHeld.size ?_
    intro v1' X1 hown1 hg1
    refine hKK.out _ _ ?_ (fun hHeld2 => ?_)
    ·exact hHeld.grown hg1 hHeld.size (fun k hk => (hown0.lt k hk).1)
    clear hKK KK hHeld
    have hHeld := hHeld2
    clear hHeld2
    try simp only [pS]
    refine wpAnyH_ready (rs := [11]) (by kernel_rfl) (by simp) ?_
    refine AllReadyH.cons (o := ⟨some 42, _, _, _, _, _⟩) rfl (fun KK hKK => ?_) AllReadyH.nil
    refine step_append_cells (by rfl) (.tmp 36) (.tmp 41) 28 rfl W.drew.heap.size 43 i0 _ 19 176 Tryz.underlying28 hi hz0 hz1 hz2 rfl (by decide) _ (0 + j) _ rfl hown1 (cutA (some ⟨A, off, none⟩) cK (j + 1) 19) (K.length - (j + 1)) (cK - (j + 1)) (evItCells (K.drop (j + 1))) rfl l2 (hR2 _ hHeld) (evIt_one _) (by first | omega | (unfold maxLen; omega)) (by first | omega | (unfold maxLen; omega)) hHeld.size ?_
    intro v2' X2 hown2 hg2
    refine hKK.out _ _ ?_ (fun hHeld2 => ?_)
    ·exact hHeld.grown hg2 hHeld.size (fun k hk => (hown1.lt k hk).1)
    clear hKK KK hHeld
    have hHeld := hHeld2
    clear hHeld2
    try simp only [pS]
    refine tH (v := ?_) 12 7 rfl (Or.inl ⟨by rfl, ?_⟩) ?_
    case refine_2 => (intro w hSw; go_simp; try with_reducible rfl)
    try simp only [pS]
    refine wpAnyH_done (by kernel_rfl) ?_ _
    refine NoPanic.normal ?_
    have e1 : [] ++ evItCells (K.take j) ++ evItCells (K.drop (j + 1)) = evItCells (rmAt K j) := by unfold rmAt; simp [evItCells]
    have e2 : 0 + j + (K.length - (j + 1)) = (rmAt K j).length := by rw [rmAt_len hj]; omega
    rw [e1, e2] at hown2
    obtain ⟨a2, c2, rfl, hcell2, hc2⟩ := own_cellsIn hown2
    obtain ⟨a3, c3, he3, hin3⟩ := evsIn_own hown2 (fun z hz => (vI.kept.dots z (rmAt_mem hz)).kept hHeld)
    obtain ⟨rfl, rfl⟩ : a2 = a3 ∧ c2 = c3 := by cases he3; exact ⟨rfl, rfl⟩
    have vc0 := kept hHeld v0
    have vc2 := kept hHeld v2
    have hZ := (hHeld.block _ hzB).trans vZ
    have hI9 : RMIn X2 ⟨ac, ctx, cc, a2, rmAt K j, c2, ad, dead, cd⟩ := ⟨vI.ctx.kept hHeld, hin3, vI.dead.kept hHeld, vI.cc, hc2, vI.cd⟩
    have hb9 := hb0W.trans (hHeld.mono hb0W.size)
    have HQ := Lib.hid (And.intro hI9 hb9)
    clear e1 e2 hown0 hown1 hown2 hHeld hR1 hR2 l1 l2 hcut hcut2 hinW hin3 hcell2 hc2 he3 hg1 hg2 hbel0 v0 v1 v2 vI vZ hb0W hI9 hb9 hKc
    go_wp2_with (refine wpList_store_row rfl 31 _ _ rfl (w.heap.size + 1 + 1) #[.slice ac ctx.length cc, .slice a2 (rmAt K j).length c2, .slice ad dead.length cd] rfl rfl 31 _ hZ (by kernel_rfl) rfl (by kernel_rfl) ?_)
    refine ret_cell_tmp 4 5 31 31 (w.heap.size + 1 + 1) #[.slice ac ctx.length cc, .slice a2 (rmAt K j).length c2, .slice ad dead.length cd] _ _ rfl rfl rfl (setRow_heap _ _ _ _ _ _ hZ) Tryz.underlying31 rfl (by kernel_rfl) rfl ?_
    exact ⟨⟨ac, ctx, cc, a2, rmAt K j, c2, ad, dead, cd⟩, by rw [HF.out]; rfl, set3_in HQ.out.1 (slz hZ), by unfold rmFg; rw [HF.out, if_pos rfl]; show (⟨ctx, evsOf (rmAt K j), dead⟩ : RM) = _; rw [HFL.out], below_setRow HQ.out.2 (by omega) _⟩
   ·have HF : Hid (rmFgOk (⟨ctx, evsOf K, dead⟩ : RM) d = false) := by rw [Hid, hval, decide_eq_true hk1, decide_eq_false hdd]; rfl
    rw [decide_eq_false hdd] at hHd
    have HHd := Lib.hid hHd
    clear hHd hval hdd hk1 h2
    go_enter Tryz.func18, Tryz.ntmps18
    go_upto_region 1 with fail
    refine wp_name (fun V hV => ?_)
    obtain ⟨hb0, x0, x1, x2, D0, D1, D2, hZ, hI0⟩ := rmHead hV.out hI
    clear hV hI
    go_upto_region 2 with (go_at_call 81; (with_reducible refine (HFi.out _ hI0.kept).mono ?_); rintro v w1 ⟨rfl, hb1⟩)
    replace x0 := kept hb1 x0
    replace x1 := kept hb1 x1
    replace x2 := kept hb1 x2
    replace D0 := kept hb1 D0
    replace D1 := kept hb1 D1
    replace D2 := kept hb1 D2
    replace hZ := (hb1.block _ (lt_of_block hZ)).trans hZ
    replace hI0 := hI0.keep hb1
    replace hb0 := hb0.trans (hb1.mono hb0.size)
    clear hb1
    obtain ⟨A, off, haK, hra, _⟩ := hI0.kept.at hj
    simp only at haK
    subst haK
    have r1 := hra j hj
    have r6 : w1.cell? ⟨A, off + j * 19 + 6, none⟩ = some (.int .i64 K[j].1.kind) := r1 6 _ rfl
    clear hra r1
    go_upto_region 3 with (go_at_call 82; (with_reducible refine (HHd.out _ hI0.dead).mono ?_); rintro v w2 ⟨rfl, hb2⟩)
    clear r6
    replace x0 := kept hb2 x0
    replace x1 := kept hb2 x1
    replace x2 := kept hb2 x2
    replace D0 := kept hb2 D0
    replace D1 := kept hb2 D1
    replace D2 := kept hb2 D2
    replace hZ := (hb2.block _ (lt_of_block hZ)).trans hZ
    replace hI0 := hI0.keep hb2
    replace hb0 := hb0.trans (hb2.mono hb0.size)
    clear hb2
    go_wp2_with (refine wpList_store_row rfl 31 _ _ rfl (w.heap.size + 1 + 1) #[.slice ac ctx.length cc, .slice (some ⟨A, off, none⟩) K.length cK, .slice ad dead.length cd] rfl rfl 31 #[.slice none 0 0, .slice none 0 0, .slice none 0 0] hZ (by kernel_rfl) rfl (by kernel_rfl) ?_)
    refine ret_cell_tmp 4 5 31 31 (w.heap.size + 1 + 1) #[.slice ac ctx.length cc, .slice (some ⟨A, off, none⟩) K.length cK, .slice ad dead.length cd] _ _ rfl rfl rfl (setRow_heap _ _ _ _ _ _ hZ) Tryz.underlying31 rfl (by kernel_rfl) rfl ?_
    exact ⟨⟨ac, ctx, cc, (some ⟨A, off, none⟩), K, cK, ad, dead, cd⟩, by rw [HF.out]; rfl, set3_in hI0 (slz hZ), by unfold rmFg; rw [HF.out]; rfl, below_setRow hb0 (by omega) _⟩
  ·have hkb : (K[j].1.kind == 1) = false := beq_eq_false_iff_ne.2 hk1
   have HF : Hid (rmFgOk (⟨ctx, evsOf K, dead⟩ : RM) d = true) := by rw [Hid, hval, decide_eq_false hk1]; rfl
   clear hHd hval hk1 h2
   go_enter Tryz.func18, Tryz.ntmps18
   go_upto_region 1 with fail
   refine wp_name (fun V hV => ?_)
   obtain ⟨hb0, x0, x1, x2, D0, D1, D2, hZ, hI0⟩ := rmHead hV.out hI
   clear hV hI
   go_upto_region 2 with (go_at_call 81; (with_reducible refine (HFi.out _ hI0.kept).mono ?_); rintro v w1 ⟨rfl, hb1⟩)
   replace x0 := kept hb1 x0
   replace x1 := kept hb1 x1
   replace x2 := kept hb1 x2
   replace D0 := kept hb1 D0
   replace D1 := kept hb1 D1
   replace D2 := kept hb1 D2
   replace hZ := (hb1.block _ (lt_of_block hZ)).trans hZ
   replace hI0 := hI0.keep hb1
   replace hb0 := hb0.trans (hb1.mono hb0.size)
   clear hb1
   obtain ⟨A, off, haK, hra, _⟩ := hI0.kept.at hj
   simp only at haK
   subst haK
   have r1 := hra j hj
   have r6 : w1.cell? ⟨A, off + j * 19 + 6, none⟩ = some (.int .i64 K[j].1.kind) := r1 6 _ rfl
   clear hra r1
   go_upto_region 4 with fail
   clear r6
   refine wp_name (fun W hW => ?_)
   have hbW : Below w1.heap.size w1 W.drew := by rw [hW.out]; go_grown
   have v0 := kept hbW x0
   have v1 := kept hbW x1
   have v2 := kept hbW x2
   have vI := hI0.keep hbW
   have vZ := (hbW.block _ (lt_of_block hZ)).trans hZ
   have hb0W := hb0.trans (hbW.mono hb0.size)
   have hzB : w.heap.size + 1 + 1 < W.drew.heap.size := lt_of_block vZ
   have hww : IntKind.i64.wrap ((j : Int) + 1) = (j : Int) + 1 := IntWalk.i64_in _ (by omega)
   have hKc : K.length ≤ cK := vI.cK
   have hcut : ∀ X, (Instr.sliceAt 28 (.slice (some ⟨A, off, none⟩) K.length cK) none (some (.int .i64 (j : Nat))) none).run Tryz.prog X = .ok (.slice (some ⟨A, off, none⟩) j cK) X := fun X => run_cut_hi X _ _ i0 (some ⟨A, off, none⟩) K.length cK .i64 j Tryz.underlying28 hi (by omega)
   have hcut2 : ∀ X, (Instr.sliceAt 28 (.slice (some ⟨A, off, none⟩) K.length cK) (some (.int .i64 ((j : Int) + 1))) none none).run Tryz.prog X = .ok (.slice (cutA (some ⟨A, off, none⟩) cK (j + 1) 19) (K.length - (j + 1)) (cK - (j + 1))) X := fun X => by
        have hj1 : j + 1 ≤ K.length := hj
        exact run_cut_lo X 28 43 i0 (some ⟨A, off, none⟩) K.length cK .i64 (j + 1) 19 Tryz.underlying28 hi hz1 hj1
   have hinW := vI.kept.cells
   have hR1 : ∀ X, Below W.drew.heap.size W.drew X → CellsIn X (some ⟨A, off, none⟩) (evItCells (K.take j)) := fun X h => by rw [← evIt_take]; exact (hinW.kept h).take _
   have hR2 : ∀ X, Below W.drew.heap.size W.drew X → CellsIn X (cutA (some ⟨A, off, none⟩) cK (j + 1) 19) (evItCells (K.drop (j + 1))) := fun X h => by rw [← evIt_drop]; exact (hinW.kept h).cut (evIt_length K) hKc (j + 1)
   have l1 : (evItCells (K.take j)).length = j * 19 := by rw [evIt_length, List.length_take, Nat.min_eq_left (by omega)]
   have l2 : (evItCells (K.drop (j + 1))).length = (K.length - (j + 1)) * 19 := by rw [evIt_length, List.length_drop]
   clear hW hbW x0 x1 x2 D0 D1 D2 hI0 hZ hb0
   refine wp_region_noPanic ?_
   refine wp_region_held_drew (S := fun W' => Below W.drew.heap.size W.drew W') (by kernel_rfl) (Below.refl _ _) (fun hHeld => ?_)
   refine tH (v := ?_) 1 32 rfl (Or.inl ⟨by rfl, ?_⟩) ?_
   case refine_2 => (intro w hSw; have s0 := kept hSw v0; have s1 := kept hSw v1; have s2 := kept hSw v2; go_simp; try with_reducible rfl)
   try simp only [pS]
   refine tH (v := ?_) 2 33 rfl (Or.inl ⟨by rfl, ?_⟩) ?_
   case refine_2 => (intro w hSw; have s0 := kept hSw v0; have s1 := kept hSw v1; have s2 := kept hSw v2; go_simp; try with_reducible rfl)
   try simp only [pS]
   refine tH (v := ?_) 3 34 rfl (Or.inl ⟨by rfl, ?_⟩) ?_
   case refine_2 => (intro w hSw; have s0 := kept hSw v0; have s1 := kept hSw v1; have s2 := kept hSw v2; go_simp; try with_reducible rfl)
   try simp only [pS]
   refine tH 4 35 rfl (Or.inl ⟨by rfl, fun W hSW => exec_slice _ _ _ _ _ rfl _ (hcut W)⟩) ?_
   try simp only [pS]
   refine tH (v := ?_) 6 37 rfl (Or.inl ⟨by rfl, ?_⟩) ?_
   case refine_2 => (intro w hSw; have s0 := kept hSw v0; have s1 := kept hSw v1; have s2 := kept hSw v2; go_simp; try with_reducible rfl)
   try simp only [pS]
   refine tH (v := ?_) 7 38 rfl (Or.inl ⟨by rfl, ?_⟩) ?_
   case refine_2 => (intro w hSw; have s0 := kept hSw v0; have s1 := kept hSw v1; have s2 := kept hSw v2; go_simp; try with_reducible rfl)
   try simp only [pS]
   refine tH (v := ?_) 8 39 rfl (Or.inl ⟨by rfl, ?_⟩) ?_
   case refine_2 => (intro w hSw; have s0 := kept hSw v0; have s1 := kept hSw v1; have s2 := kept hSw v2; go_simp; try with_reducible rfl)
   try simp only [pS]
   refine tH (v := ?_) 9 40 rfl (Or.inl ⟨by rfl, ?_⟩) ?_
   case refine_2 => (intro w hSw; have s0 := kept hSw v0; have s1 := kept hSw v1; have s2 := kept hSw v2; go_simp; try with_reducible rfl)
   try simp only [pS]
   refine tH 10 41 rfl (Or.inl ⟨by rfl, fun W hSW => exec_slice _ _ _ _ _ rfl _ (hcut2 W)⟩) ?_
   try simp only [pS]
   refine wpAnyH_ready (rs := [0]) (by kernel_rfl) (by simp) ?_
   refine AllReadyH.cons (o := ⟨some 31, _, _, _, _, _⟩) rfl (fun KK hKK => ?_) AllReadyH.nil
   refine step_build_nil (by rfl) 28 43 rfl i0 _ 19 Tryz.underlying28 hi hz0 hz1 (by decide) ?_
   intro v0' X0 hown0 hbel0
   refine hKK.out _ _ ?_ (fun hHeld2 => ?_)
   ·exact hHeld.trans (hbel0.mono hHeld.size)
   clear hKK KK hHeld
   have hHeld := hHeld2
   clear hHeld2
   try simp only [pS]
   replace hown0 := own_base hown0 (b2 := W.drew.heap.size) (by first | exact Nat.le_refl _ | simp)
   refine wpAnyH_ready (rs := [5]) (by kernel_rfl) (by simp) ?_
   refine AllReadyH.cons (o := ⟨some 36, _, _, _, _, _⟩) rfl (fun KK hKK => ?_) AllReadyH.nil
   refine step_append_cells (by rfl) (.tmp 31) (.tmp 35) 28 rfl W.drew.heap.size 43 i0 _ 19 176 Tryz.underlying28 hi hz0 hz1 hz2 rfl (by decide) _ 0 _ rfl hown0 (some ⟨A, off, none⟩) j cK (evItCells (K.take j)) rfl l1 (hR1 _ hHeld) (evIt_one _) (by first | omega | (unfold maxLen; omega)) (by first | omega | (unfold maxLen; omega)) hHeld.size ?_
   intro v1' X1 hown1 hg1
   refine hKK.out _ _ ?_ (fun hHeld2 => ?_)
   ·exact hHeld.grown hg1 hHeld.size (fun k hk => (hown0.lt k hk).1)
   clear hKK KK hHeld
   have hHeld := hHeld2
   clear hHeld2
   try simp only [pS]
   refine wpAnyH_ready (rs := [11]) (by kernel_rfl) (by simp) ?_
   refine AllReadyH.cons (o := ⟨some 42, _, _, _, _, _⟩) rfl (fun KK hKK => ?_) AllReadyH.nil
   refine step_append_cells (by rfl) (.tmp 36) (.tmp 41) 28 rfl W.drew.heap.size 43 i0 _ 19 176 Tryz.underlying28 hi hz0 hz1 hz2 rfl (by decide) _ (0 + j) _ rfl hown1 (cutA (some ⟨A, off, none⟩) cK (j + 1) 19) (K.length - (j + 1)) (cK - (j + 1)) (evItCells (K.drop (j + 1))) rfl l2 (hR2 _ hHeld) (evIt_one _) (by first | omega | (unfold maxLen; omega)) (by first | omega | (unfold maxLen; omega)) hHeld.size ?_
   intro v2' X2 hown2 hg2
   refine hKK.out _ _ ?_ (fun hHeld2 => ?_)
   ·exact hHeld.grown hg2 hHeld.size (fun k hk => (hown1.lt k hk).1)
   clear hKK KK hHeld
   have hHeld := hHeld2
   clear hHeld2
   try simp only [pS]
   refine tH (v := ?_) 12 7 rfl (Or.inl ⟨by rfl, ?_⟩) ?_
   case refine_2 => (intro w hSw; go_simp; try with_reducible rfl)
   try simp only [pS]
   refine wpAnyH_done (by kernel_rfl) ?_ _
   refine NoPanic.normal ?_
   have e1 : [] ++ evItCells (K.take j) ++ evItCells (K.drop (j + 1)) = evItCells (rmAt K j) := by unfold rmAt; simp [evItCells]
   have e2 : 0 + j + (K.length - (j + 1)) = (rmAt K j).length := by rw [rmAt_len hj]; omega
   rw [e1, e2] at hown2
   obtain ⟨a2, c2, rfl, hcell2, hc2⟩ := own_cellsIn hown2
   obtain ⟨a3, c3, he3, hin3⟩ := evsIn_own hown2 (fun z hz => (vI.kept.dots z (rmAt_mem hz)).kept hHeld)
   obtain ⟨rfl, rfl⟩ : a2 = a3 ∧ c2 = c3 := by cases he3; exact ⟨rfl, rfl⟩
   have vc0 := kept hHeld v0
   have vc2 := kept hHeld v2
   have hZ := (hHeld.block _ hzB).trans vZ
   have hI9 : RMIn X2 ⟨ac, ctx, cc, a2, rmAt K j, c2, ad, dead, cd⟩ := ⟨vI.ctx.kept hHeld, hin3, vI.dead.kept hHeld, vI.cc, hc2, vI.cd⟩
   have hb9 := hb0W.trans (hHeld.mono hb0W.size)
   have HQ := Lib.hid (And.intro hI9 hb9)
   clear e1 e2 hown0 hown1 hown2 hHeld hR1 hR2 l1 l2 hcut hcut2 hinW hin3 hcell2 hc2 he3 hg1 hg2 hbel0 v0 v1 v2 vI vZ hb0W hI9 hb9 hKc
   go_wp2_with (refine wpList_store_row rfl 31 _ _ rfl (w.heap.size + 1 + 1) #[.slice ac ctx.length cc, .slice a2 (rmAt K j).length c2, .slice ad dead.length cd] rfl rfl 31 _ hZ (by kernel_rfl) rfl (by kernel_rfl) ?_)
   refine ret_cell_tmp 4 5 31 31 (w.heap.size + 1 + 1) #[.slice ac ctx.length cc, .slice a2 (rmAt K j).length c2, .slice ad dead.length cd] _ _ rfl rfl rfl (setRow_heap _ _ _ _ _ _ hZ) Tryz.underlying31 rfl (by kernel_rfl) rfl ?_
   exact ⟨⟨ac, ctx, cc, a2, rmAt K j, c2, ad, dead, cd⟩, by rw [HF.out]; rfl, set3_in HQ.out.1 (slz hZ), by unfold rmFg; rw [HF.out, if_pos rfl]; show (⟨ctx, evsOf (rmAt K j), dead⟩ : RM) = _; rw [HFL.out], below_setRow HQ.out.2 (by omega) _⟩
/-! ### Bare -/
theorem rBare21_any (x : RMIt) (d : Dot) (w : World) (hK : x.K.length ≤ 4096) (hnd : ((evsOf x.K).map (·.dot)).Nodup) (hI : RMIn w x) :
 Calls Tryz.prog 20 #[rmVal x, dotVal d] w (RetRF (rmBr x.rm d) (rmBrOk x.rm d) w) := by
 obtain ⟨ac, ctx, cc, aK, K, cK, ad, dead, cd⟩ := x
 simp only at hK hnd
 show Calls Tryz.prog 20 #[.agg #[.slice ac ctx.length cc, .slice aK K.length cK, .slice ad dead.length cd], dotVal d] w (RetRF (rmBr ⟨ctx, evsOf K, dead⟩ d) (rmBrOk ⟨ctx, evsOf K, dead⟩ d) w)
 obtain ⟨i0, hi, hz0, hz1, hz2⟩ := info_parts Tryz.infoEv
 have hFi := fun (X : World) (h : EvsIn X aK K) => rFindE_any aK cK K d X (by omega) h
 have hun : rmBrOk (⟨ctx, evsOf K, dead⟩ : RM) d = (evsOf K).any fun e => decide (e.dot = d) && (decide (e.kind = 1) && !decide (e.over.length = 0)) := rfl
 rcases findAt_cases K 0 d with ⟨h1, h2⟩ | ⟨j, hj, h1, h2⟩
 ·have HF : Hid (rmBrOk (⟨ctx, evsOf K, dead⟩ : RM) d = false) := by
   unfold Hid
   rw [hun]
   exact any_no (fun e he => by obtain ⟨z, hz, rfl⟩ := List.mem_map.1 he; exact h2 z hz)
  rw [h1] at hFi
  have HFi := Lib.hid hFi
  clear hFi h1 h2 hun hnd
  go_enter Tryz.func20, Tryz.ntmps20
  go_upto_region 1 with fail
  refine wp_name (fun V hV => ?_)
  obtain ⟨hb0, x0, x1, x2, D0, D1, D2, hZ, hI0⟩ := rmHead hV.out hI
  clear hV hI
  go_upto_region 2 with (go_at_call 81; (with_reducible refine (HFi.out _ hI0.kept).mono ?_); rintro v w1 ⟨rfl, hb1⟩)
  replace x0 := kept hb1 x0
  replace x1 := kept hb1 x1
  replace x2 := kept hb1 x2
  replace D0 := kept hb1 D0
  replace D1 := kept hb1 D1
  replace D2 := kept hb1 D2
  replace hZ := (hb1.block _ (lt_of_block hZ)).trans hZ
  replace hI0 := hI0.keep hb1
  replace hb0 := hb0.trans (hb1.mono hb0.size)
  clear hb1
  go_upto_region 3 with fail
  go_wp2_with (refine wpList_store_row rfl 31 _ _ rfl (w.heap.size + 1 + 1) #[.slice ac ctx.length cc, .slice aK K.length cK, .slice ad dead.length cd] rfl rfl 31 #[.slice none 0 0, .slice none 0 0, .slice none 0 0] hZ (by kernel_rfl) rfl (by kernel_rfl) ?_)
  refine ret_cell_tmp 4 5 31 31 (w.heap.size + 1 + 1) #[.slice ac ctx.length cc, .slice aK K.length cK, .slice ad dead.length cd] _ _ rfl rfl rfl (setRow_heap _ _ _ _ _ _ hZ) Tryz.underlying31 rfl (by kernel_rfl) rfl ?_
  exact ⟨⟨ac, ctx, cc, aK, K, cK, ad, dead, cd⟩, by rw [HF.out]; rfl, set3_in hI0 (slz hZ), by unfold rmBr; rw [HF.out]; rfl, below_setRow hb0 (by omega) _⟩
 ·have hmem : K[j].1 ∈ evsOf K := List.mem_map_of_mem (List.getElem_mem hj)
  have hval : rmBrOk (⟨ctx, evsOf K, dead⟩ : RM) d = (decide (K[j].1.kind = 1) && !decide (K[j].1.over.length = 0)) := by
   rw [hun, ← h2]
   exact any_at (p := fun e => decide (e.kind = 1) && !decide (e.over.length = 0)) hnd hmem
  have hfil := baAt_map hnd hj
  rw [h2] at hfil
  have HFL := Lib.hid hfil
  rw [h1, Nat.zero_add] at hFi
  have HFi := Lib.hid hFi
  have hji : decide ((j : Int) < 0) = false := decide_eq_false (by omega)
  clear hFi h1 hun hfil hmem hnd h2
  by_cases hk1 : K[j].1.kind = 1
  case neg =>
   have hkb : (K[j].1.kind != 1) = true := bne_iff_ne.2 hk1
   have HF : Hid (rmBrOk (⟨ctx, evsOf K, dead⟩ : RM) d = false) := by rw [Hid, hval, decide_eq_false hk1]; rfl
   clear hval hk1
   go_enter Tryz.func20, Tryz.ntmps20
   go_upto_region 1 with fail
   refine wp_name (fun V hV => ?_)
   obtain ⟨hb0, x0, x1, x2, D0, D1, D2, hZ, hI0⟩ := rmHead hV.out hI
   clear hV hI
   go_upto_region 2 with (go_at_call 81; (with_reducible refine (HFi.out _ hI0.kept).mono ?_); rintro v w1 ⟨rfl, hb1⟩)
   replace x0 := kept hb1 x0
   replace x1 := kept hb1 x1
   replace x2 := kept hb1 x2
   replace D0 := kept hb1 D0
   replace D1 := kept hb1 D1
   replace D2 := kept hb1 D2
   replace hZ := (hb1.block _ (lt_of_block hZ)).trans hZ
   replace hI0 := hI0.keep hb1
   replace hb0 := hb0.trans (hb1.mono hb0.size)
   clear hb1
   obtain ⟨A, off, haK, hra, _⟩ := hI0.kept.at hj
   simp only at haK
   subst haK
   have r1 := hra j hj
   have r6 : w1.cell? ⟨A, off + j * 19 + 6, none⟩ = some (.int .i64 K[j].1.kind) := r1 6 _ rfl
   have r18 : w1.cell? ⟨A, off + j * 19 + 18, none⟩ = some (.slice K[j].2.1 K[j].1.over.length K[j].2.2) := r1 18 _ rfl
   clear hra r1
   go_upto_region 3 with fail
   clear r6 r18
   go_wp2_with (refine wpList_store_row rfl 31 _ _ rfl (w.heap.size + 1 + 1) #[.slice ac ctx.length cc, .slice (some ⟨A, off, none⟩) K.length cK, .slice ad dead.length cd] rfl rfl 31 #[.slice none 0 0, .slice none 0 0, .slice none 0 0] hZ (by kernel_rfl) rfl (by kernel_rfl) ?_)
   refine ret_cell_tmp 4 5 31 31 (w.heap.size + 1 + 1) #[.slice ac ctx.length cc, .slice (some ⟨A, off, none⟩) K.length cK, .slice ad dead.length cd] _ _ rfl rfl rfl (setRow_heap _ _ _ _ _ _ hZ) Tryz.underlying31 rfl (by kernel_rfl) rfl ?_
   exact ⟨⟨ac, ctx, cc, (some ⟨A, off, none⟩), K, cK, ad, dead, cd⟩, by rw [HF.out]; rfl, set3_in hI0 (slz hZ), by unfold rmBr; rw [HF.out]; rfl, below_setRow hb0 (by omega) _⟩
  have hkb : (K[j].1.kind != 1) = false := bne_eq_false_iff_eq.2 hk1
  by_cases h0 : K[j].1.over.length = 0
  case pos =>
   have hlb : ((K[j].1.over.length : Int) == 0) = true := beq_iff_eq.2 (by omega)
   have HF : Hid (rmBrOk (⟨ctx, evsOf K, dead⟩ : RM) d = false) := by rw [Hid, hval, decide_eq_true h0]; simp
   clear hval hk1 h0
   go_enter Tryz.func20, Tryz.ntmps20
   go_upto_region 1 with fail
   refine wp_name (fun V hV => ?_)
   obtain ⟨hb0, x0, x1, x2, D0, D1, D2, hZ, hI0⟩ := rmHead hV.out hI
   clear hV hI
   go_upto_region 2 with (go_at_call 81; (with_reducible refine (HFi.out _ hI0.kept).mono ?_); rintro v w1 ⟨rfl, hb1⟩)
   replace x0 := kept hb1 x0
   replace x1 := kept hb1 x1
   replace x2 := kept hb1 x2
   replace D0 := kept hb1 D0
   replace D1 := kept hb1 D1
   replace D2 := kept hb1 D2
   replace hZ := (hb1.block _ (lt_of_block hZ)).trans hZ
   replace hI0 := hI0.keep hb1
   replace hb0 := hb0.trans (hb1.mono hb0.size)
   clear hb1
   obtain ⟨A, off, haK, hra, _⟩ := hI0.kept.at hj
   simp only at haK
   subst haK
   have r1 := hra j hj
   have r6 : w1.cell? ⟨A, off + j * 19 + 6, none⟩ = some (.int .i64 K[j].1.kind) := r1 6 _ rfl
   have r18 : w1.cell? ⟨A, off + j * 19 + 18, none⟩ = some (.slice K[j].2.1 K[j].1.over.length K[j].2.2) := r1 18 _ rfl
   clear hra r1
   go_upto_region 3 with fail
   clear r6 r18
   go_wp2_with (refine wpList_store_row rfl 31 _ _ rfl (w.heap.size + 1 + 1) #[.slice ac ctx.length cc, .slice (some ⟨A, off, none⟩) K.length cK, .slice ad dead.length cd] rfl rfl 31 #[.slice none 0 0, .slice none 0 0, .slice none 0 0] hZ (by kernel_rfl) rfl (by kernel_rfl) ?_)
   refine ret_cell_tmp 4 5 31 31 (w.heap.size + 1 + 1) #[.slice ac ctx.length cc, .slice (some ⟨A, off, none⟩) K.length cK, .slice ad dead.length cd] _ _ rfl rfl rfl (setRow_heap _ _ _ _ _ _ hZ) Tryz.underlying31 rfl (by kernel_rfl) rfl ?_
   exact ⟨⟨ac, ctx, cc, (some ⟨A, off, none⟩), K, cK, ad, dead, cd⟩, by rw [HF.out]; rfl, set3_in hI0 (slz hZ), by unfold rmBr; rw [HF.out]; rfl, below_setRow hb0 (by omega) _⟩
  have hlb : ((K[j].1.over.length : Int) == 0) = false := beq_eq_false_iff_ne.2 (by omega)
  have HF : Hid (rmBrOk (⟨ctx, evsOf K, dead⟩ : RM) d = true) := by rw [Hid, hval, decide_eq_true hk1, decide_eq_false h0]; rfl
  clear hval hk1 h0
  go_enter Tryz.func20, Tryz.ntmps20
  go_upto_region 1 with fail
  refine wp_name (fun V hV => ?_)
  obtain ⟨hb0, x0, x1, x2, D0, D1, D2, hZ, hI0⟩ := rmHead hV.out hI
  clear hV hI
  go_upto_region 2 with (go_at_call 81; (with_reducible refine (HFi.out _ hI0.kept).mono ?_); rintro v w1 ⟨rfl, hb1⟩)
  replace x0 := kept hb1 x0
  replace x1 := kept hb1 x1
  replace x2 := kept hb1 x2
  replace D0 := kept hb1 D0
  replace D1 := kept hb1 D1
  replace D2 := kept hb1 D2
  replace hZ := (hb1.block _ (lt_of_block hZ)).trans hZ
  replace hI0 := hI0.keep hb1
  replace hb0 := hb0.trans (hb1.mono hb0.size)
  clear hb1
  obtain ⟨A, off, haK, hra, _⟩ := hI0.kept.at hj
  simp only at haK
  subst haK
  have r1 := hra j hj
  have r6 : w1.cell? ⟨A, off + j * 19 + 6, none⟩ = some (.int .i64 K[j].1.kind) := r1 6 _ rfl
  have r18 : w1.cell? ⟨A, off + j * 19 + 18, none⟩ = some (.slice K[j].2.1 K[j].1.over.length K[j].2.2) := r1 18 _ rfl
  clear hra r1
  go_upto_region 4 with fail
  clear r6 r18
  have hal := (Below.refl w1.heap.size w1).alloc (Nat.le_refl _) (Obj.cells #[] 43)
  have hown0 : (w1.alloc (Obj.cells #[] 43)).ownsRow w1.heap.size 43 19 (.slice (some ⟨w1.heap.size, 0, none⟩) 0 0) 0 [] := World.ownsRow_made _ _ _ (Nat.le_refl _) (by decide) rfl
  have hinC := (hI0.kept.kept hal).cells
  have hlenK := evIt_length K
  have y1 := kept hal x1
  go_upto_region 5 with (at_builtin; go_loud (refine wpList_append_cells rfl _ _ 28 rfl w1.heap.size 43 i0 (.agg (evCells ev0 none 0).toArray) 19 176 Tryz.underlying28 hi hz0 hz1 hz2 rfl (by decide) _ _ _ rfl hown0 (some ⟨A, off, none⟩) _ cK (evItCells K) rfl hlenK hinC (evIt_one _) (by unfold maxLen; omega) (by omega) hal.size ?_); intro v' wf hownf hgrow)
  have hbF : Below w1.heap.size w1 wf := hal.grown hgrow hal.size (fun q hq => (hown0.lt q hq).1)
  rcases hownf.2 with ⟨_, h9⟩ | ⟨g, cap, cur, rfl, hbg, hgf, hnc, hcm, hsz, htk⟩
  ·omega
  have hrow : ∀ i (h : i < K.length), wf.rangeAt g (i * 19) (itEv K[i]) := fun i h o v hv => by
   have h8 : (evItCells K)[i * 19 + o]? = some v := evItCells_at K i o v h hv
   have h7 := World.ownsRow.cells (g := g) hownf rfl (i * 19 + o) v (by simpa using h8)
   rw [Addr.add_mid, Nat.zero_add] at h7
   exact h7
  have hdd : ∀ x ∈ K, DotsIn wf x.2.1 x.1.over := fun x hx => (hI0.kept.dots x hx).kept hbF
  have hne : ∀ x ∈ K, ∀ A off, x.2.1 = some ⟨A, off, none⟩ → x.1.over ≠ [] → A ≠ g := fun x hx A2 off2 h1 h2 e9 => by
   rcases hI0.kept.dots x hx with h | ⟨A3, off3, h3, h4⟩
   ·exact h2 h
   ·rw [h1] at h3
    simp only [Option.some.injEq, Addr.mk.injEq, and_true] at h3
    have h5 := World.block_lt_of_cell? w1 _ (h4.dev 0 (List.length_pos_iff.2 h2))
    simp only at h5
    omega
  have HBR := Lib.hid (bare_row (j := j) hgf hrow hdd hne)
  have z18 : wf.cell? ⟨g, j * 19 + 18, none⟩ = some (.slice K[j].2.1 K[j].1.over.length K[j].2.2) := hrow j hj 18 _ rfl
  have zf : wf.frozen? ⟨g, j * 19 + 18, none⟩ = false := by simp [World.frozen?, hgf]
  have hgb : wf.heap.size > g := lt_of_block hgf
  have hbS : Below w1.heap.size w1 (wf.setCell ⟨g, j * 19 + 18, none⟩ (.slice none 0 0)) := by
   rw [setCell_eq_setRow _ _ _ _ _ _ _ hgf]
   exact below_setRow hbF hbg _
  have HC : Hid (K.length ≤ cap) := by unfold Hid; omega
  clear hal hown0 hinC hlenK y1 hownf hgrow hrow hdd hne hsz htk hcm hnc hbF
  go_upto_region 6 with fail
  refine wp_name (fun W hW => ?_)
  have hWe : W = wf.setCell ⟨g, j * 19 + 18, none⟩ (.slice none 0 0) := hW.out
  have hEW : EvsIn W (some ⟨g, 0, none⟩) (baAt K j) := by rw [hWe]; exact HBR.out
  rw [← hWe] at hbS
  replace x0 := kept hbS x0
  replace x2 := kept hbS x2
  replace hZ := (hbS.block _ (lt_of_block hZ)).trans hZ
  have hI9 : RMIn W ⟨ac, ctx, cc, some ⟨g, 0, none⟩, baAt K j, cap, ad, dead, cd⟩ := ⟨hI0.ctx.kept hbS, hEW, hI0.dead.kept hbS, hI0.cc, by show (baAt K j).length ≤ cap; rw [baAt_len]; exact HC.out, hI0.cd⟩
  have hb9 := hb0.trans (hbS.mono hb0.size)
  have HQ := Lib.hid (And.intro hI9 hb9)
  have hlb2 := baAt_len K j
  clear hW hWe hEW HBR z18 zf hbS hI9 hb9 hI0 hb0 x1 D0 D1 D2 hgf hgb
  clear hlb2
  go_wp2_with (refine wpList_store_row rfl 31 _ _ rfl (w.heap.size + 1 + 1) #[.slice ac ctx.length cc, .slice (some ⟨g, 0, none⟩) K.length cap, .slice ad dead.length cd] rfl rfl 31 #[.slice none 0 0, .slice none 0 0, .slice none 0 0] hZ (by kernel_rfl) rfl (by kernel_rfl) ?_)
  refine ret_cell_tmp 4 5 31 31 (w.heap.size + 1 + 1) #[.slice ac ctx.length cc, .slice (some ⟨g, 0, none⟩) K.length cap, .slice ad dead.length cd] _ _ rfl rfl rfl (setRow_heap _ _ _ _ _ _ hZ) Tryz.underlying31 rfl (by kernel_rfl) rfl ?_
  exact ⟨⟨ac, ctx, cc, some ⟨g, 0, none⟩, baAt K j, cap, ad, dead, cd⟩, by rw [HF.out]; show _ = Ending.returned (.tuple #[.agg #[.slice ac ctx.length cc, .slice (some ⟨g, 0, none⟩) (baAt K j).length cap, .slice ad dead.length cd], .bool true]); rw [baAt_len]; rfl, set3_in HQ.out.1 (slz hZ), by unfold rmBr; rw [HF.out, if_pos rfl]; show (⟨ctx, evsOf (baAt K j), dead⟩ : RM) = _; rw [HFL.out], below_setRow HQ.out.2 (by omega) _⟩
theorem rClear21_any (x : RMIt) (d : Dot) (w : World) (hK : x.K.length ≤ 4096) (hc : x.ctx.length ≤ 1048576) (hdl : x.dead.length ≤ 1048576) (hI : RMIn w x) :
 Calls Tryz.prog 22 #[rmVal x, dotVal d] w (RetRF (rmCl x.rm d) (rmClOk x.rm d) w) := by
 obtain ⟨ac, ctx, cc, aK, K, cK, ad, dead, cd⟩ := x
 simp only at hK hc hdl
 show Calls Tryz.prog 22 #[.agg #[.slice ac ctx.length cc, .slice aK K.length cK, .slice ad dead.length cd], dotVal d] w (RetRF (rmCl ⟨ctx, evsOf K, dead⟩ d) (rmClOk ⟨ctx, evsOf K, dead⟩ d) w)
 obtain ⟨i0, hi, hz0, hz1, hz2⟩ := info_parts Tryz.infoDot
 have hFi := fun (X : World) (h : EvsIn X aK K) => rFindE_any aK cK K d X (by omega) h
 have hHd := fun (X : World) (h : DotsIn X ad dead) => rHasD_any ad cd dead d X (by omega) h
 have hHm := fun (X : World) (h : DotsIn X ac ctx) => rHasM_any ac cc ctx d X (by omega) h
 have hun : rmClOk (⟨ctx, evsOf K, dead⟩ : RM) d = (decide (d ∈ dead) && (hasM ctx d && !((evsOf K).any fun e => decide (e.dot = d)))) := rfl
 by_cases hdd : d ∈ dead
 case neg =>
  have HF : Hid (rmClOk (⟨ctx, evsOf K, dead⟩ : RM) d = false) := by rw [Hid, hun, decide_eq_false hdd]; rfl
  rw [decide_eq_false hdd] at hHd
  have HHd := Lib.hid hHd
  clear hHd hun hdd hFi hHm
  go_enter Tryz.func22, Tryz.ntmps22
  go_upto_region 1 with fail
  refine wp_name (fun V hV => ?_)
  obtain ⟨hb0, x0, x1, x2, D0, D1, D2, hZ, hI0⟩ := rmHead hV.out hI
  clear hV hI
  go_upto_region 2 with (go_at_call 82; (with_reducible refine (HHd.out _ hI0.dead).mono ?_); rintro v w1 ⟨rfl, hb1⟩; replace x0 := kept hb1 x0; replace x1 := kept hb1 x1; replace x2 := kept hb1 x2; replace D0 := kept hb1 D0; replace D1 := kept hb1 D1; replace D2 := kept hb1 D2; replace hZ := (hb1.block _ (lt_of_block hZ)).trans hZ; replace hI0 := hI0.keep hb1; replace hb0 := hb0.trans (hb1.mono hb0.size); clear hb1)
  go_wp2_with (refine wpList_store_row rfl 31 _ _ rfl (w.heap.size + 1 + 1) #[.slice ac ctx.length cc, .slice aK K.length cK, .slice ad dead.length cd] rfl rfl 31 #[.slice none 0 0, .slice none 0 0, .slice none 0 0] hZ (by kernel_rfl) rfl (by kernel_rfl) ?_)
  refine ret_cell_tmp 4 5 31 31 (w.heap.size + 1 + 1) #[.slice ac ctx.length cc, .slice aK K.length cK, .slice ad dead.length cd] _ _ rfl rfl rfl (setRow_heap _ _ _ _ _ _ hZ) Tryz.underlying31 rfl (by kernel_rfl) rfl ?_
  exact ⟨⟨ac, ctx, cc, aK, K, cK, ad, dead, cd⟩, by rw [HF.out]; rfl, set3_in hI0 (slz hZ), by unfold rmCl; rw [HF.out]; rfl, below_setRow hb0 (by omega) _⟩
 rw [decide_eq_true hdd] at hHd
 have HHd := Lib.hid hHd
 rw [decide_eq_true hdd, Bool.true_and] at hun
 clear hHd hdd
 cases hhm : hasM ctx d with
 | false =>
   have HF : Hid (rmClOk (⟨ctx, evsOf K, dead⟩ : RM) d = false) := by rw [Hid, hun, hhm]; rfl
   rw [hhm] at hHm
   have HHm := Lib.hid hHm
   clear hHm hun hhm hFi
   go_enter Tryz.func22, Tryz.ntmps22
   go_upto_region 1 with fail
   refine wp_name (fun V hV => ?_)
   obtain ⟨hb0, x0, x1, x2, D0, D1, D2, hZ, hI0⟩ := rmHead hV.out hI
   clear hV hI
   go_upto_region 2 with (first | (go_at_call 82; (with_reducible refine (HHd.out _ hI0.dead).mono ?_); rintro v w1 ⟨rfl, hb1⟩; replace x0 := kept hb1 x0; replace x1 := kept hb1 x1; replace x2 := kept hb1 x2; replace D0 := kept hb1 D0; replace D1 := kept hb1 D1; replace D2 := kept hb1 D2; replace hZ := (hb1.block _ (lt_of_block hZ)).trans hZ; replace hI0 := hI0.keep hb1; replace hb0 := hb0.trans (hb1.mono hb0.size); clear hb1) | (go_at_call 37; (with_reducible refine (HHm.out _ hI0.ctx).mono ?_); rintro v w2 ⟨rfl, hb2⟩; replace x0 := kept hb2 x0; replace x1 := kept hb2 x1; replace x2 := kept hb2 x2; replace D0 := kept hb2 D0; replace D1 := kept hb2 D1; replace D2 := kept hb2 D2; replace hZ := (hb2.block _ (lt_of_block hZ)).trans hZ; replace hI0 := hI0.keep hb2; replace hb0 := hb0.trans (hb2.mono hb0.size); clear hb2))
   go_wp2_with (refine wpList_store_row rfl 31 _ _ rfl (w.heap.size + 1 + 1) #[.slice ac ctx.length cc, .slice aK K.length cK, .slice ad dead.length cd] rfl rfl 31 #[.slice none 0 0, .slice none 0 0, .slice none 0 0] hZ (by kernel_rfl) rfl (by kernel_rfl) ?_)
   refine ret_cell_tmp 4 5 31 31 (w.heap.size + 1 + 1) #[.slice ac ctx.length cc, .slice aK K.length cK, .slice ad dead.length cd] _ _ rfl rfl rfl (setRow_heap _ _ _ _ _ _ hZ) Tryz.underlying31 rfl (by kernel_rfl) rfl ?_
   exact ⟨⟨ac, ctx, cc, aK, K, cK, ad, dead, cd⟩, by rw [HF.out]; rfl, set3_in hI0 (slz hZ), by unfold rmCl; rw [HF.out]; rfl, below_setRow hb0 (by omega) _⟩
 | true =>
   rw [hhm] at hHm hun
   have HHm := Lib.hid hHm
   rw [Bool.true_and] at hun
   clear hHm hhm
   rcases findAt_cases K 0 d with ⟨h1, h2⟩ | ⟨j, hj, h1, h2⟩
   case inr =>
    have HF : Hid (rmClOk (⟨ctx, evsOf K, dead⟩ : RM) d = false) := by
        rw [Hid, hun, Bool.not_eq_false', List.any_eq_true]
        exact ⟨K[j].1, List.mem_map_of_mem (List.getElem_mem hj), decide_eq_true h2⟩
    rw [h1, Nat.zero_add] at hFi
    have HFi := Lib.hid hFi
    have hji : decide ((0 : Int) ≤ (j : Int)) = true := decide_eq_true (by omega)
    clear hFi hun h1 h2
    go_enter Tryz.func22, Tryz.ntmps22
    go_upto_region 1 with fail
    refine wp_name (fun V hV => ?_)
    obtain ⟨hb0, x0, x1, x2, D0, D1, D2, hZ, hI0⟩ := rmHead hV.out hI
    clear hV hI
    go_upto_region 2 with (first | (go_at_call 82; (with_reducible refine (HHd.out _ hI0.dead).mono ?_); rintro v w1 ⟨rfl, hb1⟩; replace x0 := kept hb1 x0; replace x1 := kept hb1 x1; replace x2 := kept hb1 x2; replace D0 := kept hb1 D0; replace D1 := kept hb1 D1; replace D2 := kept hb1 D2; replace hZ := (hb1.block _ (lt_of_block hZ)).trans hZ; replace hI0 := hI0.keep hb1; replace hb0 := hb0.trans (hb1.mono hb0.size); clear hb1) | (go_at_call 37; (with_reducible refine (HHm.out _ hI0.ctx).mono ?_); rintro v w2 ⟨rfl, hb2⟩; replace x0 := kept hb2 x0; replace x1 := kept hb2 x1; replace x2 := kept hb2 x2; replace D0 := kept hb2 D0; replace D1 := kept hb2 D1; replace D2 := kept hb2 D2; replace hZ := (hb2.block _ (lt_of_block hZ)).trans hZ; replace hI0 := hI0.keep hb2; replace hb0 := hb0.trans (hb2.mono hb0.size); clear hb2) | (go_at_call 81; (with_reducible refine (HFi.out _ hI0.kept).mono ?_); rintro v w3 ⟨rfl, hb3⟩; replace x0 := kept hb3 x0; replace x1 := kept hb3 x1; replace x2 := kept hb3 x2; replace D0 := kept hb3 D0; replace D1 := kept hb3 D1; replace D2 := kept hb3 D2; replace hZ := (hb3.block _ (lt_of_block hZ)).trans hZ; replace hI0 := hI0.keep hb3; replace hb0 := hb0.trans (hb3.mono hb0.size); clear hb3))
    go_wp2_with (refine wpList_store_row rfl 31 _ _ rfl (w.heap.size + 1 + 1) #[.slice ac ctx.length cc, .slice aK K.length cK, .slice ad dead.length cd] rfl rfl 31 #[.slice none 0 0, .slice none 0 0, .slice none 0 0] hZ (by kernel_rfl) rfl (by kernel_rfl) ?_)
    refine ret_cell_tmp 4 5 31 31 (w.heap.size + 1 + 1) #[.slice ac ctx.length cc, .slice aK K.length cK, .slice ad dead.length cd] _ _ rfl rfl rfl (setRow_heap _ _ _ _ _ _ hZ) Tryz.underlying31 rfl (by kernel_rfl) rfl ?_
    exact ⟨⟨ac, ctx, cc, aK, K, cK, ad, dead, cd⟩, by rw [HF.out]; rfl, set3_in hI0 (slz hZ), by unfold rmCl; rw [HF.out]; rfl, below_setRow hb0 (by omega) _⟩
   have HF : Hid (rmClOk (⟨ctx, evsOf K, dead⟩ : RM) d = true) := by
    rw [Hid, hun, Bool.not_eq_true', List.any_eq_false]
    intro e he h9
    obtain ⟨z, hz, rfl⟩ := List.mem_map.1 he
    exact h2 z hz (by simpa using h9)
   rw [h1] at hFi
   have HFi := Lib.hid hFi
   clear hFi hun h1 h2
   go_enter Tryz.func22, Tryz.ntmps22
   go_upto_region 1 with fail
   refine wp_name (fun V hV => ?_)
   obtain ⟨hb0, x0, x1, x2, D0, D1, D2, hZ, hI0⟩ := rmHead hV.out hI
   clear hV hI
   go_upto_region 3 with (first | (go_at_call 82; (with_reducible refine (HHd.out _ hI0.dead).mono ?_); rintro v w1 ⟨rfl, hb1⟩; replace x0 := kept hb1 x0; replace x1 := kept hb1 x1; replace x2 := kept hb1 x2; replace D0 := kept hb1 D0; replace D1 := kept hb1 D1; replace D2 := kept hb1 D2; replace hZ := (hb1.block _ (lt_of_block hZ)).trans hZ; replace hI0 := hI0.keep hb1; replace hb0 := hb0.trans (hb1.mono hb0.size); clear hb1) | (go_at_call 37; (with_reducible refine (HHm.out _ hI0.ctx).mono ?_); rintro v w2 ⟨rfl, hb2⟩; replace x0 := kept hb2 x0; replace x1 := kept hb2 x1; replace x2 := kept hb2 x2; replace D0 := kept hb2 D0; replace D1 := kept hb2 D1; replace D2 := kept hb2 D2; replace hZ := (hb2.block _ (lt_of_block hZ)).trans hZ; replace hI0 := hI0.keep hb2; replace hb0 := hb0.trans (hb2.mono hb0.size); clear hb2) | (go_at_call 81; (with_reducible refine (HFi.out _ hI0.kept).mono ?_); rintro v w3 ⟨rfl, hb3⟩; replace x0 := kept hb3 x0; replace x1 := kept hb3 x1; replace x2 := kept hb3 x2; replace D0 := kept hb3 D0; replace D1 := kept hb3 D1; replace D2 := kept hb3 D2; replace hZ := (hb3.block _ (lt_of_block hZ)).trans hZ; replace hI0 := hI0.keep hb3; replace hb0 := hb0.trans (hb3.mono hb0.size); clear hb3))
   have hown0 : (w3.alloc (Obj.cells #[] 35)).ownsRow w3.heap.size 35 3 (.slice (some ⟨w3.heap.size, 0, none⟩) 0 0) 0 [] := World.ownsRow_made _ _ _ (Nat.le_refl _) (by decide) rfl
   have hal : Below w3.heap.size w3 (w3.alloc (Obj.cells #[] 35)) := (Below.refl _ _).alloc (Nat.le_refl _) _
   go_wp2
   go_loopw [6, 7] (fun u i wr => ∃ k : Nat, i = .int .i64 k ∧ k ≤ dead.length ∧ wr.ownsRow w3.heap.size 35 3 u ((dead.take k).filter (fun x => decide (x ≠ d))).length (dotVals ((dead.take k).filter (fun x => decide (x ≠ d)))) ∧ Below w3.heap.size w3 wr) (fun _ i _ => dead.length - (intOf i).toNat)
   case atStart => exact ⟨0, rfl, Nat.zero_le _, hown0, hal⟩
   case round =>
    obtain ⟨k, rfl, hk, hown, hB⟩ := hrel
    clear hown0 hal
    obtain ⟨u, hu⟩ : ∃ u, u = u6 := ⟨_, rfl⟩
    rw [← hu] at hown ⊢
    clear hu
    have hzr := hB.size
    replace x0 := kept hB x0
    replace x1 := kept hB x1
    replace x2 := kept hB x2
    replace D0 := kept hB D0
    replace D1 := kept hB D1
    replace D2 := kept hB D2
    have hfl : ((dead.take k).filter (fun x => decide (x ≠ d))).length ≤ 1048576 := by
        have h1 := List.length_filter_le (fun x => decide (x ≠ d)) (dead.take k)
        rw [List.length_take] at h1
        omega
    by_cases hlt : k < dead.length
    ·obtain ⟨A, off, haD, c0, c1, c2⟩ := (hI0.dead.kept hB).at hlt
     simp only at haD c0 c1 c2
     subst haD
     have HT : Hid (dead.take (k + 1) = dead.take k ++ [dead[k]]) := by
      unfold Hid
      rw [List.take_add_one, List.getElem?_eq_getElem hlt]
      rfl
     have HLT := Lib.hid hlt
     have hkl : k ≤ 1048576 := by omega
     generalize dead[k] = x at *
     have hEq := fun (W : World) => eqDot W 9997 x d
     have hm := noGuardDot
     by_cases hxd : x = d
     ·rw [decide_eq_true hxd] at hEq
      have HS : Hid ((dead.take (k + 1)).filter (fun x => decide (x ≠ d)) = (dead.take k).filter (fun x => decide (x ≠ d))) := by
       unfold Hid
       rw [HT.out, List.filter_append]
       simp [hxd]
      clear hxd
      go_upto_region 7 with fail
      refine wp_region_after (by kernel_rfl) (by kernel_rfl) (fun WA hWA => ?_)
      have hbA : Below wr.heap.size wr WA := by rw [hWA.out]; go_grown
      have px2 : ∀ i : After WA, i.w.cell? ⟨w.heap.size, 2, none⟩ = some (.slice (some ⟨A, off, none⟩) dead.length cd) := fun i => i.cell (kept hbA x2)
      have pD0 : ∀ i : After WA, i.w.cell? ⟨w.heap.size + 1, 0, none⟩ = some (.int .i64 d.a.dev) := fun i => i.cell (kept hbA D0)
      have pD1 : ∀ i : After WA, i.w.cell? ⟨w.heap.size + 1, 1, none⟩ = some (.int .i64 d.a.inc) := fun i => i.cell (kept hbA D1)
      have pD2 : ∀ i : After WA, i.w.cell? ⟨w.heap.size + 1, 2, none⟩ = some (.int .i64 d.seq) := fun i => i.cell (kept hbA D2)
      have pc0 : ∀ i : After WA, i.w.cell? ⟨A, off + k * 3, none⟩ = some (.int .i64 x.a.dev) := fun i => i.cell (kept hbA c0)
      have pc1 : ∀ i : After WA, i.w.cell? ⟨A, off + k * 3 + 1, none⟩ = some (.int .i64 x.a.inc) := fun i => i.cell (kept hbA c1)
      have pc2 : ∀ i : After WA, i.w.cell? ⟨A, off + k * 3 + 2, none⟩ = some (.int .i64 x.seq) := fun i => i.cell (kept hbA c2)
      clear hWA
      iterate 7 go_big_quiet_step (fail)
      refine wpQuiet_nil ?_
      rintro _ ⟨i, rfl⟩
      have hiA := i.h
      generalize i.w = wq at hiA ⊢
      have hbY : Below wr.heap.size wr wq := below2 hbA hiA
      clear hbA hiA px2 pD0 pD1 pD2 pc0 pc1 pc2
      have HZ : Hid (wq.ownsRow w3.heap.size 35 3 u ((dead.take (k + 1)).filter (fun x => decide (x ≠ d))).length (dotVals ((dead.take (k + 1)).filter (fun x => decide (x ≠ d)))) ∧ Below w3.heap.size w3 wq) := by
       rw [HS.out]
       exact ⟨ownsRow_below hown hbY, hB.trans (hbY.mono hzr)⟩
      clear hown hbY hB x0 x1 x2 D0 D1 D2 c0 c1 c2 hEq hm
      go_wp2
      go_roundw
      case rel => exact ⟨k + 1, by go_num, HLT.out, HZ.out.1, HZ.out.2⟩
      case measure => have := HLT.out; simp [intOf] <;> omega
     ·rw [decide_eq_false hxd] at hEq
      have HS : Hid ((dead.take (k + 1)).filter (fun x => decide (x ≠ d)) = (dead.take k).filter (fun x => decide (x ≠ d)) ++ [x]) := by
       unfold Hid
       rw [HT.out, List.filter_append]
       simp [hxd]
      clear hxd
      go_upto_region 7 with fail
      refine wp_region_after (by kernel_rfl) (by kernel_rfl) (fun WA hWA => ?_)
      have hbA : Below wr.heap.size wr WA := by rw [hWA.out]; go_grown
      have px2 : ∀ i : After WA, i.w.cell? ⟨w.heap.size, 2, none⟩ = some (.slice (some ⟨A, off, none⟩) dead.length cd) := fun i => i.cell (kept hbA x2)
      have pD0 : ∀ i : After WA, i.w.cell? ⟨w.heap.size + 1, 0, none⟩ = some (.int .i64 d.a.dev) := fun i => i.cell (kept hbA D0)
      have pD1 : ∀ i : After WA, i.w.cell? ⟨w.heap.size + 1, 1, none⟩ = some (.int .i64 d.a.inc) := fun i => i.cell (kept hbA D1)
      have pD2 : ∀ i : After WA, i.w.cell? ⟨w.heap.size + 1, 2, none⟩ = some (.int .i64 d.seq) := fun i => i.cell (kept hbA D2)
      have pc0 : ∀ i : After WA, i.w.cell? ⟨A, off + k * 3, none⟩ = some (.int .i64 x.a.dev) := fun i => i.cell (kept hbA c0)
      have pc1 : ∀ i : After WA, i.w.cell? ⟨A, off + k * 3 + 1, none⟩ = some (.int .i64 x.a.inc) := fun i => i.cell (kept hbA c1)
      have pc2 : ∀ i : After WA, i.w.cell? ⟨A, off + k * 3 + 2, none⟩ = some (.int .i64 x.seq) := fun i => i.cell (kept hbA c2)
      clear hWA
      iterate 7 go_big_quiet_step (fail)
      refine wpQuiet_nil ?_
      rintro _ ⟨i, rfl⟩
      have hiA := i.h
      generalize i.w = wq at hiA ⊢
      have hbY : Below wr.heap.size wr wq := below2 hbA hiA
      clear hbA hiA px2 pD0 pD1 pD2 pc0 pc1 pc2
      have hown5 := ownsRow_below hown hbY
      replace hB := hB.trans (hbY.mono hzr)
      replace x2 := kept hbY x2
      replace c0 := kept hbY c0
      replace c1 := kept hbY c1
      replace c2 := kept hbY c2
      have hz5 := hB.size
      clear hown hbY x0 x1 D0 D1 D2 hEq hm
      go_wp2_with (at_builtin; refine wpList_append_own _ rfl _ _ 29 rfl w3.heap.size 35 i0 (.agg #[.int .i64 0, .int .i64 0, .int .i64 0]) 3 24 Tryz.underlying29 hi hz0 hz1 hz2 rfl (by decide) _ _ _ rfl (hown5.alloc _) ⟨wq.heap.size, 0, none⟩ 1 1 [.int .i64 x.a.dev, .int .i64 x.a.inc, .int .i64 x.seq] rfl rfl (cells_new _ _ _) (by simp [Value.oneCell']) (by unfold maxLen; omega) (by omega) (by simp; omega) ?_; intro v2 w4 hown4 hgrow _)
      have hal4 : Below wq.heap.size wq (wq.alloc (.cells #[.int .i64 x.a.dev, .int .i64 x.a.inc, .int .i64 x.seq] 35)) := (Below.refl _ _).alloc (Nat.le_refl _) _
      have HZ : Hid (w4.ownsRow w3.heap.size 35 3 v2 ((dead.take (k + 1)).filter (fun x => decide (x ≠ d))).length (dotVals ((dead.take (k + 1)).filter (fun x => decide (x ≠ d)))) ∧ Below w3.heap.size w3 w4) := by
       refine ⟨?_, (hB.trans (hal4.mono hz5)).grown hgrow (Nat.le_trans hz5 hal4.size) (fun j hj => (hown5.lt j hj).1)⟩
       rw [HS.out, dotVals_snoc, List.length_append]
       exact hown4
      clear hown4 hgrow hal4 hown5 hB x2 c0 c1 c2
      go_wp2
      go_roundw
      case rel => exact ⟨k + 1, by go_num, HLT.out, HZ.out.1, HZ.out.2⟩
      case measure => have := HLT.out; simp [intOf] <;> omega
    ·obtain rfl : k = dead.length := by omega
     rw [List.take_length] at hown
     generalize hfe : dead.filter (fun x => decide (x ≠ d)) = fl at hown
     have HFE := Lib.hid hfe
     clear hfe
     obtain ⟨a2, c2, rfl, hd2⟩ := own_dots hown
     obtain ⟨a3, c3, he3, _, hc3⟩ := own_cellsIn hown
     obtain ⟨rfl, rfl⟩ := slice_inj he3
     replace hZ := (hB.block _ (lt_of_block hZ)).trans hZ
     have hI9 : RMIn wr ⟨ac, ctx, cc, aK, K, cK, a2, fl, c2⟩ := ⟨hI0.ctx.kept hB, hI0.kept.kept hB, hd2, hI0.cc, hI0.cK, hc3⟩
     have hb9 := hb0.trans (hB.mono hb0.size)
     have HQ := Lib.hid (And.intro hI9 hb9)
     clear hI9 hb9 hd2 he3 hc3 hown hB hI0 hb0
     go_wp2_with (refine wpList_store_row rfl 31 _ _ rfl (w.heap.size + 1 + 1) #[.slice ac ctx.length cc, .slice aK K.length cK, .slice a2 fl.length c2] rfl rfl 31 #[.slice none 0 0, .slice none 0 0, .slice none 0 0] hZ (by kernel_rfl) rfl (by kernel_rfl) ?_)
     refine ret_cell_tmp 4 5 31 31 (w.heap.size + 1 + 1) #[.slice ac ctx.length cc, .slice aK K.length cK, .slice a2 fl.length c2] _ _ rfl rfl rfl (setRow_heap _ _ _ _ _ _ hZ) Tryz.underlying31 rfl (by kernel_rfl) rfl ?_
     exact ⟨⟨ac, ctx, cc, aK, K, cK, a2, fl, c2⟩, by rw [HF.out]; rfl, set3_in HQ.out.1 (slz hZ), by unfold rmCl; rw [HF.out, if_pos rfl, ← HFE.out]; rfl, below_setRow HQ.out.2 (by omega) _⟩
theorem SrtE.filter {l : List Ev} (p : Ev → Bool) (h : SrtE l) : SrtE (l.filter p) := List.Pairwise.sublist List.filter_sublist h
theorem Rel.any_eq {s : MS} {r : RM} (h : Rel s r) (p q : Ev → Bool) (e : ∀ x, p x = q x) : (s.K.any fun x => p x.1) = r.kept.any q := by
 rw [h.kept, Bool.eq_iff_iff, List.any_eq_true, List.any_eq_true]
 constructor
 ·rintro ⟨x, hx, h2⟩
  exact ⟨x.1, (eventsOf_mem h.nd).2 ⟨x, hx, rfl⟩, by rw [← e]; exact h2⟩
 ·rintro ⟨x, hx, h2⟩
  obtain ⟨z, hz, rfl⟩ := (eventsOf_mem h.nd).1 hx
  exact ⟨z, hz, by rw [e]; exact h2⟩
theorem Rel.inDead {s : MS} {r : RM} (h : Rel s r) (d : Dot) : decide (d ∈ s.dead) = decide (d ∈ r.dead) := decide_eq_decide.2 (by rw [h.dead, sortD_mem])
theorem Rel.okFg {s : MS} {r : RM} (h : Rel s r) (d : Dot) : fgOk s d = rmFgOk r d :=
 h.any_eq (fun e => decide (e.dot = d) && (!decide (e.kind = 1) || decide (d ∈ s.dead))) _ fun x => by rw [h.inDead]
theorem Rel.okBr {s : MS} {r : RM} (h : Rel s r) (d : Dot) : brOk s d = rmBrOk r d :=
 h.any_eq (fun e => decide (e.dot = d) && (decide (e.kind = 1) && !decide (e.over.length = 0))) _ fun _ => rfl
theorem inK_any (K : List EvIt) (d : Dot) : inK K d = K.any fun x => decide (x.1.dot = d) := rfl
theorem Rel.okCl {s : MS} {r : RM} (h : Rel s r) (d : Dot) : clOk s d = rmClOk r d := by
 unfold clOk rmClOk
 rw [h.inDead, h.ctx, inK_any, h.any_eq (fun e => decide (e.dot = d)) (fun e => decide (e.dot = d)) fun _ => rfl]
theorem Rel.fg {s : MS} {r : RM} (h : Rel s r) (d : Dot) : Rel (fgMS s d) (rmFg r d) := by
 unfold fgMS rmFg
 rw [h.okFg]
 split
 ·refine ⟨lessK_nd d h.nd, h.ctx, ?_, h.dead⟩
  show r.kept.filter _ = _
  rw [h.kept]
  refine srtE_ext (SrtE.filter _ (eventsOf_srt h.nd)) (eventsOf_srt (s := { s with K := lessK s.K d }) (lessK_nd d h.nd)) fun x => ?_
  rw [List.mem_filter, eventsOf_mem h.nd, eventsOf_mem (s := { s with K := lessK s.K d }) (lessK_nd d h.nd), decide_eq_true_eq]
  constructor
  ·rintro ⟨⟨y, hy, rfl⟩, h2⟩
   exact ⟨y, lessK_mem.2 ⟨hy, h2⟩, rfl⟩
  ·rintro ⟨y, hy, rfl⟩
   exact ⟨⟨y, (lessK_mem.1 hy).1, rfl⟩, (lessK_mem.1 hy).2⟩
 ·exact h
theorem Rel.br {s s' : MS} {r : RM} (h : Rel s r) (d : Dot) (hn : (s'.K.map (·.1.dot)).Nodup) (hs : if brOk s d = true then ∃ y ∈ s.K, y.1.dot = d ∧ s' = { s with K := bareIt y :: lessK s.K d } else s' = s) : Rel s' (rmBr r d) := by
 unfold rmBr
 rw [h.okBr] at hs
 split
 ·rename_i hok
  rw [if_pos hok] at hs
  obtain ⟨y, hy, hyd, rfl⟩ := hs
  refine ⟨hn, h.ctx, ?_, h.dead⟩
  show r.kept.map _ = _
  rw [h.kept]
  refine srtE_ext ?_ (eventsOf_srt hn) fun x => ?_
  ·refine List.pairwise_map.2 ((eventsOf_srt h.nd).imp fun {a b} hab => ?_)
   have e : ∀ z : Ev, (if z.dot = d then bareEv z else z).dot = z.dot := fun z => by split <;> rfl
   rw [e, e]
   exact hab
  ·rw [List.mem_map, eventsOf_mem hn]
   constructor
   ·rintro ⟨z, hz, rfl⟩
    obtain ⟨q, hq, rfl⟩ := (eventsOf_mem h.nd).1 hz
    by_cases hqd : q.1.dot = d
    ·have := same_kept h.nd hq hy (hqd.trans hyd.symm)
     exact ⟨bareIt y, List.mem_cons_self, by rw [if_pos hqd, this]; rfl⟩
    ·exact ⟨q, List.mem_cons_of_mem _ (lessK_mem.2 ⟨hq, hqd⟩), by rw [if_neg hqd]⟩
   ·rintro ⟨q, hq, rfl⟩
    rcases List.mem_cons.1 hq with rfl | hq
    ·exact ⟨y.1, (eventsOf_mem h.nd).2 ⟨y, hy, rfl⟩, by rw [if_pos hyd]; rfl⟩
    ·exact ⟨q.1, (eventsOf_mem h.nd).2 ⟨q, (lessK_mem.1 hq).1, rfl⟩, by rw [if_neg (lessK_mem.1 hq).2]⟩
 ·rename_i hok
  rw [if_neg hok] at hs
  subst hs
  exact h
theorem Rel.cl {s : MS} {r : RM} (h : Rel s r) (d : Dot) : Rel (clMS s d) (rmCl r d) := by
 unfold clMS rmCl
 rw [h.okCl]
 split
 ·refine ⟨h.nd, h.ctx, h.kept, ?_⟩
  show r.dead.filter _ = _
  rw [h.dead]
  refine srtD_ext (List.Pairwise.sublist List.filter_sublist (sortD_srt _)) (sortD_srt _) fun x => ?_
  rw [List.mem_filter, sortD_mem, sortD_mem, List.mem_filter]
 ·exact h
/-- the reference's sizes, of the map's -/
theorem SGood.sizes {s : MS} {n : Nat} {r : RM} (h : SGood s n) (hr : Rel s r) : r.ctx.length ≤ n ∧ r.kept.length ≤ 2048 ∧ r.dead.length ≤ 64 * n := by
 refine ⟨by rw [hr.ctx]; exact h.ctx, by rw [hr.kept, eventsOf_len hr.nd]; exact h.inv.len, ?_⟩
 rw [hr.dead]
 exact Nat.le_trans (sortD_length _) h.dead
end Go.Proofs.YtpbobhfnglikmaaGreat
