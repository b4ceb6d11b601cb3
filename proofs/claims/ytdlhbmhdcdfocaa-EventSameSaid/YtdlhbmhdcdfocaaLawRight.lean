/- The law EventRight, walked. Conditions: none. -/
import Derived.Test.YtdlhbmhdcdfocaaAwake
import Derived.Test.YtdlhbmhdcdfocaaLight
import Derived.Test.YtdlhbmhdcdfocaaRefEvent
set_option linter.unusedSimpArgs false
set_option linter.unusedVariables false
set_option linter.unnecessarySimpa false
namespace Go.Proofs.Ytdlhbmhdcdfocaa
open Go.RowKit

theorem wpQuiet_load_at {P : Program} {ops : Array Oper} {rest : List Oper} {a : Act} {C : World → Prop} {Q : Act → Prop} {dst : Option Tmp} {type : TypeId} {pos : String} {after : Array Edge} {guard : Option (Nat × Bool)} (ty : TypeId) (x : Operand)
    (b o : Nat) (cs : List Value) (d : TypeDesc) (hu : P.underlying ty = some d) (hd : d.isRow = true) (hi : (P.info? ty).map (·.size) = some cs.length)
    (hc : ∀ w, C w → w.rangeAt b o cs)
    (hw : Region.wanted ⟨dst, .load ty x, type, pos, after, guard⟩ (yielded ops a.tmps) = true)
    (hx : a.eval x = .pointer (some ⟨b, o, none⟩))
    (h : wpQuiet P ops C Q rest (a.put dst (.agg cs.toArray))) : wpQuiet P ops C Q (⟨dst, .load ty x, type, pos, after, guard⟩ :: rest) a :=
  BigFrame.wpQuiet_want hw fun K hK => ⟨.agg cs.toArray, fun w hw' => by
    unfold Oper.quietAt execOp
    simp only [hx, Instr.loadAt, Instr.sureAddr, Sem.run_bind, Sem.run_pure, Result.andThen_ok, run_loadVar_mid w b o ty cs d (hc w hw') hu hd hi]
    exact ⟨rfl, rfl⟩, hK _ h⟩
/-- the load of an event out of block b, in a region whose order is open -/
theorem wpQuiet_load_ev {ops : Array Oper} {rest : List Oper} {a : Act} {W : World} {Q : Act → Prop} {dst : Option Tmp} {type : TypeId} {pos : String} {after : Array Edge} {guard : Option (Nat × Bool)} (x : Operand)
    (b : Nat) (e : Ev) (ad : Option Addr) (cap : Nat) (hc : W.rangeAt b 0 (evCells e ad cap))
    (hw : Region.wanted ⟨dst, .load 34 x, type, pos, after, guard⟩ (yielded ops a.tmps) = true)
    (hx : a.eval x = .pointer (some ⟨b, 0, none⟩))
    (h : wpQuiet Try.prog ops (fun w' => ∃ i : After W, w' = i.w) Q rest (a.put dst (evVal e ad cap))) : wpQuiet Try.prog ops (fun w' => ∃ i : After W, w' = i.w) Q (⟨dst, .load 34 x, type, pos, after, guard⟩ :: rest) a :=
  wpQuiet_load_at 34 x b 0 (evCells e ad cap) _ Try.underlying34 rfl (by kernel_rfl) (fun _ hw' => by obtain ⟨i, rfl⟩ := hw'; exact rangeAt_kept hc i.h) hw hx h

set_option maxRecDepth 100000 in
set_option maxHeartbeats 2000000 in
theorem lawRight_any (e : Ev) (a : Option Addr) (cap : Nat) (w : World) (hover : DotsIn w a e.over) (hol : e.over.length ≤ maxLen) (h7 : e.key.name.size ≤ maxLen) (h8 : e.key.domain.size ≤ maxLen) (h9 : e.key.path.size ≤ maxLen) (h10 : e.ck.value.size ≤ maxLen) :
    Calls Try.prog 3 #[evVal e a cap] w fun x w' => x = .returned (.bool true) ∧ Below w.heap.size w w' := by
  have HL0 := fun (W : World) => Light_any e a cap W hol h7 h8 h9 h10
  have HA := Lib.hid awake_any
  go_enter Try.func3, Try.ntmps3
  go_upto_region 1 with fail
  refine wp_name (fun W hW => ?_)
  have hbt : Below w.heap.size w W := by rw [hW.out]; go_grown
  have hR : W.rangeAt w.heap.size 0 (evCells e a cap) := by rw [hW.out]; exact evCells_box e a cap w _
  have ho := hover.kept hbt
  clear hW hover hol h7 h8 h9 h10
  cases hl : light e with
  | false =>
    rw [hl] at HL0
    have HL := Lib.hid HL0
    clear HL0 hl
    go_wp2_with (first
      | ((with_reducible refine wpList_load_ev _ w.heap.size e a cap hR ?_ rfl ?_); exact rfl)
      | (go_at_call 5; (with_reducible refine (HL.out _).mono ?_); rintro x w1 ⟨rfl, hb⟩; replace hbt := below2 hbt hb)
      | (go_at_call 6; (with_reducible refine (HA.out _).mono ?_); rintro x w2 ⟨rfl, hb2⟩; replace hbt := below2 hbt hb2))
    go_ret
    exact ⟨rfl, hbt⟩
  | true =>
    have hs := light_small hl
    rw [hl] at HL0
    have HL := Lib.hid HL0
    clear HL0 hl
    have HR := Lib.hid (fun (W : World) (h : DotsIn W a e.over) => eventRight_any e a cap W hs h)
    have HQ := Lib.hid (fun (W : World) (h : DotsIn W a e.over) => rEventRight_any e a cap W hs h)
    have HI := Lib.hid (fun (W : World) => Item_any e a cap W)
    have hq : ∀ W : World, (Op.equalIn 10000 38 (.agg #[.string e.key.name, .string e.key.domain, .string e.key.path, .string e.ck.value, .bool e.ck.hostOnly, .bool e.ck.secure, .bool e.ck.httpOnly, .bool e.ck.persistent, .int .i64 e.ck.expiry, .int .i64 e.ck.creation, .int .i64 e.ck.access]) (.agg #[.string e.key.name, .string e.key.domain, .string e.key.path, .string e.ck.value, .bool e.ck.hostOnly, .bool e.ck.secure, .bool e.ck.httpOnly, .bool e.ck.persistent, .int .i64 e.ck.expiry, .int .i64 e.ck.creation, .int .i64 e.ck.access])).run Try.prog W = .ok true W := fun W => by
      have h := eqItem W 9997 e.key e.key e.ck e.ck
      simpa using h
    have hm := noGuardItem
    clear hs
    generalize evOk e = ok at HR HQ
    go_upto_region 3 with (first
      | ((with_reducible refine wpList_load_ev _ w.heap.size e a cap hR ?_ rfl ?_); exact rfl)
      | (go_at_call 5; (with_reducible refine (HL.out _).mono ?_); rintro x w1 ⟨rfl, hb⟩; replace hbt := below2 hbt hb; replace hR := rangeAt_kept hR hb; replace ho := ho.kept hb))
    refine wp_region_after (by kernel_rfl) (by kernel_rfl) (fun W2 hW2 => ?_)
    rw [← hW2.out] at hbt hR ho
    have hoI : ∀ i : After W2, DotsIn i.w a e.over := fun i => ho.kept i.h
    have hk : ∀ i : After W2, (i.w.rangeAt w.heap.size 0 (evCells e a cap)) := fun i => rangeAt_kept hR i.h
    have q7 : ∀ i : After W2, i.w.cell? ⟨w.heap.size, 7, none⟩ = some (.string e.key.name) := fun i => by have := hk i 7 _ rfl; rwa [Nat.zero_add] at this
    have q8 : ∀ i : After W2, i.w.cell? ⟨w.heap.size, 8, none⟩ = some (.string e.key.domain) := fun i => by have := hk i 8 _ rfl; rwa [Nat.zero_add] at this
    have q9 : ∀ i : After W2, i.w.cell? ⟨w.heap.size, 9, none⟩ = some (.string e.key.path) := fun i => by have := hk i 9 _ rfl; rwa [Nat.zero_add] at this
    have q10 : ∀ i : After W2, i.w.cell? ⟨w.heap.size, 10, none⟩ = some (.string e.ck.value) := fun i => by have := hk i 10 _ rfl; rwa [Nat.zero_add] at this
    have q11 : ∀ i : After W2, i.w.cell? ⟨w.heap.size, 11, none⟩ = some (.bool e.ck.hostOnly) := fun i => by have := hk i 11 _ rfl; rwa [Nat.zero_add] at this
    have q12 : ∀ i : After W2, i.w.cell? ⟨w.heap.size, 12, none⟩ = some (.bool e.ck.secure) := fun i => by have := hk i 12 _ rfl; rwa [Nat.zero_add] at this
    have q13 : ∀ i : After W2, i.w.cell? ⟨w.heap.size, 13, none⟩ = some (.bool e.ck.httpOnly) := fun i => by have := hk i 13 _ rfl; rwa [Nat.zero_add] at this
    have q14 : ∀ i : After W2, i.w.cell? ⟨w.heap.size, 14, none⟩ = some (.bool e.ck.persistent) := fun i => by have := hk i 14 _ rfl; rwa [Nat.zero_add] at this
    have q15 : ∀ i : After W2, i.w.cell? ⟨w.heap.size, 15, none⟩ = some (.int .i64 e.ck.expiry) := fun i => by have := hk i 15 _ rfl; rwa [Nat.zero_add] at this
    have q16 : ∀ i : After W2, i.w.cell? ⟨w.heap.size, 16, none⟩ = some (.int .i64 e.ck.creation) := fun i => by have := hk i 16 _ rfl; rwa [Nat.zero_add] at this
    have q17 : ∀ i : After W2, i.w.cell? ⟨w.heap.size, 17, none⟩ = some (.int .i64 e.ck.access) := fun i => by have := hk i 17 _ rfl; rwa [Nat.zero_add] at this
    clear hk
    (with_reducible refine wpQuiet_load_ev _ w.heap.size e a cap hR ?_ rfl ?_); exact rfl
    go_simp
    go_big_quiet_step (exact Calls.after (HR.out _ (hoI _)))
    (with_reducible refine wpQuiet_load_ev _ w.heap.size e a cap hR ?_ rfl ?_); exact rfl
    go_simp
    go_big_quiet_step (exact Calls.after (HQ.out _ (hoI _)))
    go_big_quiet_step (fail)
    go_big_quiet_step (fail)
    (with_reducible refine wpQuiet_load_ev _ w.heap.size e a cap hR ?_ rfl ?_); exact rfl
    go_simp
    go_big_quiet_step (exact Calls.after (HI.out _))
    go_big_quiet_step (fail)
    go_big_quiet_step (fail)
    go_big_quiet_step (fail)
    go_big_quiet_step (fail)
    go_big_quiet_step (fail)
    go_big_quiet_step (fail)
    go_big_quiet_step (fail)
    go_big_quiet_step (fail)
    go_big_quiet_step (exact Calls.after (HA.out _))
    go_big_quiet_step (fail)
    go_big_quiet_step (fail)
    refine wpQuiet_nil ?_
    intro i
    have hib := i.h
    clear q7 q8 q9 q10 q11 q12 q13 q14 q15 q16 q17
    generalize i.w = wi at hib ⊢
    replace hbt := below2 hbt hib
    go_wp2
    go_ret
    exact ⟨rfl, hbt⟩
end Go.Proofs.Ytdlhbmhdcdfocaa
