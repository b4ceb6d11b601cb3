/- The disk answers at all; a disk of one's own. Conditions: as in the text. -/
import Derived.Test.YtbkelbdeodbhcaaDCopy
import Derived.Test.YtbkelbdeodbhcaaDiskM
import Derived.Lib.SlBytesConst
set_option linter.unusedSimpArgs false
set_option linter.unusedVariables false
set_option linter.unnecessarySimpa false
namespace Go.Proofs.Ytbkelbdeodbhcaa
open Go.RowKit

variable {F : Nat → Prop} {d : Nat} {S : DS} {b : Nat} {D : DataW Unit} {s : ByteArray} {w w' : World}
theorem Append_any {a2 : Option Addr} {l : Bytes} {cap2 : Nat} (hs : s.size ≤ maxLen) (h : DkIn w F d S b D) (hi : DInv S) (hl : l.length ≤ 1073741824) (hin : BytesIn w a2 l) :
    Calls Try.prog 14 #[.pointer (some ⟨d, 0, none⟩), .string s, .slice a2 l.length cap2] w (RetDk F d b (S.append s l).1 (S.append s l).2 w) := by
  by_cases hok : nameOk s = true
  · cases hg : getF S.f s with
    | none => exact Append_none hs h hi.srt.uniq hi.arm hok hg hl hin
    | some f => exact Append_some hs h hi.srt.uniq hi.arm hi.len hok hg (hi.ok f (getF_mem hg)).len hin
  · have hr : S.append s l = (S, 1) := by unfold DS.append; rw [if_neg hok]
    rw [hr]
    exact Append_form hs h (Bool.eq_false_iff.2 hok)
/-- a disk all of whose blocks are new -/
theorem RetDk.own {B : Nat} {c : Int} {e : Ending} (h : RetDk (fun k => B ≤ k) d b S c w e w') (hB : B ≤ w.heap.size) : e = .returned (.int .i64 c) ∧ (∃ D', DkIn w' (fun k => B ≤ k) d S b D') ∧ Below B w w' := by
  obtain ⟨h1, ⟨D', h2⟩, h3⟩ := h
  exact ⟨h1, ⟨D', h2.mono fun k hk => by rcases hk with hk | hk; exact hk; exact Nat.le_trans hB hk⟩, h3.below hB fun k hk => hk⟩
theorem conv_bytes30 {w : World} {a : Option Addr} {l : Bytes} (h : BytesIn w a l) (n cap : Nat) (hn : n ≤ l.length) : (convert 32 9 (.slice a n cap)).run Try.prog w = .ok (.string (mkS (l.take n))) w := by
  have hlen : (l.take n).length = n := by simp; omega
  cases a with
  | none =>
    have hl : l = [] := by
      rcases h with h | ⟨_, _, h, _⟩
      · exact h
      · cases h
    subst hl
    rw [List.take_nil]
    exact run_convert_bytes_nil w 32 5 Try.underlying32 Try.underlying5 n cap 9 Try.underlying9
  | some ad =>
    have := run_convert_bytes_back (P := Try.prog) w 32 9 5 ad cap (l.take n) Try.underlying32 Try.underlying5 Try.underlying9 (fun j hj => by
      rcases h with h | ⟨A, off, h, hb⟩
      · subst h; simp at hj
      · cases h
        rw [Addr.add_mid, hb j (by simp at hj; omega)]
        simp)
    rw [hlen] at this
    exact this


theorem bytes_lit {w : World} {A : Nat} {l : Bytes} {t : TypeId} {vs : Array Value} {fr : Nat × Nat} (h : w.heap[A]? = some (.cells vs t fr)) (hv : vs.toList = byteVals l) : BytesIn w (some ⟨A, 0, none⟩) l := by
  refine Or.inr ⟨A, 0, rfl, fun j hj => ?_⟩
  rw [Nat.zero_add]
  have : vs[j]? = some (.int .u8 l[j].toNat) := by
    rw [← Array.getElem?_toList, hv]
    simp [byteVals, hj]
  simp [World.cell?, h, this]
theorem conv_same30 (w : World) (C : Array Value) (n c : Nat) : (convert 32 32 (.slice (some ⟨w.heap.size, 0, none⟩) n c)).run Try.prog (w.alloc (.cells C 5)) = .ok (.slice (some ⟨w.heap.size, 0, none⟩) n c) (w.alloc (.cells C 5 (C.size, C.size + 1))) :=
  Lib.run_convert_bytes_const w _ _ C n c Try.underlying32 Try.underlying5
theorem kcs_lit (w : World) (t : TypeId) : CellsIn (w.alloc (.cells #[.string ⟨#[108, 111, 103]⟩, .int .i64 1] t)) (some ⟨w.heap.size, 0, none⟩) (kcs [(⟨#[108, 111, 103]⟩, 1)]) := by
  refine Or.inr ⟨_, _, rfl, fun j v hv => ?_⟩
  rw [Nat.zero_add, World.cell?_alloc_new]
  simpa [kcs] using hv
def logS : ByteArray := ⟨#[108, 111, 103]⟩
def S1 : DS := ((⟨[], 0, false⟩ : DS).append logS [97, 98, 99]).1
def S2 : DS := (S1.sync logS).1
def S3 : DS := (S2.append logS [100, 101]).1
def S4 : DS := S3.crash [(logS, 1)]
theorem s1_eq : S1 = ⟨[⟨logS, [97, 98, 99], 0⟩], 0, false⟩ := by rfl
theorem s2_eq : S2 = ⟨[⟨logS, [97, 98, 99], 3⟩], 0, false⟩ := by rfl
theorem s3_eq : S3 = ⟨[⟨logS, [97, 98, 99, 100, 101], 3⟩], 0, false⟩ := by rfl
theorem s4_eq : S4 = ⟨[⟨logS, [97, 98, 99, 100], 4⟩], 0, false⟩ := by rfl
theorem inv1 : DInv S1 := DInv.new.append _ _
theorem inv2 : DInv S2 := inv1.sync _
theorem inv3 : DInv S3 := inv2.append _ _
theorem inv4 : DInv S4 := inv3.crash _
theorem logS_size : logS.size ≤ maxLen := by decide
theorem Sync_own (h : DkIn w F d S b D) (hi : DInv S) (hs : s.size ≤ maxLen) : Calls Try.prog 21 #[.pointer (some ⟨d, 0, none⟩), .string s] w (RetDk F d b (S.sync s).1 (S.sync s).2 w) := Sync_any hs h hi.arm

set_option maxRecDepth 100000 in
set_option maxHeartbeats 2000000 in
theorem awake30_any (w : World) : Calls Try.prog 7 #[] w fun e w' => e = .returned (.bool true) ∧ Below w.heap.size w w' := by
  have HNW := Lib.hid (New_any w)
  have HA1 : Hid (∀ X D a c, DkIn X (fun k => w.heap.size ≤ k) (w.heap.size + 1) ⟨[], 0, false⟩ w.heap.size D → BytesIn X a [97, 98, 99] → Calls Try.prog 14 #[.pointer (some ⟨w.heap.size + 1, 0, none⟩), .string ⟨#[108, 111, 103]⟩, .slice a 3 c] X
      (RetDk (fun k => w.heap.size ≤ k) (w.heap.size + 1) w.heap.size S1 0 X)) := Lib.hid fun X D a c h hb => Append_any (l := [97, 98, 99]) logS_size h DInv.new (by simp) hb
  have HS2 : Hid (∀ X D, DkIn X (fun k => w.heap.size ≤ k) (w.heap.size + 1) S1 w.heap.size D → Calls Try.prog 21 #[.pointer (some ⟨w.heap.size + 1, 0, none⟩), .string ⟨#[108, 111, 103]⟩] X
      (RetDk (fun k => w.heap.size ≤ k) (w.heap.size + 1) w.heap.size S2 0 X)) := Lib.hid fun X D h => Sync_own h inv1 logS_size
  have HA3 : Hid (∀ X D a c, DkIn X (fun k => w.heap.size ≤ k) (w.heap.size + 1) S2 w.heap.size D → BytesIn X a [100, 101] → Calls Try.prog 14 #[.pointer (some ⟨w.heap.size + 1, 0, none⟩), .string ⟨#[108, 111, 103]⟩, .slice a 2 c] X
      (RetDk (fun k => w.heap.size ≤ k) (w.heap.size + 1) w.heap.size S3 0 X)) := Lib.hid fun X D a c h hb => Append_any (l := [100, 101]) logS_size h inv2 (by simp) hb
  have HC4 : Hid (∀ X D a c, DkIn X (fun k => w.heap.size ≤ k) (w.heap.size + 1) S3 w.heap.size D → CellsIn X a (kcs [(logS, 1)]) → Calls Try.prog 17 #[.pointer (some ⟨w.heap.size + 1, 0, none⟩), .slice a 1 c] X
      fun e w' => e = .returned (.tuple #[]) ∧ DkIn w' (fun k => w.heap.size ≤ k) (w.heap.size + 1) S4 w.heap.size D ∧ Fr (fun k => w.heap.size ≤ k) X w') := Lib.hid fun X D a c h hk => Crash_any (ck := c) [(logS, 1)] h inv3 (by simp) (by intro p hp; simp only [List.mem_singleton] at hp; subst hp; exact ⟨logS_size, by decide⟩) hk
  have HR5 : Hid (∀ X D, DkIn X (fun k => w.heap.size ≤ k) (w.heap.size + 1) S4 w.heap.size D → Calls Try.prog 10 #[.pointer (some ⟨w.heap.size + 1, 0, none⟩), .string ⟨#[108, 111, 103]⟩] X
      fun e w' => ∃ v, e = .returned (.tuple #[v, .int .i64 0]) ∧ w'.ownsRow X.heap.size 5 1 v 4 (byteVals [97, 98, 99, 100]) ∧ Below X.heap.size X w') := Lib.hid fun X D h => Read_yes (f := ⟨logS, [97, 98, 99, 100], 4⟩) logS_size h (by rfl) (by rfl) (by rfl) (by decide)
  have HF6 : Hid (∀ X D, DkIn X (fun k => w.heap.size ≤ k) (w.heap.size + 1) S4 w.heap.size D → Calls Try.prog 13 #[.pointer (some ⟨w.heap.size + 1, 0, none⟩), .string ⟨#[108, 111, 103]⟩] X
      fun e w' => e = .returned (.int .i64 4) ∧ X = w') := Lib.hid fun X D h => Safe_any logS_size h
  have hcv := conv_same30
  go_enter Try.func7, Try.ntmps7
  go_upto_region 2 with (go_at_call 8; (with_reducible refine HNW.out.mono ?_); rintro e w1 ⟨rfl, hN, hb1⟩)
  have hz1 := hb1.size
  go_upto_region 3 with (go_at_call 14; (with_reducible refine (HA1.out _ _ _ _ (hN.below ((Below.refl _ _).alloc (Nat.le_refl _) _)) ?_).mono ?_); exact bytes_lit (heap_last0 _ _) rfl; intro e w2 hr; obtain ⟨rfl, ⟨D2, hD2⟩, hb2⟩ := hr.own (by simp; omega); replace hb2 := (hb1.alloc hz1 _).trans hb2)
  have hz2 := hb2.size
  go_upto_region 4 with (go_at_call 21; (with_reducible refine (HS2.out _ _ hD2).mono ?_); intro e w3 hr; obtain ⟨rfl, ⟨D3, hD3⟩, hb3⟩ := hr.own hz2; replace hb3 := hb2.trans hb3)
  have hz3 := hb3.size
  go_upto_region 5 with (go_at_call 14; (with_reducible refine (HA3.out _ _ _ _ (hD3.below ((Below.refl _ _).alloc (Nat.le_refl _) _)) ?_).mono ?_); exact bytes_lit (heap_last0 _ _) rfl; intro e w4 hr; obtain ⟨rfl, ⟨D4, hD4⟩, hb4⟩ := hr.own (by simp; omega); replace hb4 := (hb3.alloc hz3 _).trans hb4)
  have hz4 := hb4.size
  go_upto_region 6 with (go_at_call 17; (with_reducible refine (HC4.out _ _ _ _ (hD4.below ((Below.refl _ _).alloc (Nat.le_refl _) _)) ?_).mono ?_); exact kcs_lit _ _; rintro e w5 ⟨rfl, hD5, hf5⟩)
  have hb5 : Below w.heap.size w w5 := (hb4.alloc hz4 _).trans (hf5.below (by simp; omega) fun k hk => hk)
  have hz5 := hb5.size
  go_upto_region 7 with (go_at_call 10; (with_reducible refine (HR5.out _ _ hD5).mono ?_); rintro e w6 ⟨v, rfl, hown6, hb6⟩; obtain ⟨a6, c6, rfl, hin6, hc6⟩ := own_bytesIn hown6)
  have hD6 := hD5.below hb6
  have hcv2 := conv_bytes30 hin6 4 c6 (by simp)
  have hst : mkS (List.take 4 ([97, 98, 99, 100] : Bytes)) = (⟨#[97, 98, 99, 100]⟩ : ByteArray) := rfl
  rw [hst] at hcv2
  clear hst
  have hb6w := hb5.trans (hb6.mono hz5)
  go_wp2_with (go_at_call 13; (with_reducible refine (HF6.out _ _ hD6).mono ?_); rintro e w7 ⟨rfl, rfl⟩)
  go_ret
  exact ⟨rfl, hb6w⟩
end Go.Proofs.Ytbkelbdeodbhcaa
