/- A file's bytes: add. Conditions: at most 2^30 bytes. -/
import Derived.Test.YtbkelbdeodbhcaaDiskD
set_option linter.unusedSimpArgs false
set_option linter.unusedVariables false
set_option linter.unnecessarySimpa false
namespace Go.Proofs.Ytbkelbdeodbhcaa
open Go.RowKit

set_option maxHeartbeats 800000 in
theorem add_any {w : World} {fb : Nat} {f : DF} {a2 : Option Addr} {l2 : Bytes} {cap2 : Nat} (hb : f.b.length + l2.length ≤ 1073741824) (h : FileAt w fb f) (h2 : BytesIn w a2 l2) :
    Calls Try.prog 36 #[.pointer (some ⟨fb, 0, none⟩), .slice a2 l2.length cap2] w fun e w' => e = .returned (.tuple #[]) ∧ FileAt w' fb { f with b := f.b ++ l2 } ∧ Fr (isR fb) w w' := by
  obtain ⟨a, cap, h1, hin, h3⟩ := h
  obtain ⟨i0, hi, _, hz1, _⟩ := info_parts Try.infoByte
  have hlt : fb < w.heap.size := (Array.getElem?_eq_some_iff.1 h1).1
  have hcut := run_cut_himax (P := Try.prog) w.drew 32 5 i0 a f.b.length cap .i64 .i64 f.b.length f.b.length Try.underlying32 hi (Nat.le_refl _) h3
  have HL := Lib.hid (show (f.b ++ l2).length = f.b.length + l2.length by simp)
  have h1d : w.drew.heap[fb]? = some (.cells #[.slice a f.b.length cap, .int .i64 f.safe] 76 (0, 0)) := h1
  obtain ⟨p0, p1, f0, f1⟩ := two_cell h1d
  have hind : BytesIn w.drew a f.b := hin
  have h2d : BytesIn w.drew a2 l2 := h2
  have HF := Lib.hid hin
  have H1 := Lib.hid h1d
  clear h1 h1d hin h2 h3 hi hz1
  go_enter Try.func36, Try.ntmps36
  go_region_law
    (refine step_append_full (by simp [Region.wanted]) _ _ rfl a a2 f.b l2 cap2 rfl rfl hind h2d hb ?_; intro a' cap' w2 hbel hin2 hcap2; have q0 := kept hbel p0; have g0 := (hbel.frozen (p := ⟨fb, 0, none⟩) hlt).trans f0)
  all_goals
    go_end0
    have hbw : Below w.heap.size w w2 := ((Below.refl w.heap.size w).drew).trans hbel
    have HB : w2.heap[fb]? = some (.cells #[.slice a f.b.length cap, .int .i64 f.safe] 76 (0, 0)) := (hbel.block fb hlt).trans H1.out
    refine ⟨rfl, ⟨a', cap', ?_, hin2.fr (S := isR fb) (fr_set _) (fun k hk => by subst hk; exact NoByte.file HB), hcap2⟩, (Fr.of_below hbw).again (fr_set _)⟩
    first
      | exact two_set0 HB _
      | (rw [show ({ f with b := f.b ++ l2 } : DF).b.length = f.b.length + l2.length from HL.out]; exact two_set0 HB _)
end Go.Proofs.Ytbkelbdeodbhcaa
