/- The log, plainly: what appending, syncing, clearing, recovering do to a disk. Conditions: none. -/
import Derived.Test.YtohcmljigcdmbaaGreatDStep
import Derived.Test.YtohcmljigcdmbaaGreatRecP
set_option linter.unusedSimpArgs false
set_option linter.unusedVariables false
set_option linter.unnecessarySimpa false
set_option maxHeartbeats 16000000
set_option maxRecDepth 100000
namespace Go.Proofs.YtohcmljigcdmbaaGreat
open Go.RowKit
/-- no log is no error -/
def walBut (c : Int) : Int := if c = 10 then 0 else c
/-- the log's bytes -/
def walB (S : DS) : Bytes := match getF S.f logS with | none => [] | some f => f.b
theorem logS_ok : nameOk logS = true := by decide +kernel
theorem walB_len {S : DS} (h : DInv S) : (walB S).length ≤ 16777216 := by
 unfold walB
 cases hg : getF S.f logS with
 | none => simp
 | some f => exact (h.ok f (getF_mem hg)).len
/-- the disk behind a recovery, the records, how many bytes were cut off, the error -/
def DS.recov (S : DS) : DS × List Rec × Nat × Int :=
 if S.down = true ∧ (getF S.f logS).isSome = true then (S, [], 0, 12)
 else if (recScan (walB S)).2 = (walB S).length then (S, (recScan (walB S)).1, 0, 0)
 else if (S.trunc logS ((recScan (walB S)).2 : Nat)).2 = 0 then ((S.trunc logS ((recScan (walB S)).2 : Nat)).1, (recScan (walB S)).1, (walB S).length - (recScan (walB S)).2, 0)
 else ((S.trunc logS ((recScan (walB S)).2 : Nat)).1, [], 0, (S.trunc logS ((recScan (walB S)).2 : Nat)).2)
theorem recov_up {S : DS} (h : ¬ (S.down = true ∧ (getF S.f logS).isSome = true)) (he : (recScan (walB S)).2 = (walB S).length) : S.recov = (S, (recScan (walB S)).1, 0, 0) := by
 unfold DS.recov; rw [if_neg h, if_pos he]
theorem recov_cut {S : DS} (h : ¬ (S.down = true ∧ (getF S.f logS).isSome = true)) (he : ¬ (recScan (walB S)).2 = (walB S).length) {T : DS} {c : Int} (ht : S.trunc logS ((recScan (walB S)).2 : Nat) = (T, c)) :
 S.recov = if c = 0 then (T, (recScan (walB S)).1, (walB S).length - (recScan (walB S)).2, 0) else (T, [], 0, c) := by
 unfold DS.recov; rw [if_neg h, if_neg he, ht]
theorem DInv.recov {S : DS} (h : DInv S) : DInv S.recov.1 := by
 unfold DS.recov
 split
 ·exact h
 ·split
  ·exact h
  ·split
   ·exact h.trunc _ _
   ·exact h.trunc _ _
/-! ### records appended, some synced, a crash, a recovery -/
/-- a disk that has a log of records alone, so many bytes of it safe -/
def walD (R : List Rec) (sb : Nat) : DS := ⟨if R = [] then [] else [⟨logS, linesB R, sb⟩], 0, false⟩
theorem walD_app (R : List Rec) (sb : Nat) (x : Rec) (h0 : R = [] → sb = 0) (hx : (linesB R).length + (recLine x).length ≤ 16777216) : (walD R sb).append logS (recLine x) = (walD (R ++ [x]) sb, 0) := by
 have hne : R ++ [x] ≠ [] := by simp
 unfold walD
 rw [if_neg hne]
 unfold DS.append
 rw [if_pos logS_ok]
 by_cases hR : R = []
 ·subst hR
  rw [if_pos rfl, h0 rfl]
  have hg : getF ([] : List DF) logS = none := rfl
  simp only [hg]
  rw [if_neg (by simp), if_neg (by simp only [linesB, List.flatMap_nil, List.length_nil] at hx; omega), if_neg (by decide)]
  simp [putF, delF, insF, linesB_snoc, linesB, DS.change]
 ·rw [if_neg hR]
  have hg : getF [(⟨logS, linesB R, sb⟩ : DF)] logS = some ⟨logS, linesB R, sb⟩ := by simp [getF]
  simp only [hg]
  rw [if_neg (by omega), if_neg (by simp [DS.change])]
  simp [putF, delF, insF, linesB_snoc, DS.change]
theorem walD_sync (R : List Rec) (sb : Nat) : ∃ c, (walD R sb).sync logS = (walD R (if R = [] then sb else (linesB R).length), c) ∧ walBut c = 0 := by
 unfold walD DS.sync
 rw [if_pos logS_ok]
 by_cases hR : R = []
 ·subst hR
  rw [if_pos rfl, if_pos rfl]
  exact ⟨10, rfl, rfl⟩
 ·rw [if_neg hR, if_neg hR]
  have hg : getF [(⟨logS, linesB R, sb⟩ : DF)] logS = some ⟨logS, linesB R, sb⟩ := by simp [getF]
  simp only [hg]
  rw [if_neg (by simp [DS.change])]
  exact ⟨0, by simp [setF, DS.change, hR], rfl⟩
/-- a life's beginning -/
def lifeR (n : Int) : Rec := ⟨1, n, ev0⟩
theorem lifeR_ok {n : Int} (h1 : 1 ≤ n) (h2 : n ≤ 1048576) : recOk (lifeR n) = true := by
 unfold recOk lifeR
 rw [if_pos rfl, decide_eq_true h1, decide_eq_true h2]
 simp
/-- the log's lives: the first n ones, one behind the other -/
def lives : Nat → List Rec
 | 0 => []
 | n + 1 => lives n ++ [lifeR (n + 1 : Nat)]
theorem lives_len : ∀ n, (lives n).length = n
 | 0 => rfl
 | n + 1 => by unfold lives; rw [List.length_append, lives_len n]; rfl
theorem lives_rec {n : Nat} (h : n ≤ 1048576) : ∀ x ∈ lives n, ∃ k : Nat, x = lifeR k ∧ 1 ≤ k ∧ k ≤ n := by
 induction n with
 | zero => exact fun x hx => (nomatch hx)
 | succ n ih =>
   intro x hx
   unfold lives at hx
   rcases List.mem_append.1 hx with hx | hx
   ·obtain ⟨k, h1, h2, h3⟩ := ih (by omega) x hx
    exact ⟨k, h1, h2, by omega⟩
   ·exact ⟨n + 1, List.mem_singleton.1 hx, by omega, by omega⟩
theorem lives_oks {n : Nat} (h : n ≤ 1048576) : ∀ x ∈ lives n, recOk x = true := fun x hx => by
 obtain ⟨k, rfl, h1, h2⟩ := lives_rec h x hx
 exact lifeR_ok (by omega) (by omega)
theorem lives_ok {n : Nat} (h : n ≤ 1048576) : RecsOk (lives n) := recsOk_of (lives_oks h)
theorem walB_walD (R : List Rec) (sb : Nat) : walB (walD R sb) = linesB R := by
 unfold walB walD
 by_cases h : R = []
 ·subst h; rfl
 ·rw [if_neg h]
  rfl
theorem walD_recov (R : List Rec) (sb : Nat) (h : RecsOk R) : (walD R sb).recov = (walD R sb, R, 0, 0) := by
 have hs := recScan_lines R [] h
 rw [List.append_nil] at hs
 have h0 : recScan ([] : Bytes) = ([], 0) := recScan_none frGet_nil
 rw [h0, List.append_nil, Nat.add_zero] at hs
 have hr := recov_up (S := walD R sb) (fun h => by have := h.1; unfold walD at this; cases this) (by rw [walB_walD, hs])
 rw [walB_walD, hs] at hr
 exact hr
theorem walD_invJ (R : List Rec) (sb : Nat) (h : sb ≤ (linesB R).length) (hl : (linesB R).length ≤ 16777216) : DInv (walD R sb) := by
 unfold walD
 by_cases hR : R = []
 ·rw [if_pos hR]; exact DInv.new
 ·rw [if_neg hR]
  exact ⟨List.pairwise_singleton _ _, by simp, by simp, fun f hf => by
   simp only [List.mem_singleton] at hf; subst hf; exact ⟨logS_ok, hl, h⟩⟩
variable {F : Nat → Prop} {d : Nat} {S : DS} {b : Nat} {D : DataW Unit} {w w' : World}
theorem RetDk.from {W : World} {c : Int} {S' : DS} {e : Ending} (hb : Below w.heap.size w W) (h : RetDk F d b S' c W e w') : RetDk F d b S' c w e w' := by
 obtain ⟨h1, ⟨D', h2⟩, h3⟩ := h
 exact ⟨h1, ⟨D', h2.mono fun k hk => hk.imp id fun g => Nat.le_trans hb.size g⟩, (Fr.of_below hb).again h3⟩
theorem RetDk.but {c : Int} {S' : DS} {D' : DataW Unit} (h1 : DkIn w' (grow F w) d S' b D') (h2 : Fr F w w') : RetDk F d b S' c w (.returned (.int .i64 c)) w' := ⟨rfl, ⟨D', h1⟩, h2⟩
theorem walBut_any (c : Int) (w : World) : Calls Tryz.prog 55 #[.int .i64 c] w fun e w' => e = .returned (.int .i64 (walBut c)) ∧ w = w' := by
 by_cases h : c = 10
 ·subst h
  go_enter Tryz.func55, Tryz.ntmps55
  go_wp2
  go_ret
  exact ⟨rfl, rfl⟩
 ·have q : (c == 10) = false := beq_eq_false_iff_ne.2 h
  have HE : Hid (walBut c = c) := if_neg h
  clear h
  go_enter Tryz.func55, Tryz.ntmps55
  go_wp2
  go_ret
  exact ⟨by rw [HE.out]; rfl, rfl⟩
theorem walSync_any (h : DkIn w F d S b D) (hi : DInv S) : Calls Tryz.prog 26 #[.pointer (some ⟨d, 0, none⟩)] w (RetDk F d b (S.sync logS).1 (walBut (S.sync logS).2) w) := by
 obtain ⟨T, c, hT⟩ : ∃ T c, S.sync logS = (T, c) := ⟨_, _, rfl⟩
 have h0 := Sync_any logS_size h hi.arm
 rw [hT] at h0 ⊢
 simp only at h0 ⊢
 have HN : Hid (Calls Tryz.prog 58 #[.pointer (some ⟨d, 0, none⟩), .string ⟨#[108, 111, 103]⟩] w (RetDk F d b T c w)) := Lib.hid h0
 have HB := Lib.hid (fun X => walBut_any c X)
 clear h0 hT h
 go_enter Tryz.func26, Tryz.ntmps26
 go_wp2_with (first
  | (go_at_call 58; (with_reducible refine HN.out.mono ?_); rintro e w1 ⟨rfl, ⟨D1, hD1⟩, hf1⟩)
  | (go_at_call 55; (with_reducible refine (HB.out _).mono ?_); rintro e w2 ⟨rfl, rfl⟩))
 go_ret
 exact RetDk.but hD1 hf1
/-- how many bytes are told -/
def walSz (S : DS) : Nat := if S.down = true then 0 else (walB S).length
/-- reading the log -/
theorem walRead_any (h : DkIn w F d S b D) (hi : DInv S) : Calls Tryz.prog 54 #[.pointer (some ⟨d, 0, none⟩), .string ⟨#[108, 111, 103]⟩] w fun e w' =>
 ∃ a cap c, e = .returned (.tuple #[.slice a (walSz S) cap, .int .i64 c]) ∧ walBut c = (if S.down = true ∧ (getF S.f logS).isSome = true then 12 else 0) ∧ (c = 0 ∨ c = 10 ∨ c = 12) ∧ (walBut c = 0 → walSz S = (walB S).length) ∧ (walBut c = 0 → BytesIn w' a (walB S)) ∧ walSz S ≤ cap ∧ Below w.heap.size w w' := by
 cases hg : getF S.f logS with
 | none =>
   have hre : readE S logS = 10 := by unfold readE; rw [if_pos logS_ok, hg]
   have hw : walB S = [] := by unfold walB; rw [hg]
   have hz : walSz S = 0 := by unfold walSz; rw [hw]; split <;> rfl
   refine (Read_no logS_size h (by rw [hre]; decide)).mono ?_
   rintro e w1 ⟨rfl, rfl⟩
   rw [hre, hz, hw]
   refine ⟨none, 0, 10, rfl, ?_, by simp, fun _ => rfl, fun _ => Or.inl rfl, Nat.le_refl _, Below.refl _ _⟩
   rw [if_neg (by simp)]; rfl
 | some f =>
   have hw : walB S = f.b := by unfold walB; rw [hg]
   cases hd : S.down with
   | true =>
     have hre : readE S logS = 12 := by unfold readE; rw [if_pos logS_ok, hg]; simp [hd]
     have hz : walSz S = 0 := by unfold walSz; rw [if_pos hd]
     refine (Read_no logS_size h (by rw [hre]; decide)).mono ?_
     rintro e w1 ⟨rfl, rfl⟩
     rw [hre, hz]
     refine ⟨none, 0, 12, rfl, ?_, by simp, fun h => by simp [walBut] at h, fun h => by simp [walBut] at h, Nat.le_refl _, Below.refl _ _⟩
     rw [if_pos (by simp)]; rfl
   | false =>
     have hz : walSz S = f.b.length := by unfold walSz; rw [if_neg (by rw [hd]; decide), hw]
     refine (Read_yes logS_size h logS_ok hg hd (Nat.le_trans (hi.ok f (getF_mem hg)).len (by decide))).mono ?_
     rintro e w1 ⟨v, rfl, hown, hb⟩
     obtain ⟨a, k, rfl, hin, hk⟩ := own_bytesIn hown
     rw [hz, hw]
     refine ⟨a, k, 0, rfl, ?_, by simp, fun _ => rfl, fun _ => hin, hk, hb⟩
     rw [if_neg (by simp)]; rfl
/-! ### a record appended -/
theorem walAppend_any (x : Rec) (a : Option Addr) (cap : Nat) (h : DkIn w F d S b D) (hi : DInv S) (hover : DotsIn w a x.e.over) (hold : ∀ A off, a = some ⟨A, off, none⟩ → x.e.over ≠ [] → A < w.heap.size) (hok : recOk x = true) :
 Calls Tryz.prog 18 #[.pointer (some ⟨d, 0, none⟩), recVal x a cap] w (RetDk F d b (S.append logS (recLine x)).1 (S.append logS (recLine x)).2 w) := by
 have hlen := recLine_len hok
 obtain ⟨M, hM⟩ : ∃ M, M = recLine x := ⟨_, rfl⟩
 have hL0 := fun (W : World) (h : DotsIn W a x.e.over) (ho : ∀ A off, a = some ⟨A, off, none⟩ → x.e.over ≠ [] → A < W.heap.size) => RecLine_yes x none 0 [] a cap W (by simp) (Or.inl rfl) h ho hok
 rw [List.nil_append, ← hM] at hL0
 rw [← hM] at hlen
 unfold RetOk at hL0
 have hold2 := fun (W : World) (hb : Below w.heap.size w W) (A : Nat) (off : Nat) (h1 : a = some ⟨A, off, none⟩) (h2 : x.e.over ≠ []) => Nat.lt_of_lt_of_le (hold A off h1 h2) hb.size
 have HL : Hid (∀ (W : World), DotsIn W a x.e.over → (∀ A off, a = some ⟨A, off, none⟩ → x.e.over ≠ [] → A < W.heap.size) → Calls Tryz.prog 36 #[.slice none 0 0, recVal x a cap] W _) := Lib.hid hL0
 have HO := Lib.hid hold2
 rw [← hM]
 have HA : Hid (∀ X ab cb, Below w.heap.size w X → BytesIn X ab M → Calls Tryz.prog 37 #[.pointer (some ⟨d, 0, none⟩), .string ⟨#[108, 111, 103]⟩, .slice ab M.length cb] X (RetDk F d b (S.append logS M).1 (S.append logS M).2 X)) := Lib.hid fun X ab cb hb hin => Append_any logS_size (h.below hb) hi (by omega) hin
 clear hL0 hold2 hold hM hlen hok h
 go_enter Tryz.func18, Tryz.ntmps18
 go_upto_region 1 with fail
 refine wp_name (fun W hW => ?_)
 have hb0 : Below w.heap.size w W := by rw [hW.out]; go_grown
 have hC : W.rangeAt w.heap.size 0 (recCells x a cap) := by rw [hW.out]; exact recCells_box x a cap w _
 have ho := hover.kept hb0
 clear hW hover
 go_wp2_with (first
  | ((with_reducible refine wpList_load_to 62 _ w.heap.size 0 (recCells x a cap) (recVal x a cap) rfl _ Tryz.underlying62 rfl (by kernel_rfl) hC ?_ rfl ?_); exact rfl)
  | (go_at_call 36; (with_reducible refine (HL.out _ ho (HO.out _ hb0)).mono ?_); rintro e w1 ⟨v, rfl, hown, hb⟩; obtain ⟨ab, cb, rfl, hin⟩ := own_bytes hown; replace hb0 := below2 hb0 hb)
  | (go_at_call 37; (with_reducible refine (HA.out _ _ _ hb0 hin).mono ?_); rintro e w2 hret; obtain ⟨rfl, ⟨D2, hD2⟩, hf2⟩ := RetDk.from hb0 hret))
 go_ret
 exact ⟨rfl, ⟨D2, hD2⟩, hf2⟩
def recsOf (ls : List RecIt) : List Rec := ls.map (·.1)
theorem recsIn_own {w : World} {base : Nat} {t : TypeId} {v : Value} {ls : List RecIt} (h : w.ownsRow base t 21 v ls.length (itCells ls)) (hd : ∀ x ∈ ls, DotsIn w x.2.1 x.1.e.over) : ∃ a cap, v = .slice a ls.length cap ∧ RecsIn w a ls ∧ ls.length ≤ cap := by
 rcases h.2 with ⟨rfl, hn⟩ | ⟨g, cap, cur, hv, _, _, hc, _⟩
 ·have : ls = [] := List.length_eq_zero_iff.1 hn
  subst this
  exact ⟨none, 0, rfl, ⟨Or.inl rfl, hd⟩, Nat.le_refl _⟩
 ·refine ⟨some ⟨g, 0, none⟩, cap, hv, ⟨Or.inr ⟨g, 0, rfl, fun i hi j u hu => ?_⟩, hd⟩, hc⟩
  have := World.ownsRow.cells (g := g) h (by rw [hv]; rfl) (i * 21 + j) u (itCells_at ls i j u hi hu)
  rw [Addr.add_mid, Nat.zero_add] at this
  rwa [Nat.zero_add]
theorem linesB_len (rs : List Rec) (h : ∀ x ∈ rs, recOk x = true) : (linesB rs).length ≤ rs.length * 8226 := by
 induction rs with
 | nil => simp [linesB]
 | cons x r ih =>
   have e : linesB (x :: r) = recLine x ++ linesB r := List.flatMap_cons
   have h1 := recLine_len (h x (by simp))
   have h2 := ih (fun y hy => h y (by simp [hy]))
   rw [e, List.length_append, List.length_cons]; omega
end Go.Proofs.YtohcmljigcdmbaaGreat
