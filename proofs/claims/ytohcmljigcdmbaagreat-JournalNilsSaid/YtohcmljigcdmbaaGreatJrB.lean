/- The journal's replay of lives, Sync, begin, Open. Conditions: as in the text. -/
import Derived.Test.YtohcmljigcdmbaaGreatJrO
import Derived.Test.YtohcmljigcdmbaaGreatRecG
import Derived.Test.YtohcmljigcdmbaaGreatVecD
import Derived.Test.YtohcmljigcdmbaaGreatLast
set_option linter.unusedSimpArgs false
set_option linter.unusedVariables false
set_option linter.unnecessarySimpa false
set_option maxHeartbeats 16000000
set_option maxRecDepth 100000
namespace Go.Proofs.YtohcmljigcdmbaaGreat
open Go.RowKit
theorem exec_buildJ {P : Program} {o : Oper} {a : Act} {w : World} (t : TypeId) (parts : Array (Nat × Operand)) (ho : o.op = .build t parts) (cells : Array Value) (hf : P.built t (parts.map fun (i, x) => (i, a.eval x)).toList = some cells) : (execOp a.eval o).run P w = .ok (.value (.agg cells)) w := by
 unfold execOp
 simp only [ho, Sem.run_bind, run_build w t _ cells hf, Result.andThen_ok, Sem.run_pure]
theorem JrAt.range {w : World} {j d : Nat} {dv ic : Int} {st : Stamp} {m : Nat} {du : Value} (h : JrAt w j d dv ic st m du) : w.rangeAt j 0 (jrA d dv ic st m du).toList := fun i v hv => by
 rw [Nat.zero_add]
 exact h.cell i v (by simpa using hv)
theorem lives_at {n k : Nat} (h : k < n) : (lives n)[k]? = some (lifeR (k + 1 : Nat)) := by
 induction n with
 | zero => omega
 | succ n ih =>
   unfold lives
   by_cases hk : k < n
   ·rw [List.getElem?_append_left (by rw [lives_len]; exact hk)]
    exact ih hk
   ·obtain rfl : k = n := by omega
    rw [List.getElem?_append_right (by rw [lives_len]; exact Nat.le_refl _), lives_len, Nat.sub_self]
    rfl
theorem replay_lives {j d : Nat} {dv : Int} {st : Stamp} {m : Nat} {du : Value} (a : Option Addr) (cap n : Nat) (ls : List RecIt) (w : World) (hJ : JrAt w j d dv 0 st m du) (hR : RecsIn w a ls) (hL : recsOf ls = lives n) (hn : n ≤ 1048576) :
 Calls Tryz.prog 24 #[.pointer (some ⟨j, 0, none⟩), .slice a ls.length cap] w fun x w' => x = .returned (.int .i64 0) ∧ JrAt w' j d dv n st m du ∧ Fr (isR j) w w' := by
 have hlen : ls.length = n := by have := congrArg List.length hL; rw [lives_len] at this; rw [← this]; exact (List.length_map _).symm
 have HLN := Lib.hid hlen
 have HLL := Lib.hid hL
 have hln : ls.length ≤ 1048576 := by omega
 clear hL hlen
 go_enter Tryz.func24, Tryz.ntmps24
 go_wp2
 go_step3
 go_wp2
 go_step3
 go_wp2
 go_loopw [5, 10] (fun o i wr => ∃ k : Nat, o = .int .i64 0 ∧ i = .int .i64 k ∧ k ≤ ls.length ∧ JrAt wr j d dv k st m du ∧ Fr (isR j) w wr) (fun _ i _ => ls.length - (intOf i).toNat)
 case atStart => exact ⟨0, rfl, rfl, Nat.zero_le _, hJ, Fr.refl _ _⟩
 case round =>
  obtain ⟨k, rfl, rfl, hk, hJr, hf⟩ := hrel
  by_cases hlt : k < ls.length
  ·obtain ⟨A, off, rfl, hra, _⟩ := hR.at hlt
   have hrk := hra k hlt
   have hAj : ¬ isR j A := fun e => by
        have e' : A = j := e
        subst e'
        have h9 := hrk 20 _ rfl
        unfold JrAt at hJ
        simp only [World.cell?, hJ] at h9
        have h8 := (Array.getElem?_eq_some_iff.1 h9).1
        simp at h8
        omega
   have hrr : wr.rangeAt A (off + k * 21) (recCells ls[k].1 ls[k].2.1 ls[k].2.2) := fun i v hv => hf.kept (hrk i v hv) hAj
   have hx : ls[k].1 = lifeR (k + 1 : Nat) := by
        have h1 : (recsOf ls)[k]? = (lives n)[k]? := by rw [HLL.out]
        rw [lives_at (by have := HLN.out; omega)] at h1
        have h2 : (recsOf ls)[k]? = some ls[k].1 := by
         show (ls.map (·.1))[k]? = _
         rw [List.getElem?_map, List.getElem?_eq_getElem hlt]
         rfl
        rw [h2] at h1
        exact Option.some.inj h1
   have HLT := Lib.hid hlt
   clear hra hrk
   generalize ls[k] = y at hrr hx
   obtain ⟨x, ax, cx⟩ := y
   simp only at hrr hx
   subst hx
   go_upto_region 5 with (first
        | ((with_reducible refine wpList_load_to 62 _ A (off + k * 21) (recCells (lifeR (k + 1 : Nat)) ax cx) (recVal (lifeR (k + 1 : Nat)) ax cx) rfl _ Tryz.underlying62 rfl (by kernel_rfl) hrr ?_ rfl ?_); exact rfl)
        | (refine wpList_store_new 62 _ _ _ (recCells (lifeR (k + 1 : Nat)) ax cx).toArray rfl rfl (by kernel_rfl) rfl (by kernel_rfl) ?_))
   refine wp_name (fun V0 hV0 => ?_)
   have hb0 : Below wr.heap.size wr V0 := by rw [hV0.out]; exact (Below.refl _ _).alloc (Nat.le_refl _) _
   have hbx : V0.rangeAt wr.heap.size 0 (recCells (lifeR (k + 1 : Nat)) ax cx) := by rw [hV0.out]; exact recCells_box (lifeR (k + 1 : Nat)) ax cx wr _
   clear hV0 hrr
   have x0 : V0.cell? ⟨wr.heap.size, 0, none⟩ = some (.int .i64 1) := hbx 0 _ rfl
   have x1 : V0.cell? ⟨wr.heap.size, 1, none⟩ = some (.int .i64 (k + 1 : Nat)) := hbx 1 _ rfl
   go_upto_region 6 with fail
   refine wp_name (fun V hV => ?_)
   have hbV : Below wr.heap.size wr V.drew := by rw [hV.out]; exact hb0.drew
   have hJV := hJr.below hbV
   have z2 : V.drew.cell? ⟨j, 2, none⟩ = some (.int .i64 k) := hJV.cell 2 _ rfl
   have f2 : V.drew.frozen? ⟨j, 2, none⟩ = false := hJV.free 2
   have x1V : V.drew.cell? ⟨wr.heap.size, 1, none⟩ = some (.int .i64 (k + 1 : Nat)) := by rw [hV.out]; exact x1
   have hfV : Fr (isR j) w V.drew := hf.again (Fr.of_below hbV)
   clear hV hb0 hbx x0 x1 hbV hf hJr
   refine wp_region_noPanic ?_
   refine wp_region_late (fun X => Below V.drew.heap.size V.drew X) [12] (by kernel_rfl) ?_
   have hb0 : Below V.drew.heap.size V.drew V.drew := Below.refl _ _
   refine tL (v := ?_) 0 17 rfl (Or.inl ⟨by rfl, ?_⟩) ?_
   case refine_2 => (rintro w hSw; have s0 := kept hSw z2; have s1 := kept hSw x1V; go_simp; try with_reducible rfl)
   try simp only [pS]
   refine tL (v := ?_) 1 18 rfl (Or.inl ⟨by rfl, ?_⟩) ?_
   case refine_2 => (rintro w hSw; have s0 := kept hSw z2; have s1 := kept hSw x1V; go_simp; try with_reducible rfl)
   try simp only [pS]
   refine tL (v := ?_) 2 19 rfl (Or.inl ⟨by rfl, ?_⟩) ?_
   case refine_2 => (rintro w hSw; have s0 := kept hSw z2; have s1 := kept hSw x1V; go_simp; try with_reducible rfl)
   try simp only [pS]
   refine tL (v := ?_) 3 20 rfl (Or.inl ⟨by rfl, ?_⟩) ?_
   case refine_2 => (rintro w hSw; have s0 := kept hSw z2; have s1 := kept hSw x1V; go_simp; try with_reducible rfl)
   try simp only [pS]
   refine tL (v := ?_) 4 21 rfl (Or.inl ⟨by rfl, ?_⟩) ?_
   case refine_2 => (rintro w hSw; have s0 := kept hSw z2; have s1 := kept hSw x1V; go_simp; try with_reducible rfl)
   try simp only [pS]
   refine tL (v := ?_) 5 22 rfl (Or.inl ⟨by rfl, ?_⟩) ?_
   case refine_2 => (rintro w hSw; have s0 := kept hSw z2; have s1 := kept hSw x1V; go_simp; try with_reducible rfl)
   try simp only [pS]
   refine tL (v := ?_) 6 23 rfl (Or.inl ⟨by rfl, ?_⟩) ?_
   case refine_2 => (rintro w hSw; have s0 := kept hSw z2; have s1 := kept hSw x1V; go_simp; try with_reducible rfl)
   try simp only [pS]
   refine tL (v := ?_) 7 24 rfl (Or.inl ⟨by rfl, ?_⟩) ?_
   case refine_2 => (rintro w hSw; have s0 := kept hSw z2; have s1 := kept hSw x1V; go_simp; try with_reducible rfl)
   try simp only [pS]
   refine tL (v := ?_) 8 25 rfl (Or.inl ⟨by rfl, ?_⟩) ?_
   case refine_2 => (rintro w hSw; have s0 := kept hSw z2; have s1 := kept hSw x1V; go_simp; try with_reducible rfl)
   try simp only [pS]
   refine tL (v := ?_) 9 26 rfl (Or.inl ⟨by rfl, ?_⟩) ?_
   case refine_2 => (rintro w hSw; have s0 := kept hSw z2; have s1 := kept hSw x1V; go_simp; try with_reducible rfl)
   try simp only [pS]
   refine tL (v := ?_) 10 27 rfl (Or.inl ⟨by rfl, ?_⟩) ?_
   case refine_2 => (rintro w hSw; have s0 := kept hSw z2; have s1 := kept hSw x1V; go_simp; try with_reducible rfl)
   try simp only [pS]
   refine tL (v := ?_) 11 28 rfl (Or.inl ⟨by rfl, ?_⟩) ?_
   case refine_2 => (rintro w hSw; have s0 := kept hSw z2; have s1 := kept hSw x1V; go_simp; try with_reducible rfl)
   try simp only [pS]
   refine wpAnyL_one (i := 12) (o := ⟨none, _, _, _, _, _⟩) (by kernel_rfl) rfl ?_
   intro K hK
   go_simp
   refine hK.out _ _ (Or.inl (by kernel_rfl)) ?_
   clear hK K
   try simp only [pS]
   refine wpAnyL_done (by kernel_rfl) ?_ _
   refine NoPanic.normal ?_
   have hJ2 : JrAt (V.setCell ⟨j, 2, none⟩ (.int .i64 (max (k : Int) ((k : Int) + 1)))).drew j d dv (k + 1 : Nat) st m du := by
        have h := (show JrAt V j d dv k st m du from hJV).setInc (max (k : Int) ((k : Int) + 1))
        rw [show max (k : Int) ((k : Int) + 1) = ((k + 1 : Nat) : Int) by omega] at h ⊢
        exact h
   have hf2 : Fr (isR j) w (V.setCell ⟨j, 2, none⟩ (.int .i64 (max (k : Int) ((k : Int) + 1)))).drew := hfV.again (fr_set (w := V.drew) (R := j) (o := 2) _)
   generalize (V.setCell ⟨j, 2, none⟩ (.int .i64 (max (k : Int) ((k : Int) + 1)))).drew = X at *
   clear hJV z2 f2 x1V hfV hb0
   go_wp2
   go_roundw
   case rel => exact ⟨k + 1, rfl, by go_num, HLT.out, hJ2, hf2⟩
   case measure => have := HLT.out; simp [intOf] <;> omega
  ·obtain rfl : k = ls.length := by omega
   go_wp2
   all_goals
        try rw [Exit.noGoto_ret]
        go_ret
        exact ⟨rfl, by rw [← HLN.out]; exact hJr, hf⟩
section
variable {F : Nat → Prop} {d : Nat} {S : DS} {b : Nat} {D : DataW Unit}
/-- what a journal with an empty map holds -/
def JrE (j d : Nat) (dv ic : Int) (m : Nat) (mb : MB) (w : World) : Prop := ∃ (a : Option Addr) (c : Nat), JrAt w j d dv ic ⟨0, 0, 0⟩ m (.slice a 0 c) ∧ MpIn w m mb MS.empty
theorem JrE.below {j d : Nat} {dv ic : Int} {m : Nat} {mb : MB} {w w' : World} (h : JrE j d dv ic m mb w) (hb : Below w.heap.size w w') : JrE j d dv ic m mb w' := by
 obtain ⟨a, c, h1, h2⟩ := h
 exact ⟨a, c, h1.below hb, h2.kept_w hb⟩
theorem JrE.turn {j d : Nat} {dv ic : Int} {m : Nat} {mb : MB} {w w' : World} (h : JrE j d dv ic m mb w) (hf : Fr F w w') (hq : QuietD F w b) (hb : ∀ k, foot mb [] k → k ≠ b) : JrE j d dv ic m mb w' := by
 obtain ⟨a, c, h1, h2⟩ := h
 exact ⟨a, c, h1.turn hf hq, h2.frE hf hq hb⟩
theorem jSync_any {j m : Nat} {dv ic : Int} {mb : MB} (w : World) (hJ : JrE j d dv ic m mb w) (hD : DkIn w F d S b D) (hi : DInv S) (hF : ∀ k, F k → k < w.heap.size) (hq : QuietD F w b) (hfo : ∀ k, foot mb [] k → k ≠ b) (hc : walBut (S.sync logS).2 = 0) :
 Calls Tryz.prog 10 #[.pointer (some ⟨j, 0, none⟩)] w fun x w' => x = .returned (.int .i64 0) ∧ JrE j d dv ic m mb w' ∧ (∃ D', DkIn w' (grow F w) d (S.sync logS).1 b D') ∧ Fr (fun k => F k ∨ k = j) w w' := by
 have hW := walSync_any hD hi
 rw [hc] at hW
 have HW := Lib.hid hW
 obtain ⟨a0, c0, hj, hm⟩ := hJ
 have z0 := hj.cell 0 _ rfl
 have HT := Lib.hid (fun (X : World) (hf : Fr F w X) => And.intro (hj.turn hf hq) (hm.frE hf hq hfo))
 clear hW hD hi hF hq hfo hc hm
 have hjl := hj.lt
 clear hj
 go_enter Tryz.func10, Tryz.ntmps10
 go_upto_region 5 with (go_at_call 26; (with_reducible refine HW.out.mono ?_); rintro x w1 ⟨rfl, ⟨D1, hD1⟩, hf1⟩)
 obtain ⟨hj1, hm1⟩ := HT.out _ hf1
 have z6 := hj1.cell 6 _ rfl
 have HC := Lib.hid (mContext_any w1 hm1 MInv.empty.ctx (by decide))
 have HQ := Lib.hid (And.intro hD1 hf1)
 clear HT HW z0 hD1
 have hj1' := Lib.hid hj1
 have hm1' := Lib.hid hm1
 clear hj1 hm1
 go_wp2_with (go_at_call 27; (with_reducible refine HC.out.mono ?_); rintro x w2 ⟨x2, rfl, hown, hb2⟩; obtain ⟨a2, c2, rfl, -⟩ := own_marks hown; clear hown; have hj2 := hj1'.out.below hb2; have z7 := hj2.cell 7 _ rfl; have f7 := hj2.free 7; have HJ2 := Lib.hid hj2; clear hj2)
 go_ret
 obtain ⟨hD1, hf1⟩ := HQ.out
 have hset := fr_set (w := w2) (R := j) (o := 7) (.slice a2 MS.empty.ctx.length c2)
 have hf2 : Fr (fun k => F k ∨ k = j) w w2 := (hf1.mono fun k _ hk => Or.inl hk).again (Fr.of_below hb2)
 exact ⟨rfl, ⟨a2, c2, HJ2.out.setDur _, (hm1'.out.kept_w hb2).one hset HJ2.out (by decide) (by decide)⟩, ⟨D1, (hD1.below hb2).jr HJ2.out hset⟩, hf2.again (hset.mono fun k _ hk => Or.inr hk)⟩
end
theorem jBegin_any {F : Nat → Prop} {d b j m n : Nat} {S S1 : DS} {D : DataW Unit} {dv : Int} {mb : MB} (w : World) (hJ : JrE j d dv n m mb w) (hD : DkIn w F d S b D) (hi : DInv S) (hF : ∀ k, F k → k < w.heap.size) (hq : QuietD F w b) (hfo : ∀ k, foot mb [] k → k ≠ b) (hn : n < 1048576) (hS1 : S.append logS (recLine (lifeR (n + 1 : Nat))) = (S1, 0)) (hc : walBut (S1.sync logS).2 = 0) :
 Calls Tryz.prog 25 #[.pointer (some ⟨j, 0, none⟩)] w fun x w' => x = .returned (.int .i64 0) ∧ JrE j d dv (n + 1 : Nat) m mb w' ∧ (∃ D', DkIn w' (grow F w) d (S1.sync logS).1 b D') ∧ Fr (fun k => F k ∨ k = j) w w' := by
 have d1 : decide ((1048576 : Int) ≤ (n : Int)) = false := decide_eq_false (by omega)
 have hi1 : DInv S1 := by have := hi.append logS (recLine (lifeR (n + 1 : Nat))); rwa [hS1] at this
 obtain ⟨a0, c0, hj, hm⟩ := hJ
 have z2 := hj.cell 2 _ rfl
 have f2 := hj.free 2
 have hset := fr_set (w := w) (R := j) (o := 2) (.int .i64 ((n : Int) + 1))
 have hj1 := hj.setInc ((n : Int) + 1)
 have hm1 := hm.one hset hj (by decide) (by decide)
 have hD1 := hD.jr hj hset
 have hq1 : QuietD F (w.setCell ⟨j, 2, none⟩ (.int .i64 ((n : Int) + 1))) b := ⟨fun k cur e h1 h2 h3 => by
  have hne : k ≠ j := fun e => (hq.typed _ _ _ hj (by decide)) (e ▸ h3)
  exact hq.typed k cur e ((hset.block k (hF k h3) hne).symm.trans h1) h2 h3, fun k es cl h1 h3 => by
  have hne : k ≠ j := fun e => (hq.typed _ _ _ hj (by decide)) (e ▸ h3)
  exact hq.maps k es cl ((hset.block k (hF k h3) hne).symm.trans h1) h3⟩
 have hsz : (w.setCell ⟨j, 2, none⟩ (.int .i64 ((n : Int) + 1))).heap.size = w.heap.size := by simp
 have HS := Lib.hid hset
 have HH := Lib.hid (And.intro hj1 (And.intro hm1 (And.intro hD1 (And.intro hq1 hsz))))
 clear hj hm hD hq hset hj1 hm1 hD1 hq1 hsz
 go_enter Tryz.func25, Tryz.ntmps25
 go_upto_region 4 with fail
 refine wp_name (fun V hV => ?_)
 have hVe : V = w.setCell ⟨j, 2, none⟩ (.int .i64 ((n : Int) + 1)) := hV.out
 rw [← hVe] at HS HH
 clear hV hVe z2 f2 d1
 obtain ⟨hj1, hm1, hD1, hq1, hsz⟩ := HH.out
 have hbV : Below V.heap.size V V.drew := (Below.refl _ _).drew
 have hjV := hj1.below hbV
 have z0 : V.drew.cell? ⟨j, 0, none⟩ = some (.pointer (some ⟨d, 0, none⟩)) := hjV.cell 0 _ rfl
 have z2 : V.drew.cell? ⟨j, 2, none⟩ = some (.int .i64 ((n : Int) + 1)) := hjV.cell 2 _ rfl
 have hA := walAppend_any (lifeR (n + 1 : Nat)) none 0 (hD1.below hbV) hi (Or.inl rfl) (fun _ _ h => nomatch h) (lifeR_ok (by omega) (by omega))
 rw [hS1] at hA
 have HA : Hid (Calls Tryz.prog 18 #[.pointer (some ⟨d, 0, none⟩), .agg (recCells (lifeR ((n : Int) + 1)) none 0).toArray] V.drew (RetDk F d b S1 0 V.drew)) := Lib.hid hA
 have hqV : QuietD F V.drew b := ⟨fun k cur e h1 h2 => hq1.typed k cur e h1 h2, fun k es cl h1 h2 => hq1.maps k es cl h1 h2⟩
 have HV := Lib.hid (And.intro hjV (And.intro (hm1.kept_w hbV) hqV))
 have hFV : ∀ k, F k → k < V.drew.heap.size := fun k hk => by have := hF k hk; show k < V.heap.size; omega
 have HFV := Lib.hid hFV
 have HZ := Lib.hid hsz
 clear hA hj1 hm1 hD1 hq1 hsz hjV hqV HH hS1 hi hFV hF
 refine wp_region_noPanic ?_
 refine wp_region_late (fun X => Below V.drew.heap.size V.drew X) [10] (by kernel_rfl) ?_
 have hb0 : Below V.drew.heap.size V.drew V.drew := Below.refl _ _
 refine tL (v := ?_) 0 19 rfl (Or.inl ⟨by rfl, ?_⟩) ?_
 case refine_2 => (rintro w hSw; have s0 := kept hSw z0; have s1 := kept hSw z2; go_simp; try with_reducible rfl)
 try simp only [pS]
 refine tL (v := ?_) 1 20 rfl (Or.inl ⟨by rfl, ?_⟩) ?_
 case refine_2 => (rintro w hSw; have s0 := kept hSw z0; have s1 := kept hSw z2; go_simp; try with_reducible rfl)
 try simp only [pS]
 refine tL (v := ?_) 2 21 rfl (Or.inl ⟨by rfl, ?_⟩) ?_
 case refine_2 => (rintro w hSw; have s0 := kept hSw z0; have s1 := kept hSw z2; go_simp; try with_reducible rfl)
 try simp only [pS]
 refine tL (v := ?_) 3 22 rfl (Or.inl ⟨by rfl, ?_⟩) ?_
 case refine_2 => (rintro w hSw; have s0 := kept hSw z0; have s1 := kept hSw z2; go_simp; try with_reducible rfl)
 try simp only [pS]
 refine tL (v := ?_) 4 23 rfl (Or.inl ⟨by rfl, ?_⟩) ?_
 case refine_2 => (rintro w hSw; have s0 := kept hSw z0; have s1 := kept hSw z2; go_simp; try with_reducible rfl)
 try simp only [pS]
 refine tL (v := ?_) 5 24 rfl (Or.inl ⟨by rfl, ?_⟩) ?_
 case refine_2 => (rintro w hSw; have s0 := kept hSw z0; have s1 := kept hSw z2; go_simp; try with_reducible rfl)
 try simp only [pS]
 refine tL (v := ?_) 6 25 rfl (Or.inl ⟨by rfl, ?_⟩) ?_
 case refine_2 => (rintro w hSw; have s0 := kept hSw z0; have s1 := kept hSw z2; go_simp; try with_reducible rfl)
 try simp only [pS]
 refine tL (v := ?_) 7 26 rfl (Or.inl ⟨by rfl, ?_⟩) ?_
 case refine_2 => (rintro w hSw; have s0 := kept hSw z0; have s1 := kept hSw z2; go_simp; try with_reducible rfl)
 try simp only [pS]
 refine tL (v := ?_) 8 27 rfl (Or.inl ⟨by rfl, ?_⟩) ?_
 case refine_2 => (rintro w hSw; have s0 := kept hSw z0; have s1 := kept hSw z2; go_simp; try with_reducible rfl)
 try simp only [pS]
 refine tL 9 28 rfl (Or.inl ⟨by rfl, fun W hSW => exec_buildJ _ _ rfl (recCells (lifeR ((n : Int) + 1)) none 0).toArray (by kernel_rfl)⟩) ?_
 try simp only [pS]
 refine wpAnyL_one (i := 10) (o := ⟨some 29, _, _, _, _, _⟩) (by kernel_rfl) rfl ?_
 intro K hK
 go_simp
 go_at_call 18
 (with_reducible refine HA.out.mono ?_)
 rintro x w5 ⟨rfl, hD5, hf5⟩
 go_simp
 refine hK.out _ _ (Or.inl (by kernel_rfl)) ?_
 clear hK K
 try simp only [pS]
 refine wpAnyL_one (i := 11) (o := ⟨some 3, _, _, _, _, _⟩) (by kernel_rfl) rfl ?_
 intro K hK
 go_simp
 refine hK.out _ _ (Or.inl (by kernel_rfl)) ?_
 clear hK K
 try simp only [pS]
 refine wpAnyL_done (by kernel_rfl) ?_ _
 refine NoPanic.normal ?_
 obtain ⟨D5, hD5⟩ := hD5
 obtain ⟨hjV, hmV, hqV⟩ := HV.out
 have hE5 : JrE j d dv (n + 1 : Nat) m mb w5 := ⟨a0, c0, hjV.turn hf5 hqV, hmV.frE hf5 hqV hfo⟩
 have HSy := Lib.hid (jSync_any w5 hE5 hD5.exact hi1 (fun k hk => hk.2.1) hD5.quietD hfo hc)
 have hft : Fr (fun k => F k ∨ k = j) w w5 := ((HS.out.mono fun k _ hk => Or.inr hk).again (Fr.of_below hbV)).again (hf5.mono fun k _ hk => Or.inl hk)
 have hG : ∀ k, grow F V.drew k → grow F w k := fun k hk => by
  rcases hk with hk | hk
  ·exact Or.inl hk
  ·refine Or.inr ?_
   have h1 : V.heap.size ≤ k := hk
   have := HZ.out
   omega
 have hz5 := hft.size
 clear hjV hmV hqV HV HA hE5 hD5 hf5 z0 z2 hb0 HFV hc hi1
 go_wp2_with (go_at_call 10; (with_reducible refine HSy.out.mono ?_); rintro x w6 ⟨rfl, hE6, ⟨D6, hD6⟩, hf6⟩)
 go_ret
 exact ⟨rfl, hE6, ⟨D6, hD6.mono fun k hk => by
  rcases hk with hk | hk
  ·exact hG k hk.1
  ·exact Or.inr (Nat.le_trans hz5 hk)⟩, hft.trans (hf6.mono fun k _ hk => by
  rcases hk with hk | hk
  ·rcases hG k hk.1 with h | h
   ·exact Or.inl (Or.inl h)
   ·exact Or.inr h
  ·exact Or.inl (Or.inr hk))⟩
end Go.Proofs.YtohcmljigcdmbaaGreat
