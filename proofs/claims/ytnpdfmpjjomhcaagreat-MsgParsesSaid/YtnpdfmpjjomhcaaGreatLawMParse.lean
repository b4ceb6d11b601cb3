/- The law MsgParses, walked. Conditions: none. -/
import Derived.Test.YtnpdfmpjjomhcaaGreatRParse
import Derived.Test.YtnpdfmpjjomhcaaGreatForm
set_option linter.unusedSimpArgs false
set_option linter.unusedVariables false
set_option linter.unnecessarySimpa false
namespace Go.Proofs.YtnpdfmpjjomhcaaGreat
open Go.RowKit

theorem MsgIn.olds {w : World} {m : MsgIt} (h : MsgIn w m) : MsgOld w (fun _ => False) m := by
  refine ⟨h, fun A off ha hn => ⟨?_, fun e => e⟩, fun A off ha hn => ⟨?_, fun e => e⟩, fun x hx A off ha hn => ⟨?_, fun e => e⟩⟩
  · have := h.marks; rw [ha] at this; exact dotsIn_lt this hn
  · rcases h.evs.rows with h0 | ⟨A', off', he, hr⟩
    · exact absurd h0 hn
    · rw [ha] at he
      cases he
      exact World.block_lt_of_cell? w _ (hr 0 (List.length_pos_iff.2 hn) 0 _ rfl)
  · have := h.evs.dots x hx; rw [ha] at this; exact dotsIn_lt this hn
theorem msgParse_none {l : Bytes} {m : Msg} {e : Int} (h : msgParse l = (m, e)) (he : e ≠ 0) : m = msg0 := by
  unfold msgParse at h
  split at h
  · unfold msgRead msgEnd at h
    simp only at h
    split at h
    · split at h
      · simp only [Prod.mk.injEq] at h; exact absurd h.2.symm he
      · simp only [Prod.mk.injEq] at h; exact h.1.symm
    · simp only [Prod.mk.injEq] at h; exact h.1.symm
  · simp only [Prod.mk.injEq] at h; exact h.1.symm
theorem msg0_smallP {m : MsgIt} (h : m.msg = msg0) : MsgSmall m := by
  unfold MsgIt.msg msg0 at h
  simp only [Msg.mk.injEq] at h
  obtain ⟨_, _, _, h4, h5⟩ := h
  have h6 : m.evs.length = 0 := by rw [← evsOf_length, h5]; rfl
  have h7 := List.length_eq_zero_iff.1 h6
  exact ⟨by rw [h4]; simp, by omega, fun x hx => by rw [h7] at hx; cases hx⟩
theorem msgOk_smallP {m : MsgIt} (h : msgOk m.msg = true) : MsgSmall m := by
  have hf := msgOk_fit h
  have h1 := (marksErr_all hf.marks).1
  have h2 := hf.len
  simp only [MsgIt.msg] at h1 h2
  rw [evsOf_length] at h2
  exact ⟨by omega, by omega, fun x hx => evOk_small (hf.evs x.1 (List.mem_map_of_mem hx))⟩
set_option maxRecDepth 100000 in
set_option maxHeartbeats 4000000 in
theorem lawMParse_any (a : Option Addr) (cap : Nat) (l : Bytes) (w : World) (hin : BytesIn w a l) (hl : l.length ≤ maxLen) (hcap : l.length ≤ cap) :
    Calls Tryz.prog 8 #[.slice a l.length cap] w fun v w' => v = .returned (.bool true) ∧ Below w.heap.size w w' := by
  unfold maxLen at hl
  have HA := Lib.hid awake35_any
  by_cases h5 : 5000 < l.length
  · have d1 := decide_eq_true h5
    have d2 : decide ((5000 : Int) < (l.length : Int)) = true := decide_eq_true (by omega)
    clear hin
    go_enter Tryz.func8, Tryz.ntmps8
    go_wp2_with (go_at_call 34; (with_reducible refine (HA.out _).mono ?_); rintro v w1 ⟨rfl, hb⟩)
    go_ret
    exact ⟨rfl, hb⟩
  · have d1 := decide_eq_false h5
    have d2 : decide ((5000 : Int) < (l.length : Int)) = false := decide_eq_false (by omega)
    have HP0 := fun (W : World) (h : BytesIn W a l) => MsgParse_any a cap l W (by omega) hcap h
    have HR0 := fun (W : World) (h : BytesIn W a l) => rMsgParse_any a cap l W (by omega) hcap h
    obtain ⟨M, e, hx⟩ : ∃ M e, msgParse l = (M, e) := ⟨_, _, rfl⟩
    unfold RetMsg at HP0 HR0
    simp only [hx] at HP0 HR0
    have HP := Lib.hid HP0
    have HR := Lib.hid HR0
    by_cases he : e = 0
    · subst he
      obtain ⟨hok, hfr⟩ := msgParse_form hx
      have HSM : Hid (∀ m : MsgIt, m.msg = M → MsgSmall m) := fun m hm => msgOk_smallP (by rw [hm]; exact hok)
      have hfl := congrArg List.length hfr
      rw [frameB_len] at hfl
      unfold sizeN at hfl
      have HB0 := fun (m : MsgIt) (hm : m.msg = M) (W : World) (h : MsgIn W m) => MsgBytes_yes m W (HSM.out m hm) h.olds (by rw [hm]; exact hok) (by rw [hm]; omega)
      have HB1 : Hid (∀ (m : MsgIt), m.msg = M → ∀ (W : World), MsgIn W m → Calls Tryz.prog 35 #[msgVal m] W (RetOk l W)) := fun m hm W h => by
        have := HB0 m hm W h
        rw [hm, hfr] at this
        exact this
      have HSB0 := fun (p : Option Addr) (c : Nat) (W : World) (h1 : BytesIn W p l) (h2 : BytesIn W a l) => rSameBytes_any p a c cap l l W (by omega) (by omega) h1 h2
      simp only [decide_true] at HSB0
      have HSB := Lib.hid HSB0
      clear HP0 HR0 hx h5 hok hfr hfl HB0 HSB0
      go_enter Tryz.func8, Tryz.ntmps8
      go_upto_region 4 with (first
        | (go_at_call 38; (with_reducible refine (HP.out _ hin).mono ?_); rintro x w1 ⟨m1, rfl, hm1, hin1, hb1⟩)
        | (refine wpList_store_new 78 _ _ _ #[.int .i64 m1.kind, .int .i64 m1.frm, .int .i64 m1.dst, .slice m1.am m1.marks.length m1.cm, .slice m1.ae m1.evs.length m1.ce] rfl rfl (by kernel_rfl) rfl (by kernel_rfl) ?_))
      refine wp_name (fun W1 hW1 => ?_)
      have hbt : Below w.heap.size w W1 := by rw [hW1.out]; exact hb1.alloc hb1.size _
      have r0 : W1.cell? ⟨w1.heap.size, 0, none⟩ = some (.int .i64 m1.kind) := by rw [hW1.out, World.cell?_alloc_new]; rfl
      have r1 : W1.cell? ⟨w1.heap.size, 1, none⟩ = some (.int .i64 m1.frm) := by rw [hW1.out, World.cell?_alloc_new]; rfl
      have r2 : W1.cell? ⟨w1.heap.size, 2, none⟩ = some (.int .i64 m1.dst) := by rw [hW1.out, World.cell?_alloc_new]; rfl
      have r3 : W1.cell? ⟨w1.heap.size, 3, none⟩ = some (.slice m1.am m1.marks.length m1.cm) := by rw [hW1.out, World.cell?_alloc_new]; rfl
      have r4 : W1.cell? ⟨w1.heap.size, 4, none⟩ = some (.slice m1.ae m1.evs.length m1.ce) := by rw [hW1.out, World.cell?_alloc_new]; rfl
      replace hin1 := hin1.kept (show Below w1.heap.size w1 W1 by rw [hW1.out]; exact (Below.refl _ _).alloc (Nat.le_refl _) _)
      replace hin := hin.kept hbt
      have H1 := Lib.hid hm1
      clear hW1 hb1 hm1 HP
      go_upto_region 5 with (first
        | (go_at_call 41; (with_reducible refine (HR.out _ hin).mono ?_); rintro x w2 ⟨m2, rfl, hm2, hin2, hb2⟩)
        | (refine wpList_store_new 78 _ _ _ #[.int .i64 m2.kind, .int .i64 m2.frm, .int .i64 m2.dst, .slice m2.am m2.marks.length m2.cm, .slice m2.ae m2.evs.length m2.ce] rfl rfl (by kernel_rfl) rfl (by kernel_rfl) ?_))
      refine wp_name (fun W2 hW2 => ?_)
      have hb12 : Below W1.heap.size W1 W2 := by rw [hW2.out]; exact hb2.alloc hb2.size _
      have s0 : W2.cell? ⟨w2.heap.size, 0, none⟩ = some (.int .i64 m2.kind) := by rw [hW2.out, World.cell?_alloc_new]; rfl
      have s1 : W2.cell? ⟨w2.heap.size, 1, none⟩ = some (.int .i64 m2.frm) := by rw [hW2.out, World.cell?_alloc_new]; rfl
      have s2 : W2.cell? ⟨w2.heap.size, 2, none⟩ = some (.int .i64 m2.dst) := by rw [hW2.out, World.cell?_alloc_new]; rfl
      have s3 : W2.cell? ⟨w2.heap.size, 3, none⟩ = some (.slice m2.am m2.marks.length m2.cm) := by rw [hW2.out, World.cell?_alloc_new]; rfl
      have s4 : W2.cell? ⟨w2.heap.size, 4, none⟩ = some (.slice m2.ae m2.evs.length m2.ce) := by rw [hW2.out, World.cell?_alloc_new]; rfl
      replace hin2 := hin2.kept (show Below w2.heap.size w2 W2 by rw [hW2.out]; exact (Below.refl _ _).alloc (Nat.le_refl _) _)
      replace hin1 := hin1.kept hb12
      replace hin := hin.kept hb12
      replace r0 := kept hb12 r0
      replace r1 := kept hb12 r1
      replace r2 := kept hb12 r2
      replace r3 := kept hb12 r3
      replace r4 := kept hb12 r4
      replace hbt := below2 hbt hb12
      have H2 := Lib.hid hm2
      clear hW2 hb2 hb12 hm2 HR
      have HS0 := fun (W : World) (a1 : MsgIn W m1) (a2 : MsgIn W m2) => rMsgSame_any m1 m2 W (HSM.out _ H1.out) (HSM.out _ H2.out) a1 a2
      simp only [H1.out, H2.out, decide_true] at HS0
      have HS := Lib.hid HS0
      clear HS0
      unfold RetOk at HB1
      go_wp2_with (first
        | (go_at_call 40; (with_reducible refine (HS.out _ hin1 hin2).mono ?_); rintro v w3 ⟨rfl, hb3⟩; replace hin1 := hin1.kept hb3; replace hin := hin.kept hb3; replace r0 := kept hb3 r0; replace r1 := kept hb3 r1; replace r2 := kept hb3 r2; replace r3 := kept hb3 r3; replace r4 := kept hb3 r4; replace hbt := below2 hbt hb3)
        | (go_at_call 35; (with_reducible refine (HB1.out m1 H1.out _ hin1).mono ?_); rintro v w4 ⟨vb, rfl, hown, hb4⟩; obtain ⟨ab, cb, rfl, hinb⟩ := own_bytes hown; replace hin := hin.kept hb4; replace hbt := below2 hbt hb4)
        | (go_at_call 17; (with_reducible refine (HSB.out _ _ _ hinb hin).mono ?_); rintro v w5 ⟨rfl, hb5⟩; replace hbt := below2 hbt hb5)
        | (go_at_call 34; (with_reducible refine (HA.out _).mono ?_); rintro v w6 ⟨rfl, hb6⟩; replace hbt := below2 hbt hb6))
      go_ret
      exact ⟨rfl, hbt⟩
    · have hM := msgParse_none hx he
      have HSM : Hid (∀ m : MsgIt, m.msg = M → MsgSmall m) := fun m hm => msg0_smallP (hm.trans hM)
      have q1 : (e == 0) = false := beq_eq_false_iff_ne.2 he
      have q2 : (e != 0) = true := by rw [bne_iff_ne]; exact he
      clear HP0 HR0 hx h5 hM he
      go_enter Tryz.func8, Tryz.ntmps8
      go_upto_region 4 with (first
        | (go_at_call 38; (with_reducible refine (HP.out _ hin).mono ?_); rintro x w1 ⟨m1, rfl, hm1, hin1, hb1⟩)
        | (refine wpList_store_new 78 _ _ _ #[.int .i64 m1.kind, .int .i64 m1.frm, .int .i64 m1.dst, .slice m1.am m1.marks.length m1.cm, .slice m1.ae m1.evs.length m1.ce] rfl rfl (by kernel_rfl) rfl (by kernel_rfl) ?_))
      refine wp_name (fun W1 hW1 => ?_)
      have hbt : Below w.heap.size w W1 := by rw [hW1.out]; exact hb1.alloc hb1.size _
      have r0 : W1.cell? ⟨w1.heap.size, 0, none⟩ = some (.int .i64 m1.kind) := by rw [hW1.out, World.cell?_alloc_new]; rfl
      have r1 : W1.cell? ⟨w1.heap.size, 1, none⟩ = some (.int .i64 m1.frm) := by rw [hW1.out, World.cell?_alloc_new]; rfl
      have r2 : W1.cell? ⟨w1.heap.size, 2, none⟩ = some (.int .i64 m1.dst) := by rw [hW1.out, World.cell?_alloc_new]; rfl
      have r3 : W1.cell? ⟨w1.heap.size, 3, none⟩ = some (.slice m1.am m1.marks.length m1.cm) := by rw [hW1.out, World.cell?_alloc_new]; rfl
      have r4 : W1.cell? ⟨w1.heap.size, 4, none⟩ = some (.slice m1.ae m1.evs.length m1.ce) := by rw [hW1.out, World.cell?_alloc_new]; rfl
      replace hin1 := hin1.kept (show Below w1.heap.size w1 W1 by rw [hW1.out]; exact (Below.refl _ _).alloc (Nat.le_refl _) _)
      replace hin := hin.kept hbt
      have H1 := Lib.hid hm1
      clear hW1 hb1 hm1 HP
      go_upto_region 5 with (first
        | (go_at_call 41; (with_reducible refine (HR.out _ hin).mono ?_); rintro x w2 ⟨m2, rfl, hm2, hin2, hb2⟩)
        | (refine wpList_store_new 78 _ _ _ #[.int .i64 m2.kind, .int .i64 m2.frm, .int .i64 m2.dst, .slice m2.am m2.marks.length m2.cm, .slice m2.ae m2.evs.length m2.ce] rfl rfl (by kernel_rfl) rfl (by kernel_rfl) ?_))
      refine wp_name (fun W2 hW2 => ?_)
      have hb12 : Below W1.heap.size W1 W2 := by rw [hW2.out]; exact hb2.alloc hb2.size _
      have s0 : W2.cell? ⟨w2.heap.size, 0, none⟩ = some (.int .i64 m2.kind) := by rw [hW2.out, World.cell?_alloc_new]; rfl
      have s1 : W2.cell? ⟨w2.heap.size, 1, none⟩ = some (.int .i64 m2.frm) := by rw [hW2.out, World.cell?_alloc_new]; rfl
      have s2 : W2.cell? ⟨w2.heap.size, 2, none⟩ = some (.int .i64 m2.dst) := by rw [hW2.out, World.cell?_alloc_new]; rfl
      have s3 : W2.cell? ⟨w2.heap.size, 3, none⟩ = some (.slice m2.am m2.marks.length m2.cm) := by rw [hW2.out, World.cell?_alloc_new]; rfl
      have s4 : W2.cell? ⟨w2.heap.size, 4, none⟩ = some (.slice m2.ae m2.evs.length m2.ce) := by rw [hW2.out, World.cell?_alloc_new]; rfl
      replace hin2 := hin2.kept (show Below w2.heap.size w2 W2 by rw [hW2.out]; exact (Below.refl _ _).alloc (Nat.le_refl _) _)
      replace hin1 := hin1.kept hb12
      replace hin := hin.kept hb12
      replace r0 := kept hb12 r0
      replace r1 := kept hb12 r1
      replace r2 := kept hb12 r2
      replace r3 := kept hb12 r3
      replace r4 := kept hb12 r4
      replace hbt := below2 hbt hb12
      have H2 := Lib.hid hm2
      clear hW2 hb2 hb12 hm2 HR
      have HS0 := fun (W : World) (a1 : MsgIn W m1) (a2 : MsgIn W m2) => rMsgSame_any m1 m2 W (HSM.out _ H1.out) (HSM.out _ H2.out) a1 a2
      simp only [H1.out, H2.out, decide_true] at HS0
      have HS := Lib.hid HS0
      clear HS0
      go_wp2_with (first
        | (go_at_call 40; (with_reducible refine (HS.out _ hin1 hin2).mono ?_); rintro v w3 ⟨rfl, hb3⟩; replace hbt := below2 hbt hb3)
        | (go_at_call 34; (with_reducible refine (HA.out _).mono ?_); rintro v w6 ⟨rfl, hb6⟩; replace hbt := below2 hbt hb6))
      go_ret
      exact ⟨rfl, hbt⟩
end Go.Proofs.YtnpdfmpjjomhcaaGreat
