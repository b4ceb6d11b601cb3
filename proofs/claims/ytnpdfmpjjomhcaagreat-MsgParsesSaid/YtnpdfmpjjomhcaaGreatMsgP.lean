/- A message's bytes are parsed again: plain laws; the law's own example; a message that came in. Conditions: messages that may be. -/
import Derived.Test.YtnpdfmpjjomhcaaGreatMsgD
import Derived.Test.YtnpdfmpjjomhcaaGreatVecGet
import Derived.Test.YtnpdfmpjjomhcaaGreatOpenB
set_option linter.unusedSimpArgs false
set_option linter.unusedVariables false
set_option linter.unnecessarySimpa false
namespace Go.Proofs.YtnpdfmpjjomhcaaGreat
open Go.RowKit

theorem rMarks_marks {mk : List Dot} (h : marksErr mk = 0) (s : Bytes) : rMarks ⟨marksB mk ++ s, 0⟩ = (⟨s, 0⟩, mk) := by
  obtain ⟨h1, h2⟩ := marksErr_all h
  unfold rMarks marksB
  rw [List.append_assoc, rNum_short 4096 mk.length _ (by omega) h1]
  simp only
  rw [rDots_dots mk s h2]
  unfold rMarksEnd
  simp [h]
theorem rEvs_evs : ∀ (l : List Ev) (s : Bytes), (∀ e ∈ l, evOk e = true) → rEvs l.length ⟨evsB l ++ s, 0⟩ = (⟨s, 0⟩, l)
  | [], s, _ => by simp [rEvs, evsB]
  | e :: l, s, h => by
    have h1 : evsB (e :: l) ++ s = evB e ++ (evsB l ++ s) := by simp [evsB]
    rw [h1, List.length_cons, rEvs, if_pos rfl, rEv_ev (h e (by simp))]
    simp only [rEvs_evs l s (fun x hx => h x (by simp [hx]))]
theorem msgRead_msgB {m : Msg} (h : msgOk m = true) : msgRead (msgB m) = (m, 0) := by
  have hf := msgOk_fit h
  obtain ⟨kd, fr, ds, mk, es⟩ := m
  have k1 := hf.kind
  have k2 := hf.frm
  have k3 := hf.dst
  have k4 := hf.marks
  have k5 := hf.len
  have k6 := hf.evs
  simp only at k1 k2 k3 k4 k5 k6
  have e : msgB ⟨kd, fr, ds, mk, es⟩ = shortB kd.toNat ++ (shortB fr.toNat ++ (shortB ds.toNat ++ (marksB mk ++ (shortB es.length ++ (evsB es ++ []))))) := by
    unfold msgB msgHead; simp
  unfold msgRead
  rw [e, rNum_short 3 kd.toNat _ (by omega) (by omega)]
  simp only
  rw [rNum_short 63 fr.toNat _ (by omega) (by omega)]
  simp only
  rw [rNum_short 63 ds.toNat _ (by omega) (by omega)]
  simp only
  rw [rMarks_marks k4]
  simp only
  rw [rNum_short 256 es.length _ (by omega) (by omega)]
  simp only
  rw [rEvs_evs es [] k6]
  unfold msgEnd rEnd
  simp only [if_true, List.length_nil, Nat.lt_irrefl, if_false]
  rw [Int.toNat_of_nonneg (by omega), Int.toNat_of_nonneg (by omega), Int.toNat_of_nonneg (by omega), if_pos h]
theorem msgParse_frame {m : Msg} (h : msgOk m = true) (hl : (msgB m).length ≤ 1048576) : msgParse (frameB (msgB m)) = (m, 0) := by
  have h1 := frGet_frame (msgB m) [] hl
  rw [List.append_nil] at h1
  have h2 : frOne (frameB (msgB m)) = (msgB m, 0) := by
    unfold frOne
    rw [h1]
    simp only [if_true]
    rw [if_neg (by rw [frameB_len]; omega)]
  unfold msgParse
  rw [h2]
  simp only [if_true]
  exact msgRead_msgB h
theorem evsB_len : ∀ (l : List Ev), (∀ e ∈ l, evOk e = true) → (evsB l).length ≤ 8192 * l.length
  | [], _ => by simp [evsB]
  | e :: l, h => by
    have h1 : evsB (e :: l) = evB e ++ evsB l := by simp [evsB]
    have h2 := evB_short (h e (by simp))
    have h3 := evsB_len l (fun x hx => h x (by simp [hx]))
    rw [h1, List.length_append, List.length_cons]; omega
theorem msgB_len {m : Msg} (h : msgOk m = true) (hl : mlight m = true) : (msgB m).length ≤ 1048576 := by
  have hf := msgOk_fit h
  have h1 := msgHead_len hf
  have h2 := evsB_len m.evs hf.evs
  unfold mlight lightAll at hl
  simp only [Bool.and_eq_true, decide_eq_true_eq] at hl
  have := hl.2.1
  unfold msgB
  rw [List.length_append]; omega
/-- what a message that comes in has -/
structure MsgArg (w : World) (m : MsgIt) : Prop where
  marks : DotsIn w m.am m.marks
  evs : EvsArg w m.ae m.evs
  len : m.marks.length ≤ maxLen
  old : ∀ A off, m.am = some ⟨A, off, none⟩ → m.marks ≠ [] → A < w.heap.size
theorem MsgArg.inn {w : World} {m : MsgIt} (h : MsgArg w m) : MsgIn w m := ⟨h.marks, h.evs.evs⟩
theorem MsgArg.olds {w : World} {m : MsgIt} (h : MsgArg w m) : MsgOld w (fun _ => False) m :=
  ⟨h.inn, fun A off h1 h2 => ⟨h.old A off h1 h2, fun e => e⟩, fun A off h1 h2 => ⟨h.evs.old A off h1 h2, fun e => e⟩, fun x hx A off h1 h2 => ⟨(h.evs.each x hx).old A off h1 h2, fun e => e⟩⟩
theorem MsgArg.sizes {w : World} {m : MsgIt} (h : MsgArg w m) : ∀ x ∈ m.evs, x.1.over.length ≤ maxLen ∧ x.1.key.name.size ≤ maxLen ∧ x.1.key.domain.size ≤ maxLen ∧ x.1.key.path.size ≤ maxLen ∧ x.1.ck.value.size ≤ maxLen :=
  fun x hx => ⟨(h.evs.each x hx).over, (h.evs.each x hx).name, (h.evs.each x hx).domain, (h.evs.each x hx).path, (h.evs.each x hx).value⟩
theorem mlight_small {m : MsgIt} (h : mlight m.msg = true) : MsgSmall m := by
  unfold mlight lightAll MsgIt.msg at h
  simp only [Bool.and_eq_true, decide_eq_true_eq, evsOf_length, List.all_eq_true] at h
  exact ⟨by omega, by omega, fun x hx => light_small (h.2.2 x.1 (List.mem_map_of_mem hx))⟩
section
variable {H : Type} {enc : TypeId × Value → H} {w : World} {base : Nat} {spare : Nat → Bool} {held : Bool}
open Go.ChangeShapes Go.WideShapes Go.ChangeAt
set_option maxRecDepth 100000 in
theorem open_marks {fuel : Nat} {cs : List Value} {x : DataW H × List MemPlace} (h : DataW.trod enc Tryz.prog w 0 spare held fuel 75 cs = some x) :
    ∃ (a : Option Addr) (l : List Dot) (cap : Nat), cs = [.slice a l.length cap] ∧ DotsIn w a l ∧ l.length ≤ maxLen ∧ (∀ A off, a = some ⟨A, off, none⟩ → l ≠ [] → A < w.heap.size) := by
  rcases Deep.open_slice Tryz.underlying75 h with ⟨rfl, _⟩ | ⟨a, len, cap, m, n, D, Pl, rfl, _, hl, hm, hmm, _, hel⟩
  · exact ⟨none, [], 0, rfl, Or.inl rfl, Nat.zero_le _, fun _ _ h => by cases h⟩
  have hlm : len ≤ m := by rw [hmm]; split <;> omega
  have hc3 : Tryz.prog.cellsOf 142 = 3 := by kernel_rfl
  rw [hc3] at hel
  have hrows := rows_at (a := a) (n := 3) (len := len) (by decide) (R := fun i cs => cs.length = 3 → ∃ d : Dot, cs = [.int .i64 d.a.dev, .int .i64 d.a.inc, .int .i64 d.seq]) (fun i hi => by
    obtain ⟨cs', hcs, ht⟩ := hel i (by omega)
    refine ⟨cs', hcs, fun hl => ?_⟩
    match cs', hl with
    | [c0, c1, c2], _ =>
      obtain ⟨_, _, hA⟩ := trod_field Tryz.underlying142 ht 0 _ rfl 2 (by kernel_rfl) [c0, c1] rfl
      obtain ⟨_, _, hS⟩ := trod_field Tryz.underlying142 ht 1 _ rfl 1 (by kernel_rfl) [c2] rfl
      obtain ⟨_, _, hD⟩ := trod_field Tryz.underlying23 hA 0 _ rfl 1 (by kernel_rfl) [c0] rfl
      obtain ⟨_, _, hI⟩ := trod_field Tryz.underlying23 hA 1 _ rfl 1 (by kernel_rfl) [c1] rfl
      obtain ⟨x0, e0, _, w0⟩ := DataW.trod_int Tryz.underlying3 hD
      obtain ⟨x1, e1, _, w1⟩ := DataW.trod_int Tryz.underlying3 hI
      obtain ⟨x2, e2, _, w2⟩ := DataW.trod_int Tryz.underlying3 hS
      simp only [List.cons.injEq, and_true] at e0 e1 e2
      subst e0 e1 e2
      exact ⟨⟨⟨x0, x1⟩, x2⟩, rfl⟩)
  rcases hrows with h0 | ⟨A, off, rfl, hr⟩
  · subst h0
    exact ⟨some a, [], cap, rfl, Or.inl rfl, Nat.zero_le _, fun _ _ _ h => absurd rfl h⟩
  · obtain ⟨ls, hll, hlr⟩ := list_of (R := fun i (d : Dot) => w.rangeAt A (off + i * 3) [.int .i64 d.a.dev, .int .i64 d.a.inc, .int .i64 d.seq]) len (fun i hi => by
      obtain ⟨cs', hl', hrg, hR⟩ := hr i hi
      obtain ⟨d, rfl⟩ := hR hl'
      exact ⟨d, hrg⟩)
    subst hll
    have hd : DotsAt w A off ls := ⟨fun i hi => by have := hlr i hi 0 _ rfl; rwa [Nat.add_zero] at this, fun i hi => hlr i hi 1 _ rfl, fun i hi => hlr i hi 2 _ rfl⟩
    refine ⟨_, ls, cap, rfl, Or.inr ⟨A, off, rfl, hd⟩, by omega, fun A' off' he hne => ?_⟩
    cases he
    exact World.block_lt_of_cell? w _ (hd.dev 0 (List.length_pos_iff.2 hne))
set_option maxRecDepth 100000 in
theorem open_msg {r : Reach} {b0 : Nat} {v : Value} {d : DataW H} {p : List MemPlace} (hv : Value.okWide Tryz.prog w r b0 78 v) (h : DataW.Trod enc Tryz.prog w 0 spare held 78 v d p) :
    ∃ (m : MsgIt), v = msgVal m ∧ MsgArg w m := by
  obtain ⟨⟨cs⟩, rfl, hsz⟩ := okWide_struct Tryz.underlying78 hv
  have hc : Tryz.prog.cellsOf 78 = 5 := by kernel_rfl
  rw [hc] at hsz
  obtain ⟨fuel, hf⟩ := h
  simp only [Value.cells] at hf
  match cs, hsz with
  | [c0, c1, c2, c3, c4], _ =>
    obtain ⟨_, _, h0⟩ := trod_field Tryz.underlying78 hf 0 _ rfl 1 (by kernel_rfl) [c0] rfl
    obtain ⟨_, _, h1⟩ := trod_field Tryz.underlying78 hf 1 _ rfl 1 (by kernel_rfl) [c1] rfl
    obtain ⟨_, _, h2⟩ := trod_field Tryz.underlying78 hf 2 _ rfl 1 (by kernel_rfl) [c2] rfl
    obtain ⟨_, _, h3⟩ := trod_field Tryz.underlying78 hf 3 _ rfl 1 (by kernel_rfl) [c3] rfl
    obtain ⟨_, _, h4⟩ := trod_field Tryz.underlying78 hf 4 _ rfl 1 (by kernel_rfl) [c4] rfl
    obtain ⟨x0, e0, _, _⟩ := DataW.trod_int Tryz.underlying3 h0
    obtain ⟨x1, e1, _, _⟩ := DataW.trod_int Tryz.underlying3 h1
    obtain ⟨x2, e2, _, _⟩ := DataW.trod_int Tryz.underlying3 h2
    obtain ⟨am, mk, cm, e3, hd, hl, ho⟩ := open_marks h3
    obtain ⟨ae, es, ce, e4, hE⟩ := open_evs h4
    simp only [List.cons.injEq, and_true] at e0 e1 e2 e3 e4
    subst e0 e1 e2 e3 e4
    exact ⟨⟨x0, x1, x2, mk, am, cm, es, ae, ce⟩, rfl, ⟨hd, hE, hl, ho⟩⟩
end
end Go.Proofs.YtnpdfmpjjomhcaaGreat

/- The message laws' own example. Conditions: none. -/
namespace Go.Proofs.YtnpdfmpjjomhcaaGreat
open Go.RowKit

def mit1 : MsgIt := ⟨3, 0, 1, [], none, 0, [], none, 0⟩
theorem mit1_ok : msgOk mit1.msg = true := by decide +kernel
theorem mit1_B : msgB mit1.msg = [3, 0, 1, 0, 0] := by
  unfold msgB msgHead marksB mit1 MsgIt.msg
  simp only [evsOf, List.map_nil, List.length_nil]
  rw [show (3 : Int).toNat = 3 from rfl, show (0 : Int).toNat = 0 from rfl, show (1 : Int).toNat = 1 from rfl, shortB_small 3 (by omega), shortB_small 0 (by omega), shortB_small 1 (by omega)]
  rfl
theorem mit1_line : ∃ r, frameB (msgB mit1.msg) = 5 :: 3 :: r ∧ r.length = 8 := by
  unfold frameB
  rw [mit1_B, show ([3, 0, 1, 0, 0] : Bytes).length = 5 from rfl, shortB_small 5 (by omega)]
  exact ⟨0 :: 1 :: 0 :: 0 :: le4 (crcSum [3, 0, 1, 0, 0]), rfl, rfl⟩
theorem mit1_old (w : World) (S : Nat → Prop) : MsgOld w S mit1 where
  inn := ⟨Or.inl rfl, ⟨Or.inl rfl, (fun x hx => by simp [mit1] at hx)⟩⟩
  om := fun A off h => by cases h
  oe := fun A off h => by cases h
  od := fun x hx => by simp [mit1] at hx
set_option maxRecDepth 100000 in
set_option maxHeartbeats 2000000 in
theorem awake35_any (w : World) : Calls Tryz.prog 34 #[] w fun x w' => x = .returned (.bool true) ∧ Below w.heap.size w w' := by
  have hsm : MsgSmall mit1 := ⟨by decide, by decide, fun x hx => by simp [mit1] at hx⟩
  have hL : ∀ (W : World), Calls Tryz.prog 35 #[.agg #[.int .i64 3, .int .i64 0, .int .i64 1, .slice none 0 0, .slice none 0 0]] W (RetOk (frameB (msgB mit1.msg)) W) := fun W => MsgBytes_yes mit1 W hsm (mit1_old W _) mit1_ok (by rw [mit1_B]; decide)
  unfold RetOk at hL
  obtain ⟨r, hr, h4⟩ := mit1_line
  have hsc := msgParse_frame mit1_ok (by rw [mit1_B]; decide)
  obtain ⟨m, hm⟩ : ∃ m, m = frameB (msgB mit1.msg) := ⟨_, rfl⟩
  rw [← hm] at hL hr hsc
  have h7 : m.length = 10 := by rw [hr]; simp [h4]
  have hS := fun (W : World) (a : Option Addr) (c : Nat) (h : BytesIn W a m) (hc : m.length ≤ c) => MsgParse_any a c m W (by omega) hc h
  unfold RetMsg at hS
  rw [hsc] at hS
  rw [h7] at hL hS
  have hb1 : m[1]? = some 3 := by rw [hr]; rfl
  have HL := Lib.hid hL
  have HS := Lib.hid hS
  have H7 := Lib.hid h7
  have HB1 := Lib.hid hb1
  clear hL hS hr hsc hm h4 hb1 hsm
  go_enter Tryz.func34, Tryz.ntmps34
  go_upto_region 2 with (go_at_call 35; (with_reducible refine (HL.out _).mono ?_); rintro x w1 ⟨v, rfl, hown, hb⟩)
  have hown2 : w1.ownsRow w.heap.size 5 1 v m.length (byteVals m) := by rw [h7]; exact hown
  obtain ⟨a1, c1, hv, hin⟩ := own_bytes hown2
  rw [h7] at hv
  subst hv
  have hc1 := own_cap2 hown
  clear hown hown2 h7
  go_upto_region 3 with (first
    | (go_at_call 38; (with_reducible refine (HS.out _ _ _ hin hc1).mono ?_); rintro x w2 ⟨mi, rfl, hmi, _, hb2⟩)
    | (refine wpList_store_new 78 _ _ _ #[.int .i64 mi.kind, .int .i64 mi.frm, .int .i64 mi.dst, .slice mi.am mi.marks.length mi.cm, .slice mi.ae mi.evs.length mi.ce] rfl rfl (by kernel_rfl) rfl (by kernel_rfl) ?_))
  have hto : mi.dst = 1 := by have := congrArg Msg.dst hmi; simpa [MsgIt.msg, mit1] using this
  refine wp_name (fun W3 hW3 => ?_)
  have hb3 : Below w2.heap.size w2 W3 := by rw [hW3.out]; exact (Below.refl _ _).alloc (Nat.le_refl _) _
  have k2 : W3.cell? ⟨w2.heap.size, 2, none⟩ = some (.int .i64 1) := by rw [hW3.out, World.cell?_alloc_new, hto]; rfl
  have hbt : Below w.heap.size w W3 := below2 hb (below2 hb2 hb3)
  have hin2 := (hin.kept hb2).kept hb3
  obtain ⟨A, off, rfl, hbb⟩ : ∃ A off, a1 = some ⟨A, off, none⟩ ∧ BytesAt W3 A off m := by
    rcases hin2 with h | h
    · have := H7.out; rw [h] at this; simp at this
    · exact h
  have k1 : W3.cell? ⟨A, off + 1, none⟩ = some (.int .u8 3) := by have := hbb 1 (by have := H7.out; omega); rw [(List.getElem?_eq_some_iff.1 HB1.out).2] at this; exact this
  clear hW3 hb hb2 hb3 hmi hto hin hin2 hbb
  go_wp2
  go_ret
  exact ⟨rfl, hbt⟩
end Go.Proofs.YtnpdfmpjjomhcaaGreat
