/- Marks, packed: by the program and by the reference. Conditions: marks that may be. -/
import Derived.Test.YtnpdfmpjjomhcaaGreatMark
import Derived.Test.YtnpdfmpjjomhcaaGreatRefPut
import Derived.Test.YtnpdfmpjjomhcaaGreatPut
import Derived.Test.YtnpdfmpjjomhcaaGreatLoadB
import Derived.Test.YtnpdfmpjjomhcaaGreatReadK
import Derived.Test.YtnpdfmpjjomhcaaGreatFrameP
set_option linter.unusedSimpArgs false
set_option linter.unusedVariables false
set_option linter.unnecessarySimpa false
namespace Go.Proofs.YtnpdfmpjjomhcaaGreat
open Go.RowKit

def marksB (l : List Dot) : Bytes := shortB l.length ++ dotsB l
theorem marksFrom_all : ∀ (l : List Dot) (p : Option Dot), marksFrom p l = 0 → ∀ x ∈ l, dotOk x = true
  | [], _, _ => fun x hx => by simp at hx
  | y :: r, p, h => by
    unfold marksFrom at h
    split at h
    · rename_i h1
      split at h
      · intro x hx
        rcases List.mem_cons.1 hx with rfl | hx
        · exact h1
        · exact marksFrom_all r _ h x hx
      · omega
    · omega
theorem marksErr_all {l : List Dot} (h : marksErr l = 0) : l.length ≤ 4096 ∧ ∀ x ∈ l, dotOk x = true := by
  unfold marksErr at h
  split at h
  · omega
  · exact ⟨by omega, marksFrom_all l none h⟩
theorem kept2 {w0 w : World} (hb : Below w0.heap.size w0 w) {p : Addr} {v : Value} (h : w0.cell? p = some v) : w.cell? p = some v := kept hb h
/-- what a list lies on was there in w0, and is none of S -/
def OldAt (w0 : World) (S : Nat → Prop) (a : Option Addr) (ne : Prop) : Prop := ∀ A off, a = some ⟨A, off, none⟩ → ne → A < w0.heap.size ∧ ¬ S A
theorem Hold.dots {S : Nat → Prop} {w0 w : World} {B : Nat} {l : Bytes} (h : Hold S w0 B w l) {a : Option Addr} {mk : List Dot} (hd : DotsIn w0 a mk) (ho : OldAt w0 S a (mk ≠ [])) : DotsIn w a mk :=
  hd.keep (fun A off ha hne => h.fr.block A (ho A off ha hne).1 (ho A off ha hne).2)
theorem Hold.alloc {S : Nat → Prop} {w0 w : World} {B : Nat} {l : Bytes} (h : Hold S w0 B w l) (o : Obj) : Hold S w0 B (w.alloc o) l := h.below ((Below.refl _ _).alloc (Nat.le_refl _) o)
set_option maxRecDepth 100000 in
set_option maxHeartbeats 4000000 in
theorem vecPut_h {S : Nat → Prop} {w0 w : World} {B : Nat} {l : Bytes} (h : Hold S w0 B w l) (a : Option Addr) (cap : Nat) (mk : List Dot) (hl : l.length ≤ 1048576) (hm : marksErr mk = 0) (hd : DotsIn w0 a mk) (ho : OldAt w0 S a (mk ≠ [])) :
    Calls Tryz.prog 75 #[.pointer (some ⟨B, 0, none⟩), .slice a mk.length cap] w fun e w' => e = .returned (.int .i64 0) ∧ Hold S w0 B w' (l ++ marksB mk) := by
  obtain ⟨hml, _⟩ := marksErr_all hm
  have HC0 := fun (W : World) (h : DotsIn W a mk) => vecCheck_any a cap mk W (by omega) h
  rw [hm] at HC0
  have HC := Lib.hid HC0
  have hsl := shortB_len10 mk.length (by omega)
  have HN := Lib.hid (fun (W : World) (h : Hold S w0 B W l) => Num_h h mk.length (by omega) (by omega))
  have HP := Lib.hid (fun (W : World) (d : Dot) (L : Bytes) (hL : L.length ≤ 268435456) (h : Hold S w0 B W L) => dotPut_h h d hL)
  have HE : Hid (l ++ marksB mk = l ++ shortB mk.length ++ dotsB mk) := by unfold Hid marksB; simp
  obtain ⟨M, hM⟩ : ∃ M, M = l ++ shortB mk.length := ⟨_, rfl⟩
  have hMl : M.length ≤ 1048600 := by rw [hM, List.length_append]; omega
  rw [← hM] at HN HE
  clear hM HC0 hm hsl
  go_enter Tryz.func75, Tryz.ntmps75
  go_upto_region 5 with (first
    | (go_at_call 79; (with_reducible refine (HC.out _ (h.dots hd ho)).mono ?_); rintro x w1 ⟨rfl, hb⟩; replace h := h.below hb; clear hb)
    | (go_at_call 47; (with_reducible refine (HN.out _ h).mono ?_); rintro x w2 ⟨rfl, H2⟩))
  clear h
  go_wp2
  go_loopw [20] (fun i wr => ∃ k : Nat, k ≤ mk.length ∧ i = .int .i64 k ∧ Hold S w0 B wr (M ++ dotsB (mk.take k))) (fun i _ => mk.length - (intOf i).toNat)
  case atStart => exact ⟨0, Nat.zero_le _, rfl, by simpa [dotsB] using H2⟩
  case round =>
    obtain ⟨k, hk, rfl, H⟩ := hrel
    by_cases hlt : k < mk.length
    · have hdw := H.dots hd ho
      have hln : (M ++ dotsB (mk.take k)).length ≤ 268435456 := by
        have := dotsB_len (mk.take k)
        rw [List.length_append]; simp at this; omega
      have hsn : mk.take (k + 1) = mk.take k ++ [mk[k]] := List.take_succ_eq_append_getElem hlt
      rcases hdw with h0 | ⟨A, off, rfl, hda⟩
      · rw [h0] at hlt; simp at hlt
      have e0 := hda.dev k hlt
      have e1 := hda.inc k hlt
      have e2 := hda.seq k hlt
      have HS : Hid (M ++ dotsB (mk.take (k + 1)) = M ++ dotsB (mk.take k) ++ dotB mk[k]) := by rw [Hid, hsn, dotsB_snoc, List.append_assoc]
      clear hsn
      generalize mk[k] = x at e0 e1 e2 HS
      obtain ⟨L, hL⟩ : ∃ L, L = M ++ dotsB (mk.take k) := ⟨_, rfl⟩
      rw [← hL] at H hln HS
      clear hL H2
      go_upto_region 8 with fail
      refine wp_name (fun W1 hW1 => ?_)
      have H1 : Hold S w0 B W1 L := by rw [hW1.out]; exact H.below (by go_grown)
      have x0 : W1.cell? ⟨wr.heap.size, 0, none⟩ = some (.int .i64 x.a.dev) := by rw [hW1.out]; go_simp
      have x1 : W1.cell? ⟨wr.heap.size, 1, none⟩ = some (.int .i64 x.a.inc) := by rw [hW1.out]; go_simp
      have x2 : W1.cell? ⟨wr.heap.size, 2, none⟩ = some (.int .i64 x.seq) := by rw [hW1.out]; go_simp
      clear hW1 H e0 e1 e2
      go_wp2_with (go_at_call 44; (with_reducible refine (HP.out _ _ _ hln H1).mono ?_); rintro v w3 ⟨rfl, H3⟩)
      go_roundw
      case rel => exact ⟨k + 1, by omega, by go_num, by rw [HS.out]; exact H3⟩
      case measure => simp [intOf] <;> omega
    · have hke : k = mk.length := by omega
      subst hke
      rw [List.take_length] at H
      go_wp2
      go_ret
      exact ⟨rfl, by rw [HE.out]; exact H⟩
set_option maxRecDepth 100000 in
set_option maxHeartbeats 4000000 in
theorem rMarksPut_any (a : Option Addr) (cap : Nat) (mk : List Dot) (w : World) (hm : marksErr mk = 0) (hd : DotsIn w a mk) :
    Calls Tryz.prog 84 #[.slice a mk.length cap] w (RetBytes (marksB mk) w) := by
  obtain ⟨i0, hi, hz0, hz1, hz2⟩ := info_parts Tryz.infoByte
  obtain ⟨hml, hall⟩ := marksErr_all hm
  have hsl := shortB_len10 mk.length (by omega)
  have HN := Lib.hid (fun (W : World) => rNumPut_any mk.length W (by omega))
  have HE : Hid (marksB mk = shortB mk.length ++ dotsB (mk.take mk.length)) := by unfold Hid marksB; rw [List.take_length]
  obtain ⟨M, hM⟩ : ∃ M, M = shortB mk.length := ⟨_, rfl⟩
  rw [← hM] at HN HE hsl
  clear hM hm
  go_enter Tryz.func84, Tryz.ntmps84
  go_upto_region 2 with (go_at_call 61; (with_reducible refine (HN.out _).mono ?_); rintro x W ⟨v, rfl, hown, hbt⟩)
  go_wp2
  go_loopw [3, 4] (fun out i wr => ∃ k : Nat, k ≤ mk.length ∧ i = .int .i64 k ∧ wr.ownsRow w.heap.size 5 1 out (M ++ dotsB (mk.take k)).length (byteVals (M ++ dotsB (mk.take k))) ∧ Below w.heap.size w wr) (fun _ i _ => mk.length - (intOf i).toNat)
  case atStart => exact ⟨0, Nat.zero_le _, rfl, by simpa [dotsB] using hown, hbt⟩
  case round =>
    obtain ⟨k, hk, rfl, hown2, hbw⟩ := hrel
    have hzw := hbw.size
    by_cases hlt : k < mk.length
    · have hln : (M ++ dotsB (mk.take k)).length ≤ 200000 := by
        have := dotsB_len (mk.take k)
        rw [List.length_append]; simp at this; omega
      have hsn : mk.take (k + 1) = mk.take k ++ [mk[k]] := List.take_succ_eq_append_getElem hlt
      rcases hd with h0 | ⟨A, off, rfl, hda⟩
      · rw [h0] at hlt; simp at hlt
      have e0 := hda.dev k hlt
      have e1 := hda.inc k hlt
      have e2 := hda.seq k hlt
      have hok := hall _ (List.getElem_mem hlt)
      have HS : Hid (M ++ dotsB (mk.take (k + 1)) = M ++ dotsB (mk.take k) ++ dotB mk[k]) := by rw [Hid, hsn, dotsB_snoc, List.append_assoc]
      clear hsn
      generalize mk[k] = x at e0 e1 e2 HS hok
      have hxl := dotB_len x
      have HP := Lib.hid (fun (W : World) => rdotPut_any x W hok)
      have hxn := dotB_ne hok
      obtain ⟨L, hL⟩ : ∃ L, L = M ++ dotsB (mk.take k) := ⟨_, rfl⟩
      rw [← hL] at hown2 hln HS
      obtain ⟨X, hX⟩ : ∃ X, X = dotB x := ⟨_, rfl⟩
      rw [← hX] at HS hxl HP hxn
      clear hL hown hok hX
      have hB : Below w.heap.size w wr.drew := hbw.drew
      replace hown2 : wr.drew.ownsRow w.heap.size 5 1 _ L.length (byteVals L) := hown2
      have hix0 : (0 : Int) ≤ (k : Int) := by omega
      have hix1 : (k : Int) < (mk.length : Int) := by omega
      go_wp2_with fail
      go_region_held3 (fun W' => W'.cell? ⟨A, off + k * 3, none⟩ = some (.int .i64 x.a.dev) ∧ W'.cell? ⟨A, off + k * 3 + 1, none⟩ = some (.int .i64 x.a.inc) ∧ W'.cell? ⟨A, off + k * 3 + 2, none⟩ = some (.int .i64 x.seq)) (first | exact ⟨kept2 hB e0, kept2 hB e1, kept2 hB e2⟩ | go_keep)
        (first
          | (go_at_call 58; (with_reducible refine (HP.out _).mono ?_); rintro v w3 ⟨vx, rfl, hown3, hb3⟩; obtain ⟨ax, cx, rfl, hinx⟩ := own_bytes hown3; replace hB := below2 hB hb3; replace hown2 := ownsRow_below hown2 hb3; clear hb3 hown3)
          | (refine step_append_bytes rfl (.tmp 15) (.tmp 27) rfl rfl w.heap.size _ L rfl hown2 ax X cx rfl hinx (by omega) hB.size ?_; intro v4 w4 hown4 hg4; replace hB := hB.grown hg4 hB.size (fun k hk => (hown2.lt k hk).1); clear hg4 hown2))
      go_wp2
      go_roundw
      case rel => exact ⟨k + 1, by omega, by go_num, by rw [HS.out]; exact hown4, hB⟩
      case measure => simp [intOf] <;> omega
    · have hke : k = mk.length := by omega
      subst hke
      go_wp2
      go_ret
      rw [HE.out]
      exact ⟨_, rfl, hown2, hbw⟩
end Go.Proofs.YtnpdfmpjjomhcaaGreat

/- A message's bytes, by the program. Conditions: at most 2^20 bytes. -/
namespace Go.Proofs.YtnpdfmpjjomhcaaGreat
open Go.RowKit

def evsB (l : List Ev) : Bytes := l.flatMap evB
theorem evsB_snoc (l : List Ev) (e : Ev) : evsB (l ++ [e]) = evsB l ++ evB e := by simp [evsB]
theorem evsB_take (l : List Ev) (k : Nat) : (evsB (l.take k)).length ≤ (evsB l).length := by
  have h : evsB l = evsB (l.take k) ++ evsB (l.drop k) := by
    have h0 := congrArg (List.flatMap evB) (List.take_append_drop k l)
    rw [List.flatMap_append] at h0
    exact h0.symm
  rw [h, List.length_append]; omega
def msgHead (m : Msg) : Bytes := shortB m.kind.toNat ++ shortB m.frm.toNat ++ shortB m.dst.toNat ++ marksB m.marks ++ shortB m.evs.length
def msgB (m : Msg) : Bytes := msgHead m ++ evsB m.evs
theorem risingFrom_all : ∀ (l : List Ev) (p : Option Ev), risingFrom p l = true → ∀ x ∈ l, evOk x = true
  | [], _, _ => fun x hx => by simp at hx
  | y :: r, p, h => by
    unfold risingFrom at h
    simp only [Bool.and_eq_true] at h
    intro x hx
    rcases List.mem_cons.1 hx with rfl | hx
    · exact h.1
    · exact risingFrom_all r _ h.2.2 x hx
structure MsgFit (m : Msg) : Prop where
  kind : 1 ≤ m.kind ∧ m.kind ≤ 3
  frm : 0 ≤ m.frm ∧ m.frm ≤ 63
  dst : 0 ≤ m.dst ∧ m.dst ≤ 63
  marks : marksErr m.marks = 0
  len : m.evs.length ≤ 256
  evs : ∀ e ∈ m.evs, evOk e = true
theorem msgOk_fit {m : Msg} (h : msgOk m = true) : MsgFit m := by
  unfold msgOk devOk msgRest at h
  simp only [Bool.and_eq_true, decide_eq_true_eq] at h
  obtain ⟨⟨⟨h1, h2⟩, ⟨h3, h4⟩, _⟩, h5⟩ := h
  split at h5
  · rename_i hk
    simp only [Bool.and_eq_true, decide_eq_true_eq] at h5
    obtain ⟨h6, h7⟩ := h5
    unfold risingOk at h7
    simp only [Bool.and_eq_true, decide_eq_true_eq] at h7
    have : m.marks = [] := List.length_eq_zero_iff.1 h6
    exact ⟨by omega, by omega, by omega, by rw [this]; rfl, h7.2, risingFrom_all _ none h7.1⟩
  · split at h5
    · rename_i hk
      simp only [Bool.and_eq_true, decide_eq_true_eq] at h5
      have : m.evs = [] := List.length_eq_zero_iff.1 h5.1
      exact ⟨by omega, by omega, by omega, h5.2, by rw [this]; simp, by rw [this]; simp⟩
    · cases h5
theorem msgHead_len {m : Msg} (h : MsgFit m) : (msgHead m).length ≤ 200000 := by
  have a := shortB_len10 m.kind.toNat (by have := h.kind; omega)
  have b := shortB_len10 m.frm.toNat (by have := h.frm; omega)
  have c := shortB_len10 m.dst.toNat (by have := h.dst; omega)
  have d := shortB_len10 m.evs.length (by have := h.len; omega)
  have e := (marksErr_all h.marks).1
  have f := shortB_len10 m.marks.length (by omega)
  have g := dotsB_len m.marks
  unfold msgHead marksB
  simp only [List.length_append]; omega
/-- a message's parts lie in w0, outside S -/
structure MsgOld (w0 : World) (S : Nat → Prop) (m : MsgIt) : Prop where
  inn : MsgIn w0 m
  om : OldAt w0 S m.am (m.marks ≠ [])
  oe : OldAt w0 S m.ae (m.evs ≠ [])
  od : ∀ x ∈ m.evs, OldAt w0 S x.2.1 (x.1.over ≠ [])
theorem OldAt.later {w0 w1 : World} {S T : Nat → Prop} {a : Option Addr} {ne : Prop} (h : OldAt w0 S a ne) (hs : w0.heap.size ≤ w1.heap.size) (ht : ∀ k, k < w0.heap.size → ¬ S k → ¬ T k) : OldAt w1 T a ne :=
  fun A off ha hn => ⟨by have := (h A off ha hn).1; omega, ht A (h A off ha hn).1 (h A off ha hn).2⟩
theorem MsgOld.later {w0 w1 : World} {S T : Nat → Prop} {m : MsgIt} (h : MsgOld w0 S m) (hb : Below w0.heap.size w0 w1) (ht : ∀ k, k < w0.heap.size → ¬ S k → ¬ T k) : MsgOld w1 T m :=
  ⟨h.inn.kept hb, h.om.later hb.size ht, h.oe.later hb.size ht, fun x hx => (h.od x hx).later hb.size ht⟩
theorem Hold.evs {S : Nat → Prop} {w0 w : World} {B : Nat} {l : Bytes} (h : Hold S w0 B w l) {m : MsgIt} (hm : MsgOld w0 S m) : EvsIn w m.ae m.evs := by
  refine ⟨hm.inn.evs.rows.imp id fun ⟨A, off, h1, h2⟩ => ⟨A, off, h1, fun i hi j v hv => ?_⟩, fun x hx => h.dots (hm.inn.evs.dots x hx) (hm.od x hx)⟩
  have hne : m.evs ≠ [] := fun e => by rw [e] at hi; simp at hi
  obtain ⟨h3, h4⟩ := hm.oe A off h1 hne
  exact (World.cell?_of_block (h.fr.block A h3 h4)).trans (h2 i hi j v hv)
theorem eventPut_h {S : Nat → Prop} {w0 w : World} {B : Nat} {l : Bytes} (h : Hold S w0 B w l) (e : Ev) (a : Option Addr) (cap : Nat) (hl : l.length ≤ 1048576) (hok : evOk e = true) (hd : DotsIn w0 a e.over) (ho : OldAt w0 S a (e.over ≠ [])) :
    Calls Tryz.prog 13 #[.pointer (some ⟨B, 0, none⟩), evVal e a cap] w (HoldUnit S w0 B (l ++ evB e)) := by
  refine (eventPut_yes (Proofs.YtnpdfmpjjomhcaaGreat.tight (grow S w0) w) B l e a cap w hl (evOk_small hok) (evOk_short hok).tiny (h.dots hd ho) ?_ h.wr.tight hok).mono fun x w' k => ⟨k.1, h.after k.2.wr k.2.fr⟩
  intro A off ha hne g
  obtain ⟨h1, h2⟩ := ho A off ha hne
  rcases g.1 with g | g
  · exact h2 g
  · omega
set_option maxRecDepth 100000 in
set_option maxHeartbeats 2000000 in
theorem MsgBytes_no (m : MsgIt) (w : World) (hs : MsgSmall m) (h : MsgIn w m) (hno : msgOk m.msg = false) :
    Calls Tryz.prog 35 #[msgVal m] w fun x w' => x = .returned (.tuple #[.slice none 0 0, .int .i64 1]) ∧ Below w.heap.size w w' := by
  have HR0 := fun (W : World) (h : MsgIn W m) => MsgRight_any m W hs h
  rw [hno] at HR0
  have HR := Lib.hid HR0
  clear HR0 hno
  go_enter Tryz.func35, Tryz.ntmps35
  go_upto_region 1 with fail
  refine wp_name (fun W hW => ?_)
  have hbt : Below w.heap.size w W := by rw [hW.out]; go_grown
  have c0 : W.cell? ⟨w.heap.size, 0, none⟩ = some (.int .i64 m.kind) := by rw [hW.out]; go_simp
  have c1 : W.cell? ⟨w.heap.size, 1, none⟩ = some (.int .i64 m.frm) := by rw [hW.out]; go_simp
  have c2 : W.cell? ⟨w.heap.size, 2, none⟩ = some (.int .i64 m.dst) := by rw [hW.out]; go_simp
  have c3 : W.cell? ⟨w.heap.size, 3, none⟩ = some (.slice m.am m.marks.length m.cm) := by rw [hW.out]; go_simp
  have c4 : W.cell? ⟨w.heap.size, 4, none⟩ = some (.slice m.ae m.evs.length m.ce) := by rw [hW.out]; go_simp
  have hm := h.kept hbt
  clear hW
  go_wp2_with (go_at_call 37; (with_reducible refine (HR.out _ hm).mono ?_); rintro v w1 ⟨rfl, hb⟩; replace hbt := below2 hbt hb)
  go_returns
  exact ⟨rfl, hbt⟩
set_option maxRecDepth 100000 in
set_option maxHeartbeats 8000000 in
theorem MsgBytes_yes (m : MsgIt) (w : World) (hs : MsgSmall m) (h : MsgOld w (fun _ => False) m) (hok : msgOk m.msg = true) (hlen : (msgB m.msg).length ≤ 1048576) :
    Calls Tryz.prog 35 #[msgVal m] w (RetOk (frameB (msgB m.msg)) w) := by
  obtain ⟨kd, fr, ds, mk, am, cm, es, ae, ce⟩ := m
  have hfit := msgOk_fit hok
  have HR0 := fun (W : World) (h : MsgIn W ⟨kd, fr, ds, mk, am, cm, es, ae, ce⟩) => MsgRight_any ⟨kd, fr, ds, mk, am, cm, es, ae, ce⟩ W hs h
  rw [hok] at HR0
  have HR := Lib.hid HR0
  have hhl := msgHead_len hfit
  obtain ⟨hk, hf, hd, hmk, hel, hall⟩ := hfit
  simp only [MsgIt.msg] at hk hf hd hmk hel hall
  rw [evsOf_length] at hel
  obtain ⟨nk, hnk⟩ : ∃ n : Nat, kd = n := ⟨kd.toNat, by omega⟩
  obtain ⟨nf, hnf⟩ : ∃ n : Nat, fr = n := ⟨fr.toNat, by omega⟩
  obtain ⟨nd, hnd⟩ : ∃ n : Nat, ds = n := ⟨ds.toNat, by omega⟩
  have bk : nk < 64 := by omega
  have bf : nf < 64 := by omega
  have bd : nd < 64 := by omega
  have HH : Hid (msgHead (MsgIt.msg ⟨kd, fr, ds, mk, am, cm, es, ae, ce⟩) = shortB nk ++ shortB nf ++ shortB nd ++ marksB mk ++ shortB es.length) := by
    unfold Hid msgHead MsgIt.msg; simp only [evsOf_length]; rw [hnk, hnf, hnd]; rfl
  have HB : Hid (msgB (MsgIt.msg ⟨kd, fr, ds, mk, am, cm, es, ae, ce⟩) = msgHead (MsgIt.msg ⟨kd, fr, ds, mk, am, cm, es, ae, ce⟩) ++ evsB (evsOf es)) := rfl
  have hml := (marksErr_all hmk).1
  have l1 := shortB_len10 nk (by omega)
  have l2 := shortB_len10 nf (by omega)
  have l3 := shortB_len10 nd (by omega)
  have l4 := shortB_len10 mk.length (by omega)
  have l5 := dotsB_len mk
  have l6 : (shortB nk ++ shortB nf ++ shortB nd ++ marksB mk).length ≤ 200000 := by unfold marksB; simp only [List.length_append]; omega
  have hXK := Lib.hid hnk
  have hXF := Lib.hid hnf
  have hXD := Lib.hid hnd
  have hal := Lib.hid hall
  have hmk0 := Lib.hid hmk
  clear HR0 hok hnk hnf hnd hall hmk hk hf hd
  change Calls Tryz.prog 35 #[.agg #[.int .i64 kd, .int .i64 fr, .int .i64 ds, .slice am mk.length cm, .slice ae es.length ce]] w _
  go_enter Tryz.func35, Tryz.ntmps35
  go_upto_region 1 with fail
  refine wp_name (fun W hW => ?_)
  have hbt : Below w.heap.size w W := by rw [hW.out]; go_grown
  have c0 : W.cell? ⟨w.heap.size, 0, none⟩ = some (.int .i64 kd) := by rw [hW.out]; go_simp
  have c1 : W.cell? ⟨w.heap.size, 1, none⟩ = some (.int .i64 fr) := by rw [hW.out]; go_simp
  have c2 : W.cell? ⟨w.heap.size, 2, none⟩ = some (.int .i64 ds) := by rw [hW.out]; go_simp
  have c3 : W.cell? ⟨w.heap.size, 3, none⟩ = some (.slice am mk.length cm) := by rw [hW.out]; go_simp
  have c4 : W.cell? ⟨w.heap.size, 4, none⟩ = some (.slice ae es.length ce) := by rw [hW.out]; go_simp
  have hz : w.heap.size < W.heap.size := by rw [hW.out]; simp
  clear hW
  go_upto_region 3 with (go_at_call 37; (with_reducible refine (HR.out _ (h.inn.kept hbt)).mono ?_); rintro v w1 ⟨rfl, hb⟩)
  replace hbt := below2 hbt hb
  replace c0 := kept hb c0
  replace c1 := kept hb c1
  replace c2 := kept hb c2
  replace c3 := kept hb c3
  replace c4 := kept hb c4
  have hz1 := Nat.lt_of_lt_of_le hz hb.size
  go_upto_region 4 with fail
  refine wp_name (fun W4 hW4 => ?_)
  have hb4 : Below w1.heap.size w1 W4 := by rw [hW4.out]; go_grown
  have hlt4 : w1.heap.size < W4.heap.size := by rw [hW4.out]; simp
  obtain ⟨B, hBB⟩ : ∃ B, B = w1.heap.size := ⟨_, rfl⟩
  have H0 : Hold (fun k => k = B) W4 B W4 [] := by
    refine Hold.start ⟨rfl, .slice none 0 0, 0, by rw [hW4.out, hBB]; exact Array.getElem?_push_size, World.ownsRow_nil _ _ _ _, fun g hg => by cases hg⟩
  rw [← hBB] at hlt4 ⊢
  have hBw : w.heap.size < B := by omega
  replace hbt := below2 hbt hb4
  have hO : MsgOld W4 (fun k => k = B) ⟨kd, fr, ds, mk, am, cm, es, ae, ce⟩ := h.later hbt (fun k hk _ e => by omega)
  replace c0 := kept hb4 c0
  replace c1 := kept hb4 c1
  replace c2 := kept hb4 c2
  replace c3 := kept hb4 c3
  replace c4 := kept hb4 c4
  rw [hXK.out] at c0
  rw [hXF.out] at c1
  rw [hXD.out] at c2
  have hns : ¬ (w.heap.size = B) := by omega
  clear hW4 hb4 hb hBB hz hz1 h
  have H0d := H0.drew
  have N1 := Lib.hid (show Calls Tryz.prog 47 #[.pointer (some ⟨B, 0, none⟩), .int .u64 nk] W4.drew (RetHold (fun k => k = B) W4 B (shortB nk)) from by have := Num_h H0d nk (by simp) (by omega); rwa [List.nil_append] at this)
  have N2 := Lib.hid (fun (X : World) (h : Hold (fun k => k = B) W4 B X (shortB nk)) => Num_h h nf (by omega) (by omega))
  have N3 := Lib.hid (fun (X : World) (h : Hold (fun k => k = B) W4 B X (shortB nk ++ shortB nf)) => Num_h h nd (by simp only [List.length_append]; omega) (by omega))
  have N4 := Lib.hid (fun (X : World) (h : Hold (fun k => k = B) W4 B X (shortB nk ++ shortB nf ++ shortB nd)) => vecPut_h h am cm mk (by simp only [List.length_append]; omega) hmk0.out hO.inn.marks hO.om)
  have N5 := Lib.hid (fun (X : World) (h : Hold (fun k => k = B) W4 B X (shortB nk ++ shortB nf ++ shortB nd ++ marksB mk)) => Num_h h es.length (by omega) (by omega))
  have s0 : nk < 9223372036854775808 := by omega
  have s1 : nf < 9223372036854775808 := by omega
  have s2 : nd < 9223372036854775808 := by omega
  have u0 : nk < 18446744073709551616 := by omega
  have u1 : nf < 18446744073709551616 := by omega
  have u2 : nd < 18446744073709551616 := by omega
  have g0 : IntKind.u64.wrap ((nk : Nat) : Int) = ((nk : Nat) : Int) := IntWalk.u64_in _ (by omega)
  have g1 : IntKind.u64.wrap ((nf : Nat) : Int) = ((nf : Nat) : Int) := IntWalk.u64_in _ (by omega)
  have g2 : IntKind.u64.wrap ((nd : Nat) : Int) = ((nd : Nat) : Int) := IntWalk.u64_in _ (by omega)
  have k0 := H0d.kept c0 hns
  have k1 := H0d.kept c1 hns
  have k2 := H0d.kept c2 hns
  go_wp2_with fail
  go_region_held3 (fun W' => W'.cell? ⟨w.heap.size, 0, none⟩ = some (.int .i64 (nk : Nat)) ∧ W'.cell? ⟨w.heap.size, 1, none⟩ = some (.int .i64 (nf : Nat)) ∧ W'.cell? ⟨w.heap.size, 2, none⟩ = some (.int .i64 (nd : Nat))) (first | exact ⟨k0, k1, k2⟩ | go_keep)
    (first
      | (go_at_call 47; (with_reducible refine N1.out.mono ?_); rintro x wa ⟨rfl, Ha⟩; have k0 := Ha.kept c0 hns; have k1 := Ha.kept c1 hns; have k2 := Ha.kept c2 hns)
      | (go_at_call 47; (with_reducible refine (N2.out _ Ha).mono ?_); rintro x wb ⟨rfl, Hb⟩; have k0 := Hb.kept c0 hns; have k1 := Hb.kept c1 hns; have k2 := Hb.kept c2 hns)
      | (go_at_call 47; (with_reducible refine (N3.out _ Hb).mono ?_); rintro x wc ⟨rfl, Hc⟩; have k0 := Hc.kept c0 hns; have k1 := Hc.kept c1 hns; have k2 := Hc.kept c2 hns))
  replace c3 := Hc.kept c3 hns
  have Hcd := Hc
  clear g0 g1 g2 k0 k1 k2 c0 c1 c2 H0 H0d N1 N2 N3 Ha Hb Hc
  go_upto_region 6 with (go_at_call 75; (with_reducible refine (N4.out _ Hcd).mono ?_); rintro x we ⟨rfl, He⟩)
  have c4e := He.kept c4 hns
  go_upto_region 7 with (go_at_call 47; (with_reducible refine (N5.out _ He).mono ?_); rintro x wf ⟨rfl, Hf⟩)
  rw [← HH.out] at Hf
  have c4f := Hf.kept c4 hns
  clear He c4e N4 N5 Hcd c3
  have hpos : 0 < (msgHead (MsgIt.msg ⟨kd, fr, ds, mk, am, cm, es, ae, ce⟩)).length := by rw [HH.out]; have := List.length_pos_iff.2 (shortB_ne nk); simp only [List.length_append]; omega
  generalize hHd : msgHead (MsgIt.msg ⟨kd, fr, ds, mk, am, cm, es, ae, ce⟩) = HD at Hf HB hhl hpos
  clear hHd HH
  have h0 : Hold (fun k => k = B) W4 B wf (HD ++ evsB ((evsOf es).take 0)) := by simpa [evsB] using Hf
  go_wp2
  go_loopw [37] (fun i wr => ∃ k : Nat, k ≤ es.length ∧ i = .int .i64 k ∧ Hold (fun k => k = B) W4 B wr (HD ++ evsB ((evsOf es).take k))) (fun i _ => es.length - (intOf i).toNat)
  case atStart => exact ⟨0, Nat.zero_le _, rfl, h0⟩
  case round =>
    obtain ⟨k, hk, rfl, H⟩ := hrel
    have hln : (HD ++ evsB ((evsOf es).take k)).length ≤ 1048576 := by
      have := evsB_take (evsOf es) k
      rw [HB.out, List.length_append] at hlen
      rw [List.length_append]; omega
    by_cases hlt : k < es.length
    · have hEv : EvsIn wr ae es := H.evs hO
      obtain ⟨A, off, rfl, hra, _⟩ := hEv.at hlt
      have r1 := hra k hlt
      have hdx := hO.inn.evs.dots _ (List.getElem_mem hlt)
      have hox := hO.od _ (List.getElem_mem hlt)
      have hokx : evOk es[k].1 = true := hal.out _ (List.mem_map_of_mem (List.getElem_mem hlt))
      have g1 := @evsOf_at es k hlt
      have hsn : (evsOf es).take (k + 1) = (evsOf es).take k ++ [es[k].1] := by rw [List.take_succ_eq_append_getElem (by rw [evsOf_length]; exact hlt), g1]
      have HS : Hid (HD ++ evsB ((evsOf es).take (k + 1)) = HD ++ evsB ((evsOf es).take k) ++ evB es[k].1) := by rw [Hid, hsn, evsB_snoc, List.append_assoc]
      clear hra g1 hsn hEv h0
      generalize es[k] = x at r1 hdx hox hokx HS
      obtain ⟨e, ax, cx⟩ := x
      simp only [itEv] at r1 hdx hox hokx HS
      obtain ⟨L, hL⟩ : ∃ L, L = HD ++ evsB ((evsOf es).take k) := ⟨_, rfl⟩
      rw [← hL] at H hln HS
      have HP := Lib.hid (fun (X : World) (h : Hold (fun k => k = B) W4 B X L) => eventPut_h h e ax cx hln hokx hdx hox)
      clear hL hdx hox hokx
      go_upto_region 10 with (first
        | ((with_reducible refine wpList_load_evo _ A (off + k * 19) e ax cx r1 ?_ rfl ?_); exact rfl)
        | (refine wpList_store_new 34 _ _ _ (evCells e ax cx).toArray rfl rfl (by kernel_rfl) rfl (by kernel_rfl) ?_))
      refine wp_name (fun W1 hW1 => ?_)
      have H1 : Hold (fun k => k = B) W4 B W1 L := by rw [hW1.out]; exact H.alloc _
      have R1 : W1.rangeAt wr.heap.size 0 (evCells e ax cx) := by rw [hW1.out]; exact evCells_box e ax cx wr _
      clear hW1 H r1
      go_wp2_with (first
        | ((with_reducible refine wpList_load_evo _ wr.heap.size 0 e ax cx R1 ?_ rfl ?_); exact rfl)
        | (go_at_call 13; (with_reducible refine (HP.out _ H1).mono ?_); rintro v w3 ⟨rfl, H3⟩))
      go_roundw
      case rel => exact ⟨k + 1, by omega, by go_num, by rw [HS.out]; exact H3⟩
      case measure => simp [intOf] <;> omega
    · have hke : k = es.length := by omega
      subst hke
      have hE2 : HD ++ evsB ((evsOf es).take es.length) = msgB (MsgIt.msg ⟨kd, fr, ds, mk, am, cm, es, ae, ce⟩) := by rw [HB.out, ← evsOf_length es, List.take_length]
      rw [hE2] at H
      obtain ⟨LB, hLB⟩ : ∃ LB, LB = msgB (MsgIt.msg ⟨kd, fr, ds, mk, am, cm, es, ae, ce⟩) := ⟨_, rfl⟩
      have hne : LB ≠ [] := by
        intro e; rw [e] at hLB
        have := congrArg List.length hLB
        rw [HB.out, List.length_append] at this
        simp at this; omega
      rw [← hLB] at H hlen
      have HLBx := Lib.hid hLB
      have hbt4 : Below w.heap.size w wr := hbt.trans (H.fr.below (by omega) (fun k g => by omega))
      have HF := Lib.hid (show ∀ (X : World) (b : Option Addr) (c : Nat), BytesIn X b LB → Calls Tryz.prog 70 #[.slice none 0 0, .slice b LB.length c] X (RetOk ([] ++ frameB LB) X) from fun (X : World) (b : Option Addr) (c : Nat) (h : BytesIn X b LB) => FramePut_any none b 0 c [] LB X (by simp) hlen hne (Or.inl rfl) h)
      clear hE2 hLB hne HB hbt
      go_wp2_with (first
        | (go_at_call 15; (with_reducible refine (WBytes_h H (by omega)).mono ?_); rintro v w7 ⟨vb, rfl, hown, hb⟩; obtain ⟨ab, cb, rfl, hinb⟩ := own_bytes hown; replace hbt4 := below2 hbt4 hb)
        | (go_at_call 70; (with_reducible refine (HF.out _ _ _ hinb).mono ?_); rintro v w8 ⟨vf, rfl, hown2, hb2⟩))
      go_ret2
      rw [List.nil_append, HLBx.out] at hown2
      exact ⟨_, rfl, own_low hown2 hbt4.size, below2 hbt4 hb2⟩
end Go.Proofs.YtnpdfmpjjomhcaaGreat

/- A message's bytes, by the reference. Conditions: at most 2^20 bytes. -/
namespace Go.Proofs.YtnpdfmpjjomhcaaGreat
open Go.RowKit

set_option maxRecDepth 100000 in
set_option maxHeartbeats 8000000 in
theorem rMsgBytes_any (m : MsgIt) (w : World) (h : MsgIn w m) (hok : msgOk m.msg = true) (hlen : (msgB m.msg).length ≤ 1048576) :
    Calls Tryz.prog 39 #[msgVal m] w (RetBytes (frameB (msgB m.msg)) w) := by
  have hfit := msgOk_fit hok
  obtain ⟨kd, fr, ds, mk, am, cm, es, ae, ce⟩ := m
  obtain ⟨hk, hf, hd, hmk, hel, hall⟩ := hfit
  simp only [MsgIt.msg] at hk hf hd hmk hel hall
  rw [evsOf_length] at hel
  obtain ⟨nk, hnk⟩ : ∃ n : Nat, kd = n := ⟨kd.toNat, by omega⟩
  obtain ⟨nf, hnf⟩ : ∃ n : Nat, fr = n := ⟨fr.toNat, by omega⟩
  obtain ⟨nd, hnd⟩ : ∃ n : Nat, ds = n := ⟨ds.toNat, by omega⟩
  have bk : nk < 64 := by omega
  have bf : nf < 64 := by omega
  have bd : nd < 64 := by omega
  have HH : Hid (msgHead (MsgIt.msg ⟨kd, fr, ds, mk, am, cm, es, ae, ce⟩) = shortB nk ++ shortB nf ++ shortB nd ++ marksB mk ++ shortB es.length) := by
    unfold Hid msgHead MsgIt.msg; simp only [evsOf_length]; rw [hnk, hnf, hnd]; rfl
  have HB : Hid (msgB (MsgIt.msg ⟨kd, fr, ds, mk, am, cm, es, ae, ce⟩) = msgHead (MsgIt.msg ⟨kd, fr, ds, mk, am, cm, es, ae, ce⟩) ++ evsB (evsOf es)) := rfl
  have hml := (marksErr_all hmk).1
  have l1 := shortB_len10 nk (by omega)
  have l2 := shortB_len10 nf (by omega)
  have l3 := shortB_len10 nd (by omega)
  have l7 := shortB_len10 es.length (by omega)
  have l6 : (marksB mk).length ≤ 190000 := by
    have l4 := shortB_len10 mk.length (by omega)
    have l5 := dotsB_len mk
    unfold marksB; simp only [List.length_append]; omega
  have hXK := Lib.hid hnk
  have hXF := Lib.hid hnf
  have hXD := Lib.hid hnd
  have hal := Lib.hid hall
  have N1 := Lib.hid (fun (X : World) => rNumPut_any nk X (by omega))
  have N2 := Lib.hid (fun (X : World) => rNumPut_any nf X (by omega))
  have N3 := Lib.hid (fun (X : World) => rNumPut_any nd X (by omega))
  have N4 := Lib.hid (fun (X : World) (h : DotsIn X am mk) => rMarksPut_any am cm mk X hmk h)
  have N5 := Lib.hid (fun (X : World) => rNumPut_any es.length X (by omega))
  clear hok hnk hnf hnd hall hmk hk hf hd
  obtain ⟨A1, hA1⟩ : ∃ A1, A1 = shortB nk := ⟨_, rfl⟩
  obtain ⟨A2, hA2⟩ : ∃ A2, A2 = shortB nf := ⟨_, rfl⟩
  obtain ⟨A3, hA3⟩ : ∃ A3, A3 = shortB nd := ⟨_, rfl⟩
  obtain ⟨A4, hA4⟩ : ∃ A4, A4 = marksB mk := ⟨_, rfl⟩
  obtain ⟨A5, hA5⟩ : ∃ A5, A5 = shortB es.length := ⟨_, rfl⟩
  have hpos : 0 < A1.length := by rw [hA1]; exact List.length_pos_iff.2 (shortB_ne nk)
  rw [← hA1, ← hA2, ← hA3, ← hA4, ← hA5] at HH
  rw [← hA1] at N1 l1
  rw [← hA2] at N2 l2
  rw [← hA3] at N3 l3
  rw [← hA4] at N4 l6
  rw [← hA5] at N5 l7
  have m2 : (A1 ++ A2).length ≤ 20 := by rw [List.length_append]; omega
  have m3 : (A1 ++ A2 ++ A3).length ≤ 30 := by simp only [List.length_append]; omega
  have m4 : (A1 ++ A2 ++ A3 ++ A4).length ≤ 190030 := by simp only [List.length_append]; omega
  have m5 : (A1 ++ A2 ++ A3 ++ A4 ++ A5).length ≤ 190040 := by simp only [List.length_append]; omega
  clear hA1 hA2 hA3 hA4 hA5
  change Calls Tryz.prog 39 #[.agg #[.int .i64 kd, .int .i64 fr, .int .i64 ds, .slice am mk.length cm, .slice ae es.length ce]] w _
  go_enter Tryz.func39, Tryz.ntmps39
  go_upto_region 1 with fail
  refine wp_name (fun W hW => ?_)
  have hb0 : Below w.heap.size w W := by rw [hW.out]; go_grown
  have c0 : W.cell? ⟨w.heap.size, 0, none⟩ = some (.int .i64 kd) := by rw [hW.out]; go_simp
  have c1 : W.cell? ⟨w.heap.size, 1, none⟩ = some (.int .i64 fr) := by rw [hW.out]; go_simp
  have c2 : W.cell? ⟨w.heap.size, 2, none⟩ = some (.int .i64 ds) := by rw [hW.out]; go_simp
  have c3 : W.cell? ⟨w.heap.size, 3, none⟩ = some (.slice am mk.length cm) := by rw [hW.out]; go_simp
  have c4 : W.cell? ⟨w.heap.size, 4, none⟩ = some (.slice ae es.length ce) := by rw [hW.out]; go_simp
  have hm := h.kept hb0
  have hzw : w.heap.size < W.heap.size := by rw [hW.out]; simp
  rw [hXK.out] at c0
  rw [hXF.out] at c1
  rw [hXD.out] at c2
  clear hW h
  go_upto_region 2 with (go_at_call 61; (with_reducible refine (N1.out _).mono ?_); rintro x w1 ⟨v, rfl, hown, hbt⟩)
  replace c1 := kept hbt c1
  have C2 := Lib.hid c2
  have C3 := Lib.hid c3
  have C4 := Lib.hid c4
  clear c0 c2 c3 c4
  go_upto_region 3 with (first
    | (go_at_call 61; (with_reducible refine (N2.out _).mono ?_); rintro x wj ⟨vj, rfl, hown2, hb⟩; obtain ⟨ad, cp, rfl, hinx⟩ := own_bytes hown2; replace hown := own_below hown hb; replace hbt := below2 hbt hb; clear hown2 hb)
    | (at_builtin; refine wpList_append_bytes rfl _ _ rfl rfl W.heap.size _ A1 rfl hown ad A2 cp rfl hinx (by omega) hbt.size ?_; intro v3 w3 hown3 hg; replace hbt := hbt.grown hg hbt.size (fun k hk => (hown.lt k hk).1); replace hown := hown3; clear hown3 hg hinx)
    )
  have c2 := kept hbt C2.out
  go_upto_region 4 with (first
    | (go_at_call 61; (with_reducible refine (N3.out _).mono ?_); rintro x wj ⟨vj, rfl, hown2, hb⟩; obtain ⟨ad, cp, rfl, hinx⟩ := own_bytes hown2; replace hown := own_below hown hb; replace hbt := below2 hbt hb; clear hown2 hb)
    | (at_builtin; refine wpList_append_bytes rfl _ _ rfl rfl W.heap.size _ (A1 ++ A2) rfl hown ad A3 cp rfl hinx (by omega) hbt.size ?_; intro v3 w3 hown3 hg; replace hbt := hbt.grown hg hbt.size (fun k hk => (hown.lt k hk).1); replace hown := hown3; clear hown3 hg hinx)
    )
  have c3 := kept hbt C3.out
  have hmk := hm.marks.kept hbt
  go_upto_region 5 with (first
    | (go_at_call 84; (with_reducible refine (N4.out _ hmk).mono ?_); rintro x wj ⟨vj, rfl, hown2, hb⟩; obtain ⟨ad, cp, rfl, hinx⟩ := own_bytes hown2; replace hown := own_below hown hb; replace hbt := below2 hbt hb; clear hown2 hb)
    | (at_builtin; refine wpList_append_bytes rfl _ _ rfl rfl W.heap.size _ (A1 ++ A2 ++ A3) rfl hown ad A4 cp rfl hinx (by omega) hbt.size ?_; intro v3 w3 hown3 hg; replace hbt := hbt.grown hg hbt.size (fun k hk => (hown.lt k hk).1); replace hown := hown3; clear hown3 hg hinx)
    )
  have c4 := kept hbt C4.out
  go_upto_region 6 with (first
    | (go_at_call 61; (with_reducible refine (N5.out _).mono ?_); rintro x wj ⟨vj, rfl, hown2, hb⟩; obtain ⟨ad, cp, rfl, hinx⟩ := own_bytes hown2; replace hown := own_below hown hb; replace hbt := below2 hbt hb; clear hown2 hb)
    | (at_builtin; refine wpList_append_bytes rfl _ _ rfl rfl W.heap.size _ (A1 ++ A2 ++ A3 ++ A4) rfl hown ad A5 cp rfl hinx (by omega) hbt.size ?_; intro v3 w3 hown3 hg; replace hbt := hbt.grown hg hbt.size (fun k hk => (hown.lt k hk).1); replace hown := hown3; clear hown3 hg hinx)
    )
  rw [← HH.out] at hown m5
  clear c4 hmk c2 c3 c1
  generalize hHd : msgHead (MsgIt.msg ⟨kd, fr, ds, mk, am, cm, es, ae, ce⟩) = HD at hown HB HH m5
  have hpd : 0 < HD.length := by rw [HH.out]; simp only [List.length_append]; omega
  clear hHd HH
  go_wp2
  go_loopw [3, 4] (fun out i wr => ∃ k : Nat, k ≤ es.length ∧ i = .int .i64 k ∧ wr.ownsRow W.heap.size 5 1 out (HD ++ evsB ((evsOf es).take k)).length (byteVals (HD ++ evsB ((evsOf es).take k))) ∧ Below W.heap.size W wr) (fun _ i _ => es.length - (intOf i).toNat)
  case atStart => exact ⟨0, Nat.zero_le _, rfl, by simpa [evsB] using hown, hbt⟩
  case round =>
    clear hown hbt
    obtain ⟨k, hk, rfl, hown, hbt⟩ := hrel
    have hln : (HD ++ evsB ((evsOf es).take k)).length ≤ 1048576 := by
      have := evsB_take (evsOf es) k
      rw [HB.out, List.length_append] at hlen
      rw [List.length_append]; omega
    have c4 := kept hbt C4.out
    by_cases hlt : k < es.length
    · have hEv : EvsIn W ae es := hm.evs
      obtain ⟨A, off, rfl, hra, hdx⟩ := hEv.at hlt
      have r0 := hra k hlt
      have hokx : evOk es[k].1 = true := hal.out _ (List.mem_map_of_mem (List.getElem_mem hlt))
      have g1 := @evsOf_at es k hlt
      have hsn : (evsOf es).take (k + 1) = (evsOf es).take k ++ [es[k].1] := by rw [List.take_succ_eq_append_getElem (by rw [evsOf_length]; exact hlt), g1]
      have HS : Hid (HD ++ evsB ((evsOf es).take (k + 1)) = HD ++ evsB ((evsOf es).take k) ++ evB es[k].1) := by rw [Hid, hsn, evsB_snoc, List.append_assoc]
      clear hra g1 hsn hEv
      generalize es[k] = x at r0 hdx hokx HS
      obtain ⟨e, ax, cx⟩ := x
      simp only [itEv] at r0 hdx hokx HS
      obtain ⟨L, hL⟩ : ∃ L, L = HD ++ evsB ((evsOf es).take k) := ⟨_, rfl⟩
      rw [← hL] at hown hln HS
      have hel2 := evB_short hokx
      have HP := Lib.hid (fun (X : World) (h : DotsIn X ax e.over) => rEvPut_any e ax cx X h (evOk_short hokx).tiny hokx)
      obtain ⟨EB, hEB⟩ : ∃ EB, EB = evB e := ⟨_, rfl⟩
      rw [← hEB] at HP HS hel2
      clear hL hokx hEB
      go_wp2_with (first
        | ((with_reducible refine wpList_load_evo _ A (off + k * 19) e ax cx (rangeAt_kept r0 hbt) ?_ rfl ?_); exact rfl)
        | (go_at_call 18; (with_reducible refine (HP.out _ (hdx.kept hbt)).mono ?_); rintro x wj ⟨vj, rfl, hown2, hb⟩; obtain ⟨ad, cp, rfl, hinx⟩ := own_bytes hown2; replace hown := own_below hown hb; replace hbt := below2 hbt hb; clear hown2 hb)
        | (at_builtin; refine wpList_append_bytes rfl _ _ rfl rfl W.heap.size _ L rfl hown ad EB cp rfl hinx (by omega) hbt.size ?_; intro v3 w3 hown3 hg; replace hbt := hbt.grown hg hbt.size (fun k hk => (hown.lt k hk).1); replace hown := hown3; clear hown3 hg hinx)
        )
      go_roundw
      case rel => exact ⟨k + 1, by omega, by go_num, by rw [HS.out]; exact hown, hbt⟩
      case measure => simp [intOf] <;> omega
    · have hke : k = es.length := by omega
      subst hke
      have hE2 : HD ++ evsB ((evsOf es).take es.length) = msgB (MsgIt.msg ⟨kd, fr, ds, mk, am, cm, es, ae, ce⟩) := by rw [HB.out, ← evsOf_length es, List.take_length]
      rw [hE2] at hown
      obtain ⟨LB, hLB⟩ : ∃ LB, LB = msgB (MsgIt.msg ⟨kd, fr, ds, mk, am, cm, es, ae, ce⟩) := ⟨_, rfl⟩
      have hne : LB ≠ [] := by
        intro e; rw [e] at hLB
        have := congrArg List.length hLB
        rw [HB.out, List.length_append] at this
        simp at this; omega
      rw [← hLB] at hown hlen
      have HLBx := Lib.hid hLB
      obtain ⟨ab, cb, rfl, hinb⟩ := own_bytes hown
      have HF := Lib.hid (fun (X : World) (h : BytesIn X ab LB) => rFramePut_any ab cb LB X hlen hne h)
      clear hE2 hLB hne HB
      go_wp2_with (go_at_call 72; (with_reducible refine (HF.out _ hinb).mono ?_); rintro v w8 ⟨vf, rfl, hown2, hb2⟩)
      go_ret
      rw [HLBx.out] at hown2
      exact ⟨_, rfl, own_low hown2 (Nat.le_trans (Nat.le_of_lt hzw) hbt.size), below2 hb0 (below2 hbt hb2)⟩
end Go.Proofs.YtnpdfmpjjomhcaaGreat
