/- A writer through a chain of calls: one footprint from end to end. Conditions: as the calls have them. -/
import Derived.Test.YtohcmljigcdmbaaGreatWriter
import Derived.Test.YtohcmljigcdmbaaGreatLoad
set_option linter.unusedSimpArgs false
set_option linter.unusedVariables false
set_option linter.unnecessarySimpa false
set_option maxHeartbeats 16000000
set_option maxRecDepth 100000
namespace Go.Proofs.YtohcmljigcdmbaaGreat
open Go.RowKit
/-- S, what lies in w alone -/
def tight (S : Nat → Prop) (w : World) : Nat → Prop := fun k => S k ∧ k < w.heap.size
theorem Wr.tight {w : World} {S : Nat → Prop} {B : Nat} {l : Bytes} (h : Wr w S B l) : Wr w (tight S w) B l := by
 obtain ⟨h1, v, base, h2, h3, h4⟩ := h
 refine ⟨⟨h1, lt_of_block h2⟩, v, base, h2, h3, fun g hg => ⟨⟨(h4 g hg).1, ?_⟩, (h4 g hg).2⟩⟩
 rcases h3.2 with ⟨hv, hn⟩ | ⟨g', cap, cur, hv, hbs, hgg, rest⟩
 ·rw [hv] at hg; cases hg
 ·rw [hv] at hg
  obtain rfl : g' = g := by simpa [Value.ownBlock] using hg
  exact lt_of_block hgg
/-- since w0: the writer in block B has come to hold l; nothing of w0 has turned but S -/
structure Hold (S : Nat → Prop) (w0 : World) (B : Nat) (w : World) (l : Bytes) : Prop where
 wr : Wr w (grow S w0) B l
 fr : Fr S w0 w
variable {S : Nat → Prop} {w0 w w2 : World} {B : Nat} {l m : Bytes}
theorem Hold.start (h : Wr w S B l) : Hold S w B w l := ⟨h.mono fun _ g => Or.inl g, Fr.refl _ _⟩
theorem Hold.after (h : Hold S w0 B w l) (hw : Wr w2 (grow (Proofs.YtohcmljigcdmbaaGreat.tight (grow S w0) w) w) B m) (hf : Fr (Proofs.YtohcmljigcdmbaaGreat.tight (grow S w0) w) w w2) : Hold S w0 B w2 m := by
 refine ⟨hw.mono fun k g => ?_, h.fr.trans (hf.mono fun k _ g => g.1)⟩
 rcases g with g | g
 ·exact g.1
 ·exact Or.inr (Nat.le_trans h.fr.size g)
theorem Hold.below (h : Hold S w0 B w l) (hb : Below w.heap.size w w2) : Hold S w0 B w2 l :=
 ⟨h.wr.frame (Fr.of_below (S := fun _ => False) hb) (fun _ _ g => g), h.fr.trans ((Fr.of_below (S := fun _ => False) hb).mono fun _ _ g => g.elim)⟩
theorem Hold.drew (h : Hold S w0 B w l) : Hold S w0 B w.drew l := h.below (Below.refl w.heap.size w).drew
theorem Hold.kept (h : Hold S w0 B w l) {p : Addr} {v : Value} (hc : w0.cell? p = some v) (hs : ¬ S p.block) : w.cell? p = some v := h.fr.kept hc hs
theorem Hold.range (h : Hold S w0 B w l) {b o : Nat} {cs : List Value} (hc : w0.rangeAt b o cs) (hs : ¬ S b) : w.rangeAt b o cs := fun j v hv => h.kept (hc j v hv) hs
def RetHold (S : Nat → Prop) (w0 : World) (B : Nat) (m : Bytes) (e : Ending) (w' : World) : Prop := e = .returned (.pointer (some ⟨B, 0, none⟩)) ∧ Hold S w0 B w' m
theorem Hold.retWr (h : Hold S w0 B w l) {e : Ending} (k : RetWr (Proofs.YtohcmljigcdmbaaGreat.tight (grow S w0) w) B m w e w2) : RetHold S w0 B m e w2 := ⟨k.1, h.after k.2.1 k.2.2⟩
theorem Num_h (h : Hold S w0 B w l) (n : Nat) (hl : l.length ≤ 268435456) (hn : n < 18446744073709551616) :
 Calls Tryz.prog 76 #[.pointer (some ⟨B, 0, none⟩), .int .u64 n] w (RetHold S w0 B (l ++ shortB n)) :=
 (Num_any _ B l n w (by omega) hn h.wr.tight).mono fun _ _ k => h.retWr k
theorem Int_h (h : Hold S w0 B w l) (n : Int) (hl : l.length ≤ 268435456) (h0 : -4398046511104 ≤ n) (h1 : n ≤ 4398046511104) :
 Calls Tryz.prog 118 #[.pointer (some ⟨B, 0, none⟩), .int .i64 n] w (RetHold S w0 B (l ++ zigB n)) :=
 (Int_any _ B l n w (by omega) h0 h1 h.wr.tight).mono fun _ _ k => h.retWr k
theorem Text_h (h : Hold S w0 B w l) (s : ByteArray) (hl : l.length ≤ 268435456) (hs : s.size ≤ 268435456) :
 Calls Tryz.prog 101 #[.pointer (some ⟨B, 0, none⟩), .string s] w (RetHold S w0 B (l ++ textB (bl s))) :=
 (Text_any _ B l s w hl hs h.wr.tight).mono fun _ _ k => h.retWr k
theorem Flags_h (h : Hold S w0 B w l) (A : Nat) (fs : List Bool) (hl : l.length ≤ 268435456) (hf : fs.length ≤ 8) (hb : BoolsAt w A fs) :
 Calls Tryz.prog 117 #[.pointer (some ⟨B, 0, none⟩), .slice (some ⟨A, 0, none⟩) fs.length fs.length] w (RetHold S w0 B (l ++ [UInt8.ofNat (flagsN fs)])) :=
 (Flags_any _ B l A fs w (by omega) hf h.wr.tight hb).mono fun _ _ k => h.retWr k
def HoldUnit (S : Nat → Prop) (w0 : World) (B : Nat) (m : Bytes) (e : Ending) (w' : World) : Prop := e = .returned (.tuple #[]) ∧ Hold S w0 B w' m
theorem dotPut_h (h : Hold S w0 B w l) (d : Dot) (hl : l.length ≤ 268435456) :
 Calls Tryz.prog 116 #[.pointer (some ⟨B, 0, none⟩), .agg #[.int .i64 d.a.dev, .int .i64 d.a.inc, .int .i64 d.seq]] w (HoldUnit S w0 B (l ++ dotB d)) :=
 (dotPut_any _ B l d w (by omega) h.wr.tight (fun _ g => g.2)).mono fun _ _ k => ⟨k.1, h.after k.2.1 k.2.2⟩
theorem clockPut_h (h : Hold S w0 B w l) (d : Stamp) (hl : l.length ≤ 268435456) :
 Calls Tryz.prog 100 #[.pointer (some ⟨B, 0, none⟩), .agg #[.int .i64 d.wall, .int .i64 d.count, .int .i64 d.dev]] w (HoldUnit S w0 B (l ++ stampB d)) :=
 (clockPut_any _ B l d w (by omega) h.wr.tight (fun _ g => g.2)).mono fun _ _ k => ⟨k.1, h.after k.2.1 k.2.2⟩
theorem WBytes_h (h : Hold S w0 B w l) (hl : l.length ≤ 268435456) : Calls Tryz.prog 79 #[.pointer (some ⟨B, 0, none⟩)] w (RetBytes l w) :=
 WBytes_any _ B l w (by omega) h.wr
def dotsB (l : List Dot) : Bytes := (l.map dotB).flatten
def evHead (e : Ev) : Bytes := dotB e.dot ++ stampB e.stamp ++ [UInt8.ofNat (flagsN [e.kind == 1, e.ck.hostOnly, e.ck.secure, e.ck.httpOnly, e.ck.persistent])] ++ shortB e.over.length ++ dotsB e.over
def evTail (e : Ev) : Bytes := if e.kind = 1 then textB (bl e.key.name) ++ textB (bl e.key.domain) ++ textB (bl e.key.path) ++ textB (bl e.ck.value) ++ zigB e.ck.expiry ++ shortB e.ck.creation.toNat ++ shortB e.ck.access.toNat else []
def evB (e : Ev) : Bytes := evHead e ++ evTail e
theorem Flags5_h {S : Nat → Prop} {w0 w : World} {B : Nat} {l : Bytes} (h : Hold S w0 B w l) (b0 b1 b2 b3 b4 : Bool) (hl : l.length ≤ 268435456) :
 Calls Tryz.prog 117 #[.pointer (some ⟨B, 0, none⟩), .slice (some ⟨w.heap.size, 0, none⟩) 5 5] (w.alloc (Obj.cells #[.bool b0, .bool b1, .bool b2, .bool b3, .bool b4] 4)) (RetHold S w0 B (l ++ [UInt8.ofNat (flagsN [b0, b1, b2, b3, b4])])) := by
 refine Flags_h (h.below ((Below.refl _ _).alloc (Nat.le_refl _) _)) w.heap.size [b0, b1, b2, b3, b4] hl (by simp) ?_
 intro j hj
 rw [World.cell?_alloc_new]
 rcases j with _ | _ | _ | _ | _ | j
 all_goals first
  | rfl
  | (simp only [List.length_cons, List.length_nil] at hj; omega)
theorem dotB_len (d : Dot) : (dotB d).length ≤ 30 := by
 unfold dotB
 split
 ·rename_i h
  unfold dotOk actorOk at h
  simp at h
  have l1 := shortB_len10 d.a.dev.toNat (by omega)
  have l2 := shortB_len10 d.a.inc.toNat (by omega)
  have l3 := shortB_len10 d.seq.toNat (by omega)
  simp; omega
 ·simp
theorem dotsB_len : ∀ l : List Dot, (dotsB l).length ≤ 30 * l.length
 | [] => by simp [dotsB]
 | d :: r => by
   have h1 := dotB_len d
   have h2 := dotsB_len r
   unfold dotsB at h2 ⊢
   simp only [List.map_cons, List.flatten_cons, List.length_append, List.length_cons]
   omega
theorem dotsB_snoc (l : List Dot) (d : Dot) : dotsB (l ++ [d]) = dotsB l ++ dotB d := by simp [dotsB]
theorem stampB_len (d : Stamp) : (stampB d).length ≤ 30 := by
 unfold stampB
 split
 ·rename_i h
  unfold stampOk at h
  simp at h
  have l1 := shortB_len10 d.wall.toNat (by omega)
  have l2 := shortB_len10 d.count.toNat (by omega)
  have l3 := shortB_len10 d.dev.toNat (by omega)
  simp; omega
 ·simp
theorem Hold.rebase {S : Nat → Prop} {w W w' : World} {B : Nat} {l : Bytes} (h : Hold (tight S w) W B w' l) (hb : Below w.heap.size w W) : Hold S w B w' l := by
 refine ⟨h.wr.mono fun k g => ?_, ((Fr.of_below (S := S) hb)).trans (h.fr.mono fun k _ g => Or.inl g.1)⟩
 rcases g with g | g
 ·exact Or.inl g.1
 ·exact Or.inr (Nat.le_trans hb.size g)
theorem rangeAt_part {w : World} {b : Nat} {cs : List Value} (h : w.rangeAt b 0 cs) (o : Nat) (ds : List Value) (hd : ∀ j v, ds[j]? = some v → cs[o + j]? = some v) : w.rangeAt b o ds := fun j v hv => by
 have := h (o + j) v (hd j v hv)
 rwa [Nat.zero_add] at this
theorem ck_part (e : Ev) (a : Option Addr) (cap : Nat) : ∀ j v, (ckCells e.ck)[j]? = some v → (evCells e a cap)[10 + j]? = some v := by
 intro j v hv
 rcases j with _ | _ | _ | _ | _ | _ | _ | _ | j
 all_goals first
  | (simp at hv; done)
  | (simpa [evCells] using hv)
structure EvTiny (e : Ev) : Prop where
 name : e.key.name.size ≤ 16777216
 domain : e.key.domain.size ≤ 16777216
 path : e.key.path.size ≤ 16777216
 value : e.ck.value.size ≤ 16777216
theorem textB_len (l : Bytes) (h : l.length < 18446744073709551616) : (textB l).length ≤ l.length + 10 := by
 unfold textB
 have := shortB_len10 l.length h
 simp only [List.length_append]; omega
theorem zigB_len (n : Int) (h0 : -4398046511104 ≤ n) (h1 : n ≤ 4398046511104) : (zigB n).length ≤ 10 := shortB_len10 _ (by have := zig_lt n h0 h1; omega)
structure EvFit (e : Ev) : Prop where
 over : e.over.length ≤ 64
 kind : e.kind = 1 ∨ e.kind = 2
 item : e.kind = 1 → (0 ≤ e.ck.creation ∧ e.ck.creation ≤ 1099511627776) ∧ (0 ≤ e.ck.access ∧ e.ck.access ≤ 1099511627776) ∧ (-1099511627776 ≤ e.ck.expiry ∧ e.ck.expiry ≤ 1099511627776)
theorem evOk_fit {e : Ev} (h : evOk e = true) : EvFit e := by
 unfold evOk kindOk at h
 simp only [Bool.and_eq_true, decide_eq_true_eq] at h
 obtain ⟨_, _, _, h4, h5⟩ := h
 refine ⟨?_, ?_, fun h1 => ?_⟩
 ·unfold overOk at h4; simp at h4; exact h4.1
 ·by_cases h2 : e.kind = 2
  ·exact Or.inr h2
  ·rw [if_neg h2] at h5
   by_cases h1 : e.kind = 1
   ·exact Or.inl h1
   ·rw [if_neg h1] at h5; cases h5
 ·rw [if_neg (by omega), if_pos h1] at h5
  unfold itemOk timesOk at h5
  simp only [Bool.and_eq_true, decide_eq_true_eq] at h5
  obtain ⟨_, _, _, _, _, hx, hc, ha, _⟩ := h5
  exact ⟨hc, ha, hx⟩
theorem eventPut_yes (S : Nat → Prop) (B : Nat) (l : Bytes) (e : Ev) (a : Option Addr) (cap : Nat) (w : World) (hl : l.length ≤ 1048576) (hs : EvSmall e) (hsz : EvTiny e) (hover : DotsIn w a e.over) (hSA : ∀ A off, a = some ⟨A, off, none⟩ → e.over ≠ [] → ¬ S A) (h : Wr w S B l) (hyes : evOk e = true) :
 Calls Tryz.prog 77 #[.pointer (some ⟨B, 0, none⟩), evVal e a cap] w (HoldUnit S w B (l ++ evB e)) := by
 have hE0 := fun (W : World) (ho : DotsIn W a e.over) => eventRight_any e a cap W hs ho
 rw [hyes] at hE0
 have hE := Lib.hid hE0
 have HT := Lib.hid h.tight
 have hfit := Lib.hid (evOk_fit hyes)
 clear hE0 h hyes
 go_enter Tryz.func77, Tryz.ntmps77
 go_upto_region 1 with fail
 refine wp_name (fun W hW => ?_)
 have hbt : Below w.heap.size w W := by rw [hW.out]; go_grown
 have hz : W.heap.size = w.heap.size + 1 := by rw [hW.out]; simp
 have hR : W.rangeAt w.heap.size 0 (evCells e a cap) := by rw [hW.out]; exact evCells_box e a cap w _
 have hRc : W.rangeAt w.heap.size 10 (ckCells e.ck) := rangeAt_part hR 10 _ (ck_part e a cap)
 have ho := hover.kept hbt
 clear hW hover
 go_upto_region 3 with (first
  | ((with_reducible refine wpList_load_ev _ w.heap.size e a cap hR ?_ rfl ?_); exact rfl)
  | ((with_reducible refine wpList_load_at 31 _ w.heap.size 10 (ckCells e.ck) _ Tryz.underlying31 rfl (by kernel_rfl) hRc ?_ rfl ?_); exact rfl)
  | (go_at_call 32; refine (hE.out _ ho).mono ?_; rintro x w1 ⟨rfl, hb⟩; replace hR := rangeAt_kept hR hb; replace hRc := rangeAt_kept hRc hb; replace ho := ho.kept hb; replace hbt := below2 hbt hb; have hz1 := hb.size))
 refine wp_name (fun W2 hW2 => ?_)
 have hb2 : Below w1.heap.size w1 W2 := by rw [hW2.out]; go_grown
 have hbt2 : Below w.heap.size w W2 := below2 hbt hb2
 have QR : W2.rangeAt w.heap.size 0 (evCells e a cap) := rangeAt_kept hR hb2
 have Q0 : W2.cell? ⟨w.heap.size, 0, none⟩ = some (.int .i64 e.dot.a.dev) := QR 0 _ rfl
 have Q1 : W2.cell? ⟨w.heap.size, 1, none⟩ = some (.int .i64 e.dot.a.inc) := QR 1 _ rfl
 have Q2 : W2.cell? ⟨w.heap.size, 2, none⟩ = some (.int .i64 e.dot.seq) := QR 2 _ rfl
 have Q3 : W2.cell? ⟨w.heap.size, 3, none⟩ = some (.int .i64 e.stamp.wall) := QR 3 _ rfl
 have Q4 : W2.cell? ⟨w.heap.size, 4, none⟩ = some (.int .i64 e.stamp.count) := QR 4 _ rfl
 have Q5 : W2.cell? ⟨w.heap.size, 5, none⟩ = some (.int .i64 e.stamp.dev) := QR 5 _ rfl
 have Q6 : W2.cell? ⟨w.heap.size, 6, none⟩ = some (.int .i64 e.kind) := QR 6 _ rfl
 have Q7 : W2.cell? ⟨w.heap.size, 7, none⟩ = some (.string e.key.name) := QR 7 _ rfl
 have Q8 : W2.cell? ⟨w.heap.size, 8, none⟩ = some (.string e.key.domain) := QR 8 _ rfl
 have Q9 : W2.cell? ⟨w.heap.size, 9, none⟩ = some (.string e.key.path) := QR 9 _ rfl
 have Q10 : W2.cell? ⟨w1.heap.size, 0, none⟩ = some (.string e.ck.value) := by rw [hW2.out]; go_simp
 have Q11 : W2.cell? ⟨w1.heap.size, 1, none⟩ = some (.bool e.ck.hostOnly) := by rw [hW2.out]; go_simp
 have Q12 : W2.cell? ⟨w1.heap.size, 2, none⟩ = some (.bool e.ck.secure) := by rw [hW2.out]; go_simp
 have Q13 : W2.cell? ⟨w1.heap.size, 3, none⟩ = some (.bool e.ck.httpOnly) := by rw [hW2.out]; go_simp
 have Q14 : W2.cell? ⟨w1.heap.size, 4, none⟩ = some (.bool e.ck.persistent) := by rw [hW2.out]; go_simp
 have Q15 : W2.cell? ⟨w1.heap.size, 5, none⟩ = some (.int .i64 e.ck.expiry) := by rw [hW2.out]; go_simp
 have Q16 : W2.cell? ⟨w1.heap.size, 6, none⟩ = some (.int .i64 e.ck.creation) := by rw [hW2.out]; go_simp
 have Q17 : W2.cell? ⟨w1.heap.size, 7, none⟩ = some (.int .i64 e.ck.access) := by rw [hW2.out]; go_simp
 have Q18 : W2.cell? ⟨w.heap.size, 18, none⟩ = some (.slice a e.over.length cap) := QR 18 _ rfl
 have QO := ho.kept hb2
 have H : Hold (tight S w) W2 B W2 l := Hold.start (HT.out.frame (Fr.of_below (S := fun _ => False) hbt2) (fun _ _ g => g))
 have hns : ¬ tight S w w.heap.size := fun g => Nat.lt_irrefl _ g.2
 have hns1 : ¬ tight S w w1.heap.size := fun g => by have := g.2; omega
 have d1 := dotB_len e.dot
 have d2 := stampB_len e.stamp
 have d3 := shortB_len10 e.over.length (by have := hs.over; omega)
 have hov := hfit.out.over
 clear hW2 hR hRc hb hE
 have q0 := Q0
 have q1 := Q1
 have q2 := Q2
 have q3 := Q3
 have q4 := Q4
 have q5 := Q5
 have q6 := Q6
 have q7 := Q7
 have q8 := Q8
 have q9 := Q9
 have q10 := Q10
 have q11 := Q11
 have q12 := Q12
 have q13 := Q13
 have q14 := Q14
 have q15 := Q15
 have q16 := Q16
 have q17 := Q17
 have q18 := Q18
 go_wp2_with (first
  | (go_at_call 116; (with_reducible refine (dotPut_h H e.dot (by (try simp only [List.length_append, List.length_singleton]); omega)).mono ?_); rintro x wa ⟨rfl, H⟩; have q0 := H.kept Q0 hns; have q1 := H.kept Q1 hns; have q2 := H.kept Q2 hns; have q3 := H.kept Q3 hns; have q4 := H.kept Q4 hns; have q5 := H.kept Q5 hns; have q6 := H.kept Q6 hns; have q7 := H.kept Q7 hns; have q8 := H.kept Q8 hns; have q9 := H.kept Q9 hns; have q10 := H.kept Q10 hns1; have q11 := H.kept Q11 hns1; have q12 := H.kept Q12 hns1; have q13 := H.kept Q13 hns1; have q14 := H.kept Q14 hns1; have q15 := H.kept Q15 hns1; have q16 := H.kept Q16 hns1; have q17 := H.kept Q17 hns1; have q18 := H.kept Q18 hns)
  | (go_at_call 100; (with_reducible refine (clockPut_h H e.stamp (by (try simp only [List.length_append, List.length_singleton]); omega)).mono ?_); rintro x wa ⟨rfl, H⟩; have q0 := H.kept Q0 hns; have q1 := H.kept Q1 hns; have q2 := H.kept Q2 hns; have q3 := H.kept Q3 hns; have q4 := H.kept Q4 hns; have q5 := H.kept Q5 hns; have q6 := H.kept Q6 hns; have q7 := H.kept Q7 hns; have q8 := H.kept Q8 hns; have q9 := H.kept Q9 hns; have q10 := H.kept Q10 hns1; have q11 := H.kept Q11 hns1; have q12 := H.kept Q12 hns1; have q13 := H.kept Q13 hns1; have q14 := H.kept Q14 hns1; have q15 := H.kept Q15 hns1; have q16 := H.kept Q16 hns1; have q17 := H.kept Q17 hns1; have q18 := H.kept Q18 hns)
  | (go_at_call 117; (with_reducible refine (Flags5_h H _ _ _ _ _ (by (try simp only [List.length_append, List.length_singleton]); omega)).mono ?_); rintro x wa ⟨rfl, H⟩; have q0 := H.kept Q0 hns; have q1 := H.kept Q1 hns; have q2 := H.kept Q2 hns; have q3 := H.kept Q3 hns; have q4 := H.kept Q4 hns; have q5 := H.kept Q5 hns; have q6 := H.kept Q6 hns; have q7 := H.kept Q7 hns; have q8 := H.kept Q8 hns; have q9 := H.kept Q9 hns; have q10 := H.kept Q10 hns1; have q11 := H.kept Q11 hns1; have q12 := H.kept Q12 hns1; have q13 := H.kept Q13 hns1; have q14 := H.kept Q14 hns1; have q15 := H.kept Q15 hns1; have q16 := H.kept Q16 hns1; have q17 := H.kept Q17 hns1; have q18 := H.kept Q18 hns)
  | (go_at_call 76; (with_reducible refine (Num_h H e.over.length (by (try simp only [List.length_append, List.length_singleton]); omega) (by omega)).mono ?_); rintro x wa ⟨rfl, H⟩; have q0 := H.kept Q0 hns; have q1 := H.kept Q1 hns; have q2 := H.kept Q2 hns; have q3 := H.kept Q3 hns; have q4 := H.kept Q4 hns; have q5 := H.kept Q5 hns; have q6 := H.kept Q6 hns; have q7 := H.kept Q7 hns; have q8 := H.kept Q8 hns; have q9 := H.kept Q9 hns; have q10 := H.kept Q10 hns1; have q11 := H.kept Q11 hns1; have q12 := H.kept Q12 hns1; have q13 := H.kept Q13 hns1; have q14 := H.kept Q14 hns1; have q15 := H.kept Q15 hns1; have q16 := H.kept Q16 hns1; have q17 := H.kept Q17 hns1; have q18 := H.kept Q18 hns))
 obtain ⟨LL, hLL⟩ : ∃ LL, LL = l ++ dotB e.dot ++ stampB e.stamp ++ [UInt8.ofNat (flagsN [e.kind == 1, e.ck.hostOnly, e.ck.secure, e.ck.httpOnly, e.ck.persistent])] ++ shortB e.over.length := ⟨_, rfl⟩
 have hLn : LL.length ≤ 1048700 := by rw [hLL]; simp only [List.length_append, List.length_singleton]; omega
 rw [← hLL] at H
 have HLL := Lib.hid hLL
 clear hLL
 clear q0
 clear q1
 clear q2
 clear q3
 clear q4
 clear q5
 clear q6
 clear q7
 clear q8
 clear q9
 clear q10
 clear q11
 clear q12
 clear q13
 clear q14
 clear q15
 clear q16
 clear q17
 clear q18
 go_loopw [43] (fun i wr => ∃ k : Nat, k ≤ e.over.length ∧ i = .int .i64 k ∧ Hold (tight S w) W2 B wr (LL ++ dotsB (e.over.take k))) (fun i _ => e.over.length - (intOf i).toNat)
 case atStart => exact ⟨0, Nat.zero_le _, rfl, by simpa [dotsB] using H⟩
 case round =>
  obtain ⟨k, hk, rfl, H⟩ := hrel
  by_cases hlt : k < e.over.length
  ·have hdl := dotsB_len (e.over.take k)
   rw [List.length_take, Nat.min_eq_left hk] at hdl
   have hsn := dotsB_snoc (e.over.take k) e.over[k]
   rw [← List.take_succ_eq_append_getElem hlt] at hsn
   have HS := Lib.hid hsn
   clear hsn
   rcases QO with hnil | ⟨A, off, rfl, hd⟩
   ·rw [hnil] at hlt; cases hlt
   ·have hnA : ¬ tight S w A := fun g => hSA A off rfl (fun h0 => by rw [h0] at hlt; simp at hlt) g.1
    have x0 := H.kept (hd.dev k hlt) hnA
    have x1 := H.kept (hd.inc k hlt) hnA
    have x2 := H.kept (hd.seq k hlt) hnA
    generalize e.over[k] = d at x0 x1 x2 HS
    have hb0 : Below wr.heap.size wr (wr.alloc (Obj.cells #[.int .i64 d.a.dev, .int .i64 d.a.inc, .int .i64 d.seq] 25)) := (Below.refl _ _).alloc (Nat.le_refl _) _
    have hbx : ∀ W', Below wr.heap.size wr W' → Hold (tight S w) W2 B W' (LL ++ dotsB (e.over.take k)) := fun _ hb => H.below hb
    go_upto_region 10 with fail
    refine wp_name (fun W3 hW3 => ?_)
    have hb3 : Below wr.heap.size wr W3 := by rw [hW3.out]; go_grown
    have y0 : W3.cell? ⟨wr.heap.size, 0, none⟩ = some (.int .i64 d.a.dev) := by rw [hW3.out]; go_simp
    have y1 : W3.cell? ⟨wr.heap.size, 1, none⟩ = some (.int .i64 d.a.inc) := by rw [hW3.out]; go_simp
    have y2 : W3.cell? ⟨wr.heap.size, 2, none⟩ = some (.int .i64 d.seq) := by rw [hW3.out]; go_simp
    replace H := H.below hb3
    clear hW3 x0 x1 x2 hbx hb0
    go_wp2_with (go_at_call 116; (with_reducible refine (dotPut_h H d (by (try simp only [List.length_append, List.length_singleton]); omega)).mono ?_); rintro x wa ⟨rfl, H⟩)
    go_roundw
    case rel => exact ⟨k + 1, by omega, by go_num, by rw [HS.out, ← List.append_assoc]; exact H⟩
    case measure => simp [intOf] <;> omega
  ·have htk : e.over.take k = e.over := List.take_of_length_le (by omega)
   rw [htk] at H
   clear htk
   have hdl := dotsB_len e.over
   have q0 := H.kept Q0 hns; have q1 := H.kept Q1 hns; have q2 := H.kept Q2 hns; have q3 := H.kept Q3 hns; have q4 := H.kept Q4 hns; have q5 := H.kept Q5 hns; have q6 := H.kept Q6 hns; have q7 := H.kept Q7 hns; have q8 := H.kept Q8 hns; have q9 := H.kept Q9 hns; have q10 := H.kept Q10 hns1; have q11 := H.kept Q11 hns1; have q12 := H.kept Q12 hns1; have q13 := H.kept Q13 hns1; have q14 := H.kept Q14 hns1; have q15 := H.kept Q15 hns1; have q16 := H.kept Q16 hns1; have q17 := H.kept Q17 hns1; have q18 := H.kept Q18 hns
   have hk0 := hfit.out.kind
   by_cases hk1 : e.kind = 1
   ·have e1 : (e.kind == 1) = true := beq_iff_eq.2 hk1
    have HE : Hid (l ++ evB e = LL ++ dotsB e.over ++ textB (bl e.key.name) ++ textB (bl e.key.domain) ++ textB (bl e.key.path) ++ textB (bl e.ck.value) ++ zigB e.ck.expiry ++ shortB e.ck.creation.toNat ++ shortB e.ck.access.toNat) := by
     rw [Hid, HLL.out]; unfold evB evHead evTail; rw [if_pos hk1]; simp
    obtain ⟨⟨f1, f2⟩, ⟨f3, f4⟩, f5, f6⟩ := hfit.out.item hk1
    obtain ⟨y, hy⟩ : ∃ y : Nat, e.ck.creation = y := ⟨e.ck.creation.toNat, by omega⟩
    obtain ⟨z, hz'⟩ : ∃ z : Nat, e.ck.access = z := ⟨e.ck.access.toNat, by omega⟩
    rw [hy, hz'] at HE
    rw [hy] at f1 f2 Q16 q16
    rw [hz'] at f3 f4 Q17 q17
    simp only [Int.toNat_natCast] at HE
    have hwy : IntKind.u64.wrap (y : Int) = (y : Int) := IntWalk.u64_in _ (by omega)
    have hwz : IntKind.u64.wrap (z : Int) = (z : Int) := IntWalk.u64_in _ (by omega)
    clear hk1 hk0 hy hz'
    obtain ⟨L0, hL0⟩ : ∃ L0, L0 = LL ++ dotsB e.over := ⟨_, rfl⟩
    have hL0n : L0.length ≤ 1060000 := by rw [hL0, List.length_append]; omega
    rw [← hL0] at H HE
    clear hL0
    obtain ⟨s1, s2, s3, s4⟩ := hsz
    have t1 := textB_len (bl e.key.name) (by rw [bl_length]; omega)
    have t2 := textB_len (bl e.key.domain) (by rw [bl_length]; omega)
    have t3 := textB_len (bl e.key.path) (by rw [bl_length]; omega)
    have t4 := textB_len (bl e.ck.value) (by rw [bl_length]; omega)
    simp only [bl_length] at t1 t2 t3 t4
    have t5 := zigB_len e.ck.expiry (by omega) (by omega)
    have t6 := shortB_len10 y (by omega)
    have HD := H.drew
    have H1 := Lib.hid (Text_h HD e.key.name (by omega) (by omega))
    have H2 := Lib.hid (fun (W : World) (h : Hold (tight S w) W2 B W (L0 ++ textB (bl e.key.name))) => Text_h h e.key.domain (by simp only [List.length_append]; omega) (by omega))
    have H3 := Lib.hid (fun (W : World) (h : Hold (tight S w) W2 B W (L0 ++ textB (bl e.key.name) ++ textB (bl e.key.domain))) => Text_h h e.key.path (by simp only [List.length_append]; omega) (by omega))
    have H4 := Lib.hid (fun (W : World) (h : Hold (tight S w) W2 B W (L0 ++ textB (bl e.key.name) ++ textB (bl e.key.domain) ++ textB (bl e.key.path))) => Text_h h e.ck.value (by simp only [List.length_append]; omega) (by omega))
    go_wp2
    have r7 := HD.kept Q7 hns
    have r8 := HD.kept Q8 hns
    have r9 := HD.kept Q9 hns
    have r10 := HD.kept Q10 hns1
    clear q0 q1 q2 q3 q4 q5 q6 q7 q8 q9 q10 q11 q12 q13 q14 q15 q16 q17 q18
    go_region_held3 (fun w' => w'.cell? ⟨w.heap.size, 7, none⟩ = some (.string e.key.name) ∧ w'.cell? ⟨w.heap.size, 8, none⟩ = some (.string e.key.domain) ∧ w'.cell? ⟨w.heap.size, 9, none⟩ = some (.string e.key.path) ∧ w'.cell? ⟨w1.heap.size, 0, none⟩ = some (.string e.ck.value)) (first | exact ⟨k7, k8, k9, k10⟩ | go_keep)
     (first
      | (go_at_call 101; (with_reducible refine H1.out.mono ?_); rintro x wa ⟨rfl, Ha⟩; have k7 := Ha.kept Q7 hns; have k8 := Ha.kept Q8 hns; have k9 := Ha.kept Q9 hns; have k10 := Ha.kept Q10 hns1)
      | (go_at_call 101; (with_reducible refine (H2.out _ Ha).mono ?_); rintro x wb ⟨rfl, Hb⟩; have k7 := Hb.kept Q7 hns; have k8 := Hb.kept Q8 hns; have k9 := Hb.kept Q9 hns; have k10 := Hb.kept Q10 hns1)
      | (go_at_call 101; (with_reducible refine (H3.out _ Hb).mono ?_); rintro x wc ⟨rfl, Hc⟩; have k7 := Hc.kept Q7 hns; have k8 := Hc.kept Q8 hns; have k9 := Hc.kept Q9 hns; have k10 := Hc.kept Q10 hns1)
      | (go_at_call 101; (with_reducible refine (H4.out _ Hc).mono ?_); rintro x wd ⟨rfl, Hd⟩; have k7 := Hd.kept Q7 hns; have k8 := Hd.kept Q8 hns; have k9 := Hd.kept Q9 hns; have k10 := Hd.kept Q10 hns1))
    obtain ⟨M, hM⟩ : ∃ M, M = L0 ++ textB (bl e.key.name) ++ textB (bl e.key.domain) ++ textB (bl e.key.path) ++ textB (bl e.ck.value) := ⟨_, rfl⟩
    have hMn : M.length ≤ 100000000 := by rw [hM]; simp only [List.length_append]; omega
    rw [← hM] at Hd HE
    clear hM
    have HD2 := Hd.drew
    have I1 := Lib.hid (Int_h HD2 e.ck.expiry (by omega) (by omega) (by omega))
    have I2 := Lib.hid (fun (W : World) (h : Hold (tight S w) W2 B W (M ++ zigB e.ck.expiry)) => Num_h h y (by simp only [List.length_append]; omega) (by omega))
    have I3 := Lib.hid (fun (W : World) (h : Hold (tight S w) W2 B W (M ++ zigB e.ck.expiry ++ shortB y)) => Num_h h z (by simp only [List.length_append]; omega) (by omega))
    go_wp2
    have r15 := HD2.kept Q15 hns1
    have r16 := HD2.kept Q16 hns1
    have r17 := HD2.kept Q17 hns1
    go_region_held3 (fun w' => w'.cell? ⟨w1.heap.size, 5, none⟩ = some (.int .i64 e.ck.expiry) ∧ w'.cell? ⟨w1.heap.size, 6, none⟩ = some (.int .i64 y) ∧ w'.cell? ⟨w1.heap.size, 7, none⟩ = some (.int .i64 z)) (first | exact ⟨k15, k16, k17⟩ | go_keep)
     (first
      | (go_at_call 118; (with_reducible refine I1.out.mono ?_); rintro x we ⟨rfl, He⟩; have k15 := He.kept Q15 hns1; have k16 := He.kept Q16 hns1; have k17 := He.kept Q17 hns1)
      | (go_at_call 76; (with_reducible refine (I2.out _ He).mono ?_); rintro x wf ⟨rfl, Hf⟩; have k15 := Hf.kept Q15 hns1; have k16 := Hf.kept Q16 hns1; have k17 := Hf.kept Q17 hns1)
      | (go_at_call 76; (with_reducible refine (I3.out _ Hf).mono ?_); rintro x wg ⟨rfl, Hg⟩; have k15 := Hg.kept Q15 hns1; have k16 := Hg.kept Q16 hns1; have k17 := Hg.kept Q17 hns1))
    go_wp2
    go_end0
    exact ⟨rfl, by rw [HE.out]; exact Hg.rebase hbt2⟩
   ·have e1 : (e.kind == 1) = false := beq_eq_false_iff_ne.2 hk1
    have HE : Hid (l ++ evB e = LL ++ dotsB e.over) := by
     rw [Hid, HLL.out]; unfold evB evHead evTail; rw [if_neg hk1]; simp
    clear hk1 hk0
    go_wp2
    go_end0
    exact ⟨rfl, by rw [HE.out]; exact H.rebase hbt2⟩
end Go.Proofs.YtohcmljigcdmbaaGreat
